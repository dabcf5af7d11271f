/- The law FnTexts returns true for every input, and its arguments read behind the call as they read before. No condition. -/
import Derived.Test.YtljcjahaeebocaaGreatDoorJl
import Derived.Test.YtljcjahaeebocaaGreatDoorJr
import Derived.Test.YtljcjahaeebocaaGreatDoorWs
import Derived.Test.YtljcjahaeebocaaGreatDoorCards
import Derived.Test.YtljcjahaeebocaaGreatDoorTie
import Derived.ProofKit
import Derived.OpenShut
import Derived.LaidMore
import Derived.Lay
import Derived.SevenTiedAt
import Derived.Stop.Joined
import Derived.Stop.LaidErr
open Go Go.RowKit Go.Proofs
namespace Go.Proofs.YtljcjahaeebocaaGreatDoor.fnTexts
open Go.ChangeShapes Go.WideShapes Go.ChangeAt Go.RowKit Evl Evl.T
theorem laidOut : laidOutB Tryz.prog = true := by kernel_rfl
theorem own : ownKnob Tryz.prog.godebug = none := by kernel_rfl
theorem eqOk : EqtOk Tryz.prog Evl.T.H := eqt_of fun t ht => by
  have h : [25, 122].contains t = true := ht
  have : t = 25 ∨ t = 122 := by simpa using h
  rcases this with rfl | rfl
  · exact .inl ⟨by kernel_rfl, by kernel_rfl, by kernel_rfl, by kernel_rfl, by kernel_rfl⟩
  · exact .inr ⟨⟨3, 3, (Tryz.prog.info? 3).get (by kernel_rfl), by kernel_rfl, (Option.some_get _).symm, by kernel_rfl, by kernel_rfl, by kernel_rfl, by kernel_rfl⟩, by kernel_rfl⟩
abbrev laidL : List (String × DataW Unit) := [("math/bits.deBruijn32tab", Rows.laid_math_bits_deBruijn32tab), ("math/bits.deBruijn64tab", Rows.laid_math_bits_deBruijn64tab), ("internal/strconv.uint64pow10", Rows.laid_internal_strconv_uint64pow10)]
theorem callsT {P : Program} {f : FuncId} {args : List AV} {G : GP} (h : CallOk P G f args nob (bl true) nob) (W : World) (vs : List Value) (V0 : Nat → Nat) (hle : ∀ g, Evl.T.cellsIn W g ≤ V0 g) (hlt : ∀ g, 0 < V0 g → g < W.heap.size) (hG : G (fun _ => False) V0 W) (ha : ArgsOk W vs args) :
    Calls P f vs.toArray W fun e w' => e = .returned (.bool true) ∧ Go.RowKit.Below W.heap.size W w' := by
  have hl : vs.length = args.length := by clear h; induction ha with | nil => rfl | cons _ _ ih => simp [ih]
  have hn : Evl.Next (Evl.T.cellsIn W) V0 W W := ⟨fun _ _ _ => rfl, hle, Nat.le_refl _⟩
  have hg : ∀ (i : Nat) (x : AV), args[i]? = some x → ∃ v, vs[i]? = some v ∧ RepV V0 W (fun _ => (0, 0)) [] v x := by
    clear h hl
    induction ha with
    | nil => intro i x hx; cases hx
    | cons h _ ih =>
      intro i x hx
      cases i with
      | zero => cases hx; exact ⟨_, rfl, h.next hn (fun g hg => by cases hg) [] (fun _ _ => rfl)⟩
      | succ i => exact ih i x hx
  refine Calls.mono (h W V0 V0 (fun _ => (0, 0)) (fun _ => none) vs (by simpa using hG) (fun _ => Nat.le_refl _) (fun _ _ => rfl) ⟨hl, fun i x hx => ?_, fun b x hb => (by cases hb), fun g l hg => (by cases hg), fun g hg => hlt g hg⟩) fun e w' hen => ?_
  · obtain ⟨v, h1, h2⟩ := hg i x hx
    exact ⟨v, [], h1, List.nodup_nil, by simp, h2⟩
  · obtain ⟨v, rfl, V1, O1, fp, b1, b2, b3, b4, b5, b6, hq, b7, b8⟩ := hen
    have hv : v = .bool true := by
      cases hq with
      | one _ _ _ hr => cases hr with
        | v K _ _ _ hu hi => cases hu with
          | one h => cases h with
            | lit hp h => rfl
          | p h => cases h
    subst hv
    exact ⟨rfl, ⟨b1.os, b1.tape, b1.output, b1.sz, fun k hk => b1.old k hk (by simp)⟩⟩
theorem tabD : Rows.laid_internal_strconv_uint64pow10 = (Lib.tabData .u64 Lib.pow10Tab : DataW Unit) := by kernel_rfl
theorem tab_of {W : World} (h : laidMetH Tryz.prog laidL W) : Lib.TabIs Tryz.prog W "internal/strconv.uint64pow10" .u64 Lib.pow10Tab := by
  have h1 : laidMet Tryz.prog laidL W := by rwa [MakeChecks.laidMetH_plain _ _ _ (by kernel_rfl)] at h
  have h := laidMet.tail (laidMet.tail (h1))
  rw [tabD] at h
  exact Lib.tabIs_of_head (g := 1) (t := 145) (e := 129) (n := 20) (by kernel_rfl) (by kernel_rfl) Tryz.underlying145 Tryz.underlying129 (by kernel_rfl) (by kernel_rfl) h
def V1 (W : World) (g : Nat) : Nat := if g = 1 then 21 else Evl.T.cellsIn W g
theorem iv_of {W : World} (h : Lib.TabIs Tryz.prog W "internal/strconv.uint64pow10" .u64 Lib.pow10Tab) : TabIv Tryz.prog (V1 W) W ∧ (∀ g, Evl.T.cellsIn W g ≤ V1 W g) ∧ ∀ g, 0 < V1 W g → g < W.heap.size := by
  unfold Lib.TabIs World.var? at h
  rw [show Tryz.prog.globalNamed "internal/strconv.uint64pow10" = some 1 by kernel_rfl, Option.bind_some] at h
  cases e : W.heap[1]? with
  | none => rw [e] at h; cases h
  | some x =>
    have hs : 1 < W.heap.size := (Array.getElem?_eq_some_iff.1 e).1
    rw [e] at h
    cases x with
    | cells cs T fz =>
      have hc : cs = tabA := Option.some.inj h
      subst hc
      refine ⟨⟨1, T, fz, by kernel_rfl, e, by unfold V1; rw [if_pos rfl]; omega⟩, fun g => ?_, fun g hg => ?_⟩
      · unfold V1
        split
        · rename_i hg
          subst hg
          have : Evl.T.cellsIn W 1 = tabA.size := by unfold Evl.T.cellsIn; rw [e]
          rw [this, tabA_size]; omega
        · exact Nat.le_refl _
      · unfold V1 at hg
        split at hg
        · rename_i h'; subst h'; exact hs
        · exact Evl.T.cellsIn_lt hg
    | _ => cases h
theorem walk (a0 : List Int) (g0 : a0.length ≤ maxLen ∧ ∀ s ∈ a0, ByGood s) (v0 : Value) (W : World) (hT : Lib.TabIs Tryz.prog W "internal/strconv.uint64pow10" .u64 Lib.pow10Tab) (k0 : RepV (Evl.T.cellsIn W) W (fun _ => (0, 0)) [] v0 (.sl false 1 a0.length (eU8.f a0))) :
    Calls Tryz.prog 3 #[v0] W fun e w' => e = .returned (.bool true) ∧ Go.RowKit.Below W.heap.size W w' := by
  obtain ⟨n, hn⟩ := plain_FnTexts a0 g0
  obtain ⟨i1, i2, i3⟩ := iv_of hT
  exact callsT (big_sound eqOk (by decide +kernel) (fun _ _ _ _ h k => TabIv.next h k) (fun _ _ _ _ _ h => h.elim) (yt_ok Go.Proofs.Tryz.itoa Go.Proofs.Tryz.join Go.Proofs.Tryz.joinX (fun _ _ h => h) rfl rfl) (Tlaws_FnTexts n a0 true hn)).1 W [v0] (V1 W) i2 i3 ⟨i1, fun e => by cases e⟩ (.cons k0 .nil)
set_option maxRecDepth 100000 in
theorem lifted (os : Os) (started : os.Started) (H : Type) (enc : TypeId × Value → H) :
    ReturnsInHanded {} Tryz.checked os 3 .any (fun w args => (Rows.fnTextsSpec.pre enc Tryz.prog Tryz.f3 Rows.fnTextsRow.domain false w args ∧ laidMetH Tryz.prog laidL w) ∧ sizedMet enc Tryz.prog Tryz.f3 (OpenSpec.ofChange Rows.fnTextsSpec) false w args)
      (Rows.fnTextsSpec.post enc Tryz.prog Tryz.f3 false true false false) := by
  refine returnsInHanded_of_change_and (C := Tryz.checked) (X := fun w _ => laidMetH Tryz.prog laidL w) (fun _ _ _ hh h => h.of_heap hh) own started (by kernel_rfl) Tryz.func3
    (ChangeSpec.witness_shaped (enc := enc) (C := Tryz.checked) (os := os) (X := fun w _ => laidMetH Tryz.prog laidL w) false (World.laidAll Tryz.prog os laidL) #[.slice none 0 0] 8 (World.laidAll_os _ _ _)
      (World.shaped_of_ZipB (by kernel_rfl) (by kernel_rfl)) (by kernel_rfl) (by kernel_rfl) (by kernel_rfl)
      (by rw [MakeChecks.laidMetH_plain _ _ _ (by kernel_rfl)]; exact laidMet_laidAll _ (by kernel_rfl) (by kernel_rfl))) ?_
  intro W base args ds gs before hval0 hW hc _ hL _
  have hval : ∀ (j : Nat) t v, Tryz.f3.params[j]? = some t → args[j]? = some v → Value.okWide Tryz.prog W .any base t v := hval0
  have hW' := hW
  obtain ⟨p, q, hA0, hV, rfl, hfz, hnd⟩ := hW
  have hA : DataW.TrodAll enc Tryz.prog W 0 (fun _ => true) true Tryz.f3.params.toList args.toList ds p := hA0
  rw [Tryz.params3] at hA hval
  obtain ⟨v0, vs0, d0, ds0, p0, q0, hargs, rfl, rfl, h0, r0⟩ := trodAll_cons hA
  obtain ⟨rfl, rfl, rfl⟩ := trodAll_nil r0
  obtain rfl : args = #[v0] := by cases args; simp_all
  obtain ⟨rfl, rfl⟩ := trodVars_none hV
  have hlt0 : ∀ x ∈ p0, x.block < W.heap.size := fun x hx => hW'.lt x (by simp [hx])
  obtain ⟨a0, g0, k0⟩ := opens_bys Tryz.underlying5 (by kernel_rfl) Tryz.underlying22 (hval 0 22 v0 rfl rfl) h0
  clear hA0 hval0
  refine (walk a0 g0 v0 W (tab_of hL) k0).mono fun e W' ⟨he, bel⟩ => ?_
  subst he
  exact ⟨_, rfl, _, _, _, [], _, [], hW', trodAll_mk1 (shut_bool Tryz.underlying4 _), (trodAll_cons_mk (Below.trod laidOut (by kernel_rfl) (of_decide_eq_true (by kernel_rfl)) h0 bel hlt0) trodAll_mk0), rfl, bel.frame _, fun h => by cases h⟩
theorem over : Rows.fnTextsRow.holds Tryz.pinned (OpenSpec.ofChange Rows.fnTextsSpec) :=
  OpenClaim.holds_of_wide 3 Tryz.f3 rfl rfl rfl rfl rfl rfl rfl ⟨rfl, rfl, rfl, rfl, rfl⟩ rfl rfl rfl rfl rfl (by kernel_rfl) Tryz.func3 (by kernel_rfl)
    (of_decide_eq_true (by kernel_rfl)) (by unfold Func.isWrapper; first | (rw [if_pos (by decide +kernel)]; kernel_rfl) | (rw [if_neg (by decide +kernel)]; exact ⟨rfl, rfl⟩))
    (fun os started H enc _ => lifted os started H enc)
theorem proved : Rows.FnTextsCardSaid :=
  Claim7.holds_tied_plain_at .later [] [.data, .data, .data] true (true, "a5447986fd4f58fc3d7e0b26eb2c358cf5da2cf2d3c271194149055ee1e94d26") false over (fun _ h => by cases h) (by kernel_rfl) (fun _ h => by cases h) fnTexts_row_tie rfl ⟨rfl, rfl⟩ (by kernel_rfl) rfl
    (fun f fn hf hfn => by
      obtain rfl : f = 3 := Option.some.inj ((show Tryz.prog.funcNamed "loop.example/g00125/laws.FnTexts" = some 3 by kernel_rfl).symm.trans hf) |>.symm
      obtain rfl : fn = Tryz.f3 := (Option.some.inj (Tryz.func3.symm.trans hfn)).symm
      exact ⟨by kernel_rfl, fun j t ht => by
        rw [Tryz.params3] at ht
        have hm : t ∈ [22] := by simpa using Array.mem_of_getElem? ht
        have hall : ([22].all fun u => !Tryz.prog.wantsStandIn u) = true := by kernel_rfl
        exact (show Tryz.prog.wantsStandIn t = false by simpa using List.all_eq_true.1 hall t hm)⟩)
    (by kernel_rfl)
end Go.Proofs.YtljcjahaeebocaaGreatDoor.fnTexts
namespace Go.Proofs.YtljcjahaeebocaaGreatDoor
theorem fnTexts_holds : Rows.FnTextsCardSaid := fnTexts.proved
end Go.Proofs.YtljcjahaeebocaaGreatDoor

