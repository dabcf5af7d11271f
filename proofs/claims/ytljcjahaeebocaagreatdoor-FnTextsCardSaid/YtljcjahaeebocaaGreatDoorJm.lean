/- Texts that belong together, joined. No condition. -/
import Derived.Test.YtljcjahaeebocaaGreatDoorJd
import Derived.Shelf.Strconv.Itoa3
import Derived.Shelf.Strings.OnBuilder
import Derived.Lib.LaidTab
/-! Ewy -/
namespace Evl
open Go

section
variable {P : Program} {G : GP} {f : FuncId} {args : List AV} {r : Value}
/-- A call that hands back data, and leaves old blocks alone. -/
theorem call_data (hr : plainX r = true) (h : ∀ (w : World) (V0 V : Nat → Nat) (M : Nat → Prop) (K : Nat → Nat × Nat) (vs : List Value), G M V0 w → vs.length = args.length → (∀ (i : Nat) (x : AV), args[i]? = some x → ∃ v fp, vs[i]? = some v ∧ RepV V w K fp v x) →
    Calls P f vs.toArray w fun e w' => e = .returned r ∧ Go.RowKit.Below w.heap.size w w') : CallOk P G f args (lk []) (.lit r) (lk []) := by
  intro w0 V0 V K O vs hG hle hO E
  refine Calls.mono (h w0 V0 V _ K vs hG E.len fun i x hx => ?_) fun e w' ⟨he, bel⟩ => ?_
  · obtain ⟨v, fp, h1, -, -, h2⟩ := E.args i x hx
    exact ⟨v, fp, h1, h2⟩
  · have hlt : ∀ g, 0 < V0 g → g < w0.heap.size := fun g hg => E.vr g (Nat.lt_of_lt_of_le hg (hle g))
    refine ⟨r, he, V0, fun _ => none, [], ⟨bel.os, bel.tape, bel.output, bel.size, fun g hg _ => bel.block g hg, trivial⟩, ⟨fun g off ho => ?_, fun _ => Nat.le_refl _, bel.size⟩, fun g hg => Nat.lt_of_lt_of_le (hlt g hg) bel.size, fun _ _ _ => rfl, List.nodup_nil, by simp, .one _ _ _ (.v (fun _ => (0, 0)) _ _ _ (.one (.lit hr .nil)) rfl), fun b x hx => (by cases hx), fun g l hl => (by cases hl)⟩
    have := bel.block g (hlt g (by omega))
    simp only [World.cell?, this]
end

/-! the table that numbers are written with -/
def tabA : Array Value := (Lib.pow10Tab.map fun z => Value.int .u64 z).toArray
theorem tabA_size : tabA.size = 20 := by decide +kernel
/-- The table is there, and not written. -/
def TabIv (P : Program) (V : Nat → Nat) (w : World) : Prop := ∃ g T fz, P.globalNamed "internal/strconv.uint64pow10" = some g ∧ w.heap[g]? = some (.cells tabA T fz) ∧ 20 < V g
theorem TabIv.tab {P : Program} {V : Nat → Nat} {w : World} (h : TabIv P V w) : Lib.TabIs P w "internal/strconv.uint64pow10" .u64 Lib.pow10Tab := by
  obtain ⟨g, T, fz, hg, hw, -⟩ := h
  unfold Lib.TabIs World.var?
  rw [hg, Option.bind_some, hw]; rfl
theorem TabIv.next {P : Program} {V V' : Nat → Nat} {w w' : World} (h : Next V V' w w') (k : TabIv P V w) : TabIv P V' w' := by
  obtain ⟨g, T, fz, hg, hw, hv⟩ := k
  have c : ∀ off, off ≤ 20 → w'.cell? ⟨g, off, none⟩ = tabA[off]? := fun off ho => by
    rw [h.cell g off (by omega)]; simp [World.cell?, hw]
  have s0 : tabA[0]? = some (tabA[0]'(by rw [tabA_size]; omega)) := Array.getElem?_eq_getElem _
  have s19 : tabA[19]? = some (tabA[19]'(by rw [tabA_size]; omega)) := Array.getElem?_eq_getElem _
  have s20 : tabA[20]? = none := Array.getElem?_eq_none (by rw [tabA_size]; omega)
  have e0 := c 0 (by omega)
  rw [s0] at e0
  cases e : w'.heap[g]? with
  | none => simp [World.cell?, e] at e0
  | some x =>
    cases x with
    | cells c' T' fz' =>
      have c1 : ∀ off, off ≤ 20 → c'[off]? = tabA[off]? := fun off ho => by
        have := c off ho
        simpa [World.cell?, e] using this
      have h1 : c'.size ≤ 20 := by
        have := c1 20 (by omega)
        rw [s20] at this
        simpa using this
      have : c' = tabA := by
        apply Array.ext_getElem?
        intro i
        by_cases hi : i ≤ 20
        · exact c1 i hi
        · rw [Array.getElem?_eq_none (by omega), Array.getElem?_eq_none (by rw [tabA_size]; omega)]
      subst this
      exact ⟨g, T', fz', hg, e, Nat.lt_of_lt_of_le hv (h.le g)⟩
    | _ => simp [World.cell?, e] at e0

/-! numbers as texts -/
def itoaB (n : Int) : ByteArray := ⟨(Lib.itoa n).toArray⟩
def DItoa (n : Int) : Option ByteArray := if -9223372036854775808 ≤ n ∧ n ≤ 9223372036854775807 then some (itoaB n) else none
theorem itoa_ok {P : Program} {ρ : Go.Shelf.Ren} (L : Go.Proofs.LaysM.n171 P ρ) {H : Hints} (hiv : ∀ V w, H.iv V w → TabIv P V w) {n : Int} {r : ByteArray} (h : DItoa n = some r) :
    CallOk P (Gd H (ρ.f 171)) (ρ.f 171) [.lit (.int .i64 n)] (lk []) (.lit (.string r)) (lk []) := by
  unfold DItoa at h
  split at h
  · rename_i hn
    cases h
    refine call_data rfl fun w V0 V M K vs hG hl hv => ?_
    obtain ⟨v, fp, h1, h2⟩ := hv 0 _ rfl
    obtain ⟨rfl, -, -⟩ := inv_lit h2
    obtain rfl : vs = [.int .i64 n] := by
      match vs, hl, h1 with
      | [x], _, h1 => cases h1; rfl
    refine Calls.mono (Go.Proofs.Any.strconv_Itoa L n hn.1 hn.2 w (hiv _ _ hG.1).tab) fun e w' ⟨he, k, os, hw⟩ => ⟨he, ?_⟩
    subst hw
    refine ⟨rfl, rfl, rfl, ?_, fun k hk => ?_⟩
    · show w.heap.size ≤ (w.heap ++ os).size
      simp
    · show (w.heap ++ os)[k]? = w.heap[k]?
      rw [Array.getElem?_append_left hk]
  · cases h

/-! texts joined -/
def joinB (l : List ByteArray) (s : ByteArray) : ByteArray := ⟨(Lib.join (l.map (·.data.toList)) s.data.toList).toArray⟩
def DJoin (l : List ByteArray) (s : ByteArray) : Option ByteArray := if l.length ≤ 140737488355328 ∧ (joinB l s).size ≤ 140737488355328 then some (joinB l s) else none
theorem rep_strs {V : Nat → Nat} {w : World} {K : Nat → Nat × Nat} {m : Bool} : ∀ {xs : List ByteArray} {fp : List Nat} {vs : List Value}, Rep V w K m fp vs (eStr.f xs) → vs = xs.map Value.string
  | [], _, _, h => by cases h; rfl
  | x :: xs, _, _, h => by
    have h : Rep V w K m _ _ (.lit (.string x) :: eStr.f xs) := h
    cases h with
    | lit _ h => rw [rep_strs h]; rfl
theorem join_ok {P : Program} {ρ : Go.Shelf.Ren} (L : Go.Proofs.Lays.n156 P ρ) (X : Go.Proofs.Builder.Extra P ρ) {H : Hints} {l : List ByteArray} {s r : ByteArray} (h : DJoin l s = some r) :
    CallOk P (Gd H (ρ.f 156)) (ρ.f 156) [.sl false 1 l.length (eStr.f l), .lit (.string s)] (lk []) (.lit (.string r)) (lk []) := by
  unfold DJoin at h
  split at h
  · rename_i hn
    cases h
    refine call_data rfl fun w V0 V M K vs hG hl hv => ?_
    obtain ⟨v, fp, h1, h2⟩ := hv 0 _ rfl
    obtain ⟨v', fp', h3, h4⟩ := hv 1 _ rfl
    obtain ⟨rfl, -, -⟩ := inv_lit h4
    obtain rfl : vs = [v, .string s] := by
      match vs, hl, h1, h3 with
      | [x, y], _, h1, h3 => cases h1; cases h3; rfl
    have none : ∀ a c, l = [] → Calls P (ρ.f 156) #[.slice a 0 c, .string s] w fun e w' => e = .returned (.string (joinB l s)) ∧ Go.RowKit.Below w.heap.size w w' := fun a c hl => by
      subst hl
      exact (Go.Proofs.Any.strings_Join_none L X a c s w).mono fun e w' ⟨he, hw⟩ => ⟨he, hw ▸ Go.RowKit.Below.refl _ _⟩
    have ne : eStr.f l = [] → l = [] := fun h => by
      cases l with
      | nil => rfl
      | cons x l => cases h
    rcases inv_sl h2 with ⟨rfl, h5, h6⟩ | ⟨ad, cap, rfl, h5, h6⟩ | ⟨ab, ao, cap, us, rfl, h5, h6, h7, h8, h9⟩
    · exact none _ _ (ne h6)
    · exact none _ _ (ne h6)
    · have := rep_strs (xs := l) h9
      subst this
      refine Go.Proofs.Any.strings_Join L X ab ao cap l s w (fun j x hx => h6 j _ (by rw [List.getElem?_map, hx]; rfl)) h8 hn.1 h5 ?_
      have := hn.2
      unfold joinB at this
      simpa [ByteArray.size] using this
  · cases h

/-- What is given of the library's functions. -/
def YT (fI fJ : FuncId) : FuncId → List AV → (Nat → Option Box) → AV → (Nat → Option Box) → Prop := fun f args bx r bx' =>
  (f = fI ∧ ∃ n r0, DItoa n = some r0 ∧ args = [.lit (.int .i64 n)] ∧ bx = lk [] ∧ r = .lit (.string r0) ∧ bx' = lk []) ∨
  (f = fJ ∧ ∃ l s r0, DJoin l s = some r0 ∧ args = [.sl false 1 l.length (eStr.f l), .lit (.string s)] ∧ bx = lk [] ∧ r = .lit (.string r0) ∧ bx' = lk [])
theorem yt_ok {P : Program} {ρ σ : Go.Shelf.Ren} (LI : Go.Proofs.LaysM.n171 P ρ) (LJ : Go.Proofs.Lays.n156 P σ) (X : Go.Proofs.Builder.Extra P σ) {H : Hints} (hiv : ∀ V w, H.iv V w → TabIv P V w) {fI fJ : FuncId} (eI : ρ.f 171 = fI) (eJ : σ.f 156 = fJ) :
    ∀ f args bx r bx', YT fI fJ f args bx r bx' → CallOk P (Gd H f) f args bx r bx' := by
  subst eI eJ
  rintro f args bx r bx' (⟨rfl, n, r0, h, rfl, rfl, rfl, rfl⟩ | ⟨rfl, l, s, r0, h, rfl, rfl, rfl, rfl⟩)
  · exact itoa_ok LI hiv h
  · exact join_ok LJ X h
end Evl
