/- Texts that belong together, joined. No condition. -/
import Derived.Test.YtljcjahaeebocaaGreatJp
import Derived.ChangeArms
import Derived.WideShapes
import Derived.DataReads
import Derived.Test.YtljcjahaeebocaaGreatJd
import Derived.WalkKit
import Derived.ProofKit
import Derived.OpenShut
import Derived.ShutString
import Derived.ChangeOld
import Derived.Below
import Derived.Carry
import Derived.SizedLaws
import Derived.Lib.SmallJoins
/-! Era -/
namespace Evl.T
open Go Evl
/-- How many cells a block has. -/
def cellsIn (w : World) (g : Nat) : Nat := match w.heap[g]? with | some (.cells c _ _) => c.size | _ => 0
theorem cellsIn_lt {w : World} {g : Nat} (h : 0 < cellsIn w g) : g < w.heap.size := by
  unfold cellsIn at h
  split at h
  · rename_i e; exact (Array.getElem?_eq_some_iff.1 e).1
  · cases h
theorem cell_in {w : World} {a : Addr} {v : Value} (h : w.cell? a = some v) : a.spot = none ∧ a.off < cellsIn w a.block := by
  unfold World.cell? at h
  unfold cellsIn
  split at h
  · rename_i c T fz e
    split at h
    · cases h
    · rename_i hs
      rw [e]
      exact ⟨by simpa using hs, (Array.getElem?_eq_some_iff.1 h).1⟩
  · cases h

/-- A slice of data in memory: its elements, out of their cells. -/
theorem row_of {H : Type} {enc : TypeId × Value → H} {P : Program} {W : World} {base : Nat} {spare : Nat → Bool} {held : Bool} {n : Nat} {τ : Type} {Good : τ → Prop} {K : Nat → Nat × Nat} (e : Enc τ) (t : TypeId) (hz : P.cellsOf t = e.z) (h0 : 0 < e.z)
    (one : ∀ cs x, DataW.trod enc P W base spare held n t cs = some x → ∃ s : τ, Good s ∧ Rep (cellsIn W) W K false [] cs (e.c s)) :
    ∀ (len : Nat) (a : Addr) (elems : List (DataW H × List MemPlace)), elems.length = len → (∀ i, i < len → (W.cells? base (a.add (i * P.cellsOf t)) (P.cellsOf t)).bind (DataW.trod enc P W base spare held n t) = elems[i]?) →
      ∃ (vs : List Value) (ss : List τ), ss.length = len ∧ (∀ s ∈ ss, Good s) ∧ Seen (cellsIn W) W a len vs ∧ (∀ (j : Nat) (v : Value), vs[j]? = some v → W.cell? ⟨a.block, a.off + j, none⟩ = some v) ∧ Rep (cellsIn W) W K false [] vs (e.f ss) := by
  intro len
  induction len with
  | zero => intro a elems _ _; exact ⟨[], [], rfl, by simp, .inl ⟨rfl, rfl⟩, by simp, by rw [e.hf]; exact .nil⟩
  | succ len ih =>
    intro a elems hl he
    have h := he 0 (by omega)
    rw [List.getElem?_eq_getElem (by omega)] at h
    obtain ⟨cs, hc, ht⟩ := Option.bind_eq_some_iff.1 h
    obtain ⟨-, hcl, hcc⟩ := World.cells?_some hc
    obtain ⟨s, hs, hr⟩ := one _ _ ht
    have hz0 : a.add (0 * P.cellsOf t) = a := by simp [Addr.add]
    rw [hz0] at hcc
    have hsp : a.spot = none := by
      have := hcc 0 (by omega)
      rw [List.getElem?_eq_getElem (by omega)] at this
      simpa [Addr.add] using (cell_in this).1
    obtain ⟨ab, ao, sp⟩ := a
    obtain rfl : sp = none := hsp
    have hcc' : ∀ i, i < P.cellsOf t → W.cell? ⟨ab, ao + i, none⟩ = cs[i]? := fun i hi => by have := hcc i hi; rwa [Addr.add_lit] at this
    obtain ⟨vs, ss, q1, q2, q3, q4, q5⟩ := ih (Addr.add ⟨ab, ao, none⟩ (P.cellsOf t)) elems.tail (by simp; omega) fun i hi => by
      have := he (i + 1) (by omega)
      rw [List.getElem?_tail, ← this]
      simp only [Addr.add_lit, Nat.add_mul]; congr 3; omega
    rw [Addr.add_lit] at q4
    have hall : ∀ (k : Nat) (v : Value), (cs ++ vs)[k]? = some v → W.cell? ⟨ab, ao + k, none⟩ = some v := fun k v hk => by
      by_cases hkl : k < cs.length
      · rw [List.getElem?_append_left hkl] at hk
        rw [hcc' k (by omega), hk]
      · rw [List.getElem?_append_right (by omega)] at hk
        have := q4 _ _ hk
        rw [← this]
        simp only; congr 2; omega
    have hpos : 0 < (cs ++ vs).length := by simp; omega
    have hlast := cell_in (hall ((cs ++ vs).length - 1) _ (List.getElem?_eq_getElem (by omega)))
    have h2 := hlast.2
    simp only at h2
    exact ⟨cs ++ vs, s :: ss, by simp [q1], by simpa using ⟨hs, q2⟩, .inr ⟨rfl, by simp only; omega, cellsIn_lt (g := ab) (by omega)⟩, hall, by rw [e.cons]; exact hr.app q5⟩


theorem field_of {H : Type} {enc : TypeId × Value → H} {P : Program} {W : World} {base : Nat} {spare : Nat → Bool} {held : Bool} {fuel : Nat} {t : TypeId} {cs : List Value} {x : DataW H × List MemPlace} {fs : Array Field}
    (ht : P.underlying t = some (.struct fs)) (h : DataW.trod enc P W base spare held fuel t cs = some x) :
    ∃ n, fuel = n + 1 ∧ cs.length = P.cellsOf t ∧ ∀ (i : Nat) (u o : Nat), (fs.toList.map fun f => (f.type, f.offset))[i]? = some (u, o) → ∃ y, DataW.trod enc P W base spare held n u ((cs.drop o).take (P.cellsOf u)) = some y := by
  obtain ⟨xs, n, e1, -, e3, e4, e5⟩ := DataW.trod_struct ht h
  refine ⟨n, e1, e3, fun i u o hi => ?_⟩
  rw [List.getElem?_map, Option.map_eq_some_iff] at hi
  obtain ⟨f, hf, he⟩ := hi
  cases he
  have hf' : fs[i]? = some f := by simpa using hf
  have hlt : i < xs.length := by rw [e4]; exact (Array.getElem?_eq_some_iff.1 hf').1
  exact ⟨xs[i], by rw [e5 i f hf', List.getElem?_eq_getElem hlt]⟩

/-- A type of ints. -/
structure IntT (P : Program) (t : Nat) : Prop where
  u : P.underlying t = some (.int .i64)
  c : P.cellsOf t = 1
/-- A struct of ints. -/
structure IntsT (P : Program) (t tI k : Nat) : Prop where
  u : ∃ fs, P.underlying t = some (.struct fs) ∧ (fs.toList.map fun f => (f.type, f.offset)) = (List.range k).map fun i => (tI, i)
  c : P.cellsOf t = k
  i : IntT P tI
/-- The type of solids. -/
structure SolT (P : Program) (tS tP tK tB tI : Nat) : Prop where
  u : ∃ fs, P.underlying tS = some (.struct fs) ∧ (fs.toList.map fun f => (f.type, f.offset)) = [(tB, 0), (tP, 1), (tK, 5)]
  c : P.cellsOf tS = 6
  p : IntsT P tP tI 4
  k : P.underlying tK = some (.slice tS)
  kc : P.cellsOf tK = 1
  b : P.underlying tB = some .bool
  bc : P.cellsOf tB = 1

section
variable {H : Type} {enc : TypeId × Value → H} {P : Program} {W : World} {base : Nat} {spare : Nat → Bool} {held : Bool} {K : Nat → Nat × Nat} {fuel : Nat} {cs : List Value} {x : DataW H × List MemPlace}
theorem open_ints {t tI k : Nat} (T : IntsT P t tI k) (h : DataW.trod enc P W base spare held fuel t cs = some x) : ∃ l : List Int, l.length = k ∧ cs = l.map (Value.int .i64) ∧ ∀ y ∈ l, (Lit.int .i64 y).wf = true := by
  obtain ⟨fs, hu, hf⟩ := T.u
  obtain ⟨n, -, hl, hr⟩ := field_of hu h
  rw [T.c] at hl
  have one : ∀ i, i < k → ∃ y : Int, cs[i]? = some (.int .i64 y) ∧ (Lit.int .i64 y).wf = true := fun i hi => by
    obtain ⟨z, hz⟩ := hr i tI i (by rw [hf]; simp [hi])
    obtain ⟨y, e, -, w⟩ := DataW.trod_int T.i.u hz
    rw [T.i.c] at e
    refine ⟨y, ?_, w⟩
    have := congrArg (fun l => l[0]?) e
    simpa [List.getElem?_take, List.getElem?_drop] using this
  clear hr h hu hf T
  induction cs generalizing k with
  | nil => exact ⟨[], by simpa using hl, rfl, by simp⟩
  | cons c cs ih =>
    simp only [List.length_cons] at hl
    obtain ⟨l, q1, q2, q3⟩ := ih (k := k - 1) (by omega) fun i hi => by simpa using one (i + 1) (by omega)
    obtain ⟨y, h1, h2⟩ := one 0 (by omega)
    simp only [List.getElem?_cons_zero, Option.some.injEq] at h1
    exact ⟨y :: l, by simp [q1]; omega, by simp [q2, h1], by simpa using ⟨h2, q3⟩⟩

theorem open_sol {tS tP tK tB tI : Nat} (T : SolT P tS tP tK tB tI) (h : DataW.trod enc P W base spare held fuel tS cs = some x) : ∃ s : Sol, Lens s ∧ Rep (cellsIn W) W K false [] cs (dSol false s) := by
  induction fuel using Nat.strongRecOn generalizing cs x with
  | ind fuel ih =>
    obtain ⟨fs, hu, hf⟩ := T.u
    obtain ⟨n, hn, hl, hr⟩ := field_of hu h
    rw [T.c] at hl
    obtain ⟨x0, h0⟩ := hr 0 tB 0 (by rw [hf]; rfl)
    obtain ⟨x1, h1⟩ := hr 1 tP 1 (by rw [hf]; rfl)
    obtain ⟨x2, h2⟩ := hr 2 tK 5 (by rw [hf]; rfl)
    rw [T.bc] at h0
    rw [T.p.c] at h1
    rw [T.kc] at h2
    match cs, hl with
    | [c0, c1, c2, c3, c4, c5], _ =>
    simp only [List.drop_zero, List.take_succ_cons, List.take_zero, List.drop_succ_cons] at h0 h1 h2
    obtain ⟨b, e0, -⟩ := DataW.trod_bool T.b h0
    obtain rfl : c0 = .bool b := by simpa using e0
    obtain ⟨l, l1, l2, -⟩ := open_ints T.p h1
    match l, l1 with
    | [p, q, r, d], _ =>
    simp only [List.map_cons, List.map_nil, List.cons.injEq, and_true] at l2
    obtain ⟨rfl, rfl, rfl, rfl⟩ := l2
    have fin : ∀ ks : List Sol, ks.length ≤ big → (∀ s ∈ ks, Lens s) → Rep (cellsIn W) W K false [] [c5] [.sl false 6 ks.length (cSols false ks)] → ∃ s : Sol, Lens s ∧ Rep (cellsIn W) W K false [] [.bool b, .int .i64 p, .int .i64 q, .int .i64 r, .int .i64 d, c5] (dSol false s) :=
      fun ks k1 k2 k3 => ⟨.mk b ⟨p, q, r, d⟩ ks, .mk k1 k2, .lit rfl (.lit rfl (.lit rfl (.lit rfl (.lit rfl k3))))⟩
    rcases DataW.trod_slice T.k h2 with ⟨e, -⟩ | ⟨a, len, cap, elems, rest, n', e1, e2, -, -, hlc, hcm, hel, hev, -⟩
    · obtain rfl : c5 = .slice none 0 0 := by simpa using e
      exact fin [] (by simp [big]) (by simp) (by rw [show cSols false [] = [] by rw [cSols]]; exact .ns .nil)
    · obtain rfl : c5 = .slice (some a) len cap := by simpa using e2
      have hrow := row_of (Good := Lens) (K := K) (eSol false) tS T.c (by decide) (n := n') (fun cs x hx => ?_) len a elems hel hev
      · obtain ⟨vs, ss, q1, q2, q3, q4, q5⟩ := hrow
        subst q1
        have hmax : maxLen = big := by decide
        exact fin ss (by omega) q2 (.sh a vs hlc q3 q4 q5 .nil)
      · obtain ⟨s, s1, s2⟩ := ih n' (by omega) hx
        exact ⟨s, s1, s2⟩
end
end Evl.T

/-! Erc -/
namespace Evl.T
open Go.RowKit Go.ChangeShapes Go.WideShapes
open Go Evl

/-- Values stand for arguments. -/
inductive ArgsOk (W : World) : List Value → List AV → Prop
  | nil : ArgsOk W [] []
  | cons {v : Value} {x : AV} {vs : List Value} {xs : List AV} : RepV (cellsIn W) W (fun _ => (0, 0)) [] v x → ArgsOk W vs xs → ArgsOk W (v :: vs) (x :: xs)

/-- A law's call, out of the abstract machine's run: it returns true, and nothing that was there is turned. -/
theorem law_calls {P : Program} {f : FuncId} {args : List AV} {G : GP} (h : CallOk P G f args nob (bl true) nob) (W : World) (vs : List Value) (hG : G (fun _ => False) (cellsIn W) W) (ha : ArgsOk W vs args) :
    Calls P f vs.toArray W fun e w' => e = .returned (.bool true) ∧ Below W.heap.size W w' := by
  have hl : vs.length = args.length := by clear h; induction ha with | nil => rfl | cons _ _ ih => simp [ih]
  have hg : ∀ (i : Nat) (x : AV), args[i]? = some x → ∃ v, vs[i]? = some v ∧ RepV (cellsIn W) W (fun _ => (0, 0)) [] v x := by
    clear h hl
    induction ha with
    | nil => intro i x hx; cases hx
    | cons h _ ih =>
      intro i x hx
      cases i with
      | zero => cases hx; exact ⟨_, rfl, h⟩
      | succ i => exact ih i x hx
  refine Calls.mono (h W (cellsIn W) (cellsIn W) (fun _ => (0, 0)) (fun _ => none) vs (by simpa using hG) (fun _ => Nat.le_refl _) (fun _ _ => rfl) ⟨hl, fun i x hx => ?_, fun b x hb => (by cases hb), fun g l hg => (by cases hg), fun g hg => cellsIn_lt hg⟩) fun e w' hen => ?_
  · obtain ⟨v, h1, h2⟩ := hg i x hx
    exact ⟨v, [], h1, List.nodup_nil, by simp, h2⟩
  · obtain ⟨v, rfl, V1, O1, fp, b1, b2, b3, b4, b5, b6, hq, b7, b8⟩ := hen
    have hv : v = .bool true := by
      cases hq with
      | one _ _ _ hr => cases hr with
        | v K _ _ _ hu hi => cases hu with
          | one h => cases h with
            | lit hp h => rfl
          | p h => cases h
    subst hv
    exact ⟨rfl, ⟨b1.os, b1.tape, b1.output, b1.sz, fun k hk => b1.old k hk (by simp)⟩⟩

/-- How an argument of a type is opened: as a plain value that stands for it. -/
def Opens (P : Program) (t : TypeId) {α : Type} (Good : α → Prop) (c : α → AV) : Prop :=
  ∀ {H : Type} {enc : TypeId × Value → H} {W : World} {r : Reach} {base : Nat} {spare : Nat → Bool} {held : Bool} {v : Value} {d : DataW H} {ps : List MemPlace},
    Value.okWide P W r base t v → DataW.Trod enc P W 0 spare held t v d ps → ∃ a : α, Good a ∧ RepV (cellsIn W) W (fun _ => (0, 0)) [] v (c a)

variable {P : Program}
theorem opens_sol {tS tP tK tB tI : Nat} (T : SolT P tS tP tK tB tI) : Opens P tS Lens fun s => .agg (dSol false s) := by
  intro H enc W r base spare held v d ps hv hd
  obtain ⟨fs, hu, -⟩ := T.u
  obtain ⟨cs, rfl, -⟩ := okWide_struct hu hv
  obtain ⟨n, hn⟩ := hd
  obtain ⟨s, h1, h2⟩ := open_sol (K := fun _ => (0, 0)) T hn
  refine ⟨s, h1, .u ?_⟩
  have := RepU.agg (h2.up true (by simp))
  simpa [Value.cells] using this
def IntGood (x : Int) : Prop := (Lit.int .i64 x).wf = true
theorem opens_int {t : TypeId} (ht : P.underlying t = some (.int .i64)) : Opens P t IntGood fun x => i64 x := by
  intro H enc W r base spare held v d ps hv hd
  obtain ⟨a1, rfl, rfl, rfl, k1⟩ := open_int ht hv hd
  exact ⟨a1, k1, .lit rfl⟩
def PtGood (p : Pt) : Prop := (Lit.int .i64 p.X).wf = true ∧ (Lit.int .i64 p.Y).wf = true ∧ (Lit.int .i64 p.Z).wf = true
theorem opens_pt {t tI : Nat} (T : IntsT P t tI 3) : Opens P t PtGood fun p => .agg [i64 p.X, i64 p.Y, i64 p.Z] := by
  intro H enc W r base spare held v d ps hv hd
  obtain ⟨fs, hu, -⟩ := T.u
  obtain ⟨cs, rfl, -⟩ := okWide_struct hu hv
  obtain ⟨n, hn⟩ := hd
  obtain ⟨l, h1, h2, h3⟩ := open_ints T hn
  match l, h1, h2, h3 with
  | [x, y, z], _, h2, h3 =>
    refine ⟨⟨x, y, z⟩, ⟨h3 x (by simp), h3 y (by simp), h3 z (by simp)⟩, .u ?_⟩
    have := RepU.agg (V := cellsIn W) (w := W) (K := fun _ => (0, 0)) (.lit (v := .int .i64 x) rfl (.lit (v := .int .i64 y) rfl (.lit (v := .int .i64 z) rfl .nil)))
    have e : cs.toList = [.int .i64 x, .int .i64 y, .int .i64 z] := by simpa [Value.cells] using h2
    rw [← e] at this
    simpa using this
def PlGood (p : Pl) : Prop := (Lit.int .i64 p.A).wf = true ∧ (Lit.int .i64 p.B).wf = true ∧ (Lit.int .i64 p.C).wf = true ∧ (Lit.int .i64 p.D).wf = true
theorem opens_pl {t tI : Nat} (T : IntsT P t tI 4) : Opens P t PlGood fun p => .agg [i64 p.A, i64 p.B, i64 p.C, i64 p.D] := by
  intro H enc W r base spare held v d ps hv hd
  obtain ⟨fs, hu, -⟩ := T.u
  obtain ⟨cs, rfl, -⟩ := okWide_struct hu hv
  obtain ⟨n, hn⟩ := hd
  obtain ⟨l, h1, h2, h3⟩ := open_ints T hn
  match l, h1, h2, h3 with
  | [x, y, z, u], _, h2, h3 =>
    refine ⟨⟨x, y, z, u⟩, ⟨h3 x (by simp), h3 y (by simp), h3 z (by simp), h3 u (by simp)⟩, .u ?_⟩
    have := RepU.agg (V := cellsIn W) (w := W) (K := fun _ => (0, 0)) (.lit (v := .int .i64 x) rfl (.lit (v := .int .i64 y) rfl (.lit (v := .int .i64 z) rfl (.lit (v := .int .i64 u) rfl .nil))))
    have e : cs.toList = [.int .i64 x, .int .i64 y, .int .i64 z, .int .i64 u] := by simpa [Value.cells] using h2
    rw [← e] at this
    simpa using this
def StrGood (s : ByteArray) : Prop := s.size ≤ maxLen
theorem opens_str {t : TypeId} (ht : P.underlying t = some .string) : Opens P t StrGood fun s => .lit (.string s) := by
  intro H enc W r base spare held v d ps hv hd
  obtain ⟨s, rfl⟩ := okWide_string ht hv
  obtain ⟨n, hn⟩ := hd
  obtain ⟨s', h, hx, hs⟩ := DataW.trod_string ht hn
  simp [Value.cells] at h
  subst h
  exact ⟨s, hs, .lit rfl⟩
/-- A slice of data. -/
theorem opens_row {τ : Type} {Good : τ → Prop} (e : Enc τ) {t el : TypeId} (ht : P.underlying t = some (.slice el)) (hz : P.cellsOf el = e.z) (h0 : 0 < e.z)
    (one : ∀ {H : Type} {enc : TypeId × Value → H} {W : World} {base : Nat} {spare : Nat → Bool} {held : Bool} {n : Nat} {cs : List Value} {x : DataW H × List MemPlace}, DataW.trod enc P W base spare held n el cs = some x → ∃ s : τ, Good s ∧ Rep (cellsIn W) W (fun _ => (0, 0)) false [] cs (e.c s)) :
    Opens P t (fun l : List τ => l.length ≤ maxLen ∧ ∀ s ∈ l, Good s) fun l => .sl false e.z l.length (e.f l) := by
  intro H enc W r base spare held v d ps hv hd
  obtain ⟨a, len, cap, rfl⟩ := okWide_slice ht hv
  obtain ⟨fuel, hf⟩ := hd
  rcases DataW.trod_slice ht hf with ⟨h, -⟩ | ⟨a', len', cap', elems, rest, n', e1, e2, -, -, hlc, hcm, hel, hev, -⟩
  · simp only [Value.cells, List.cons.injEq, and_true] at h
    obtain ⟨rfl, rfl, rfl⟩ : a = none ∧ len = 0 ∧ cap = 0 := by simpa using h
    refine ⟨[], ⟨by simp, by simp⟩, .u (.one ?_)⟩
    show Rep _ _ _ _ _ _ [.sl false e.z ([] : List τ).length (e.f [])]
    rw [e.hf]; exact .ns .nil
  · obtain ⟨rfl, rfl, rfl⟩ : a = some a' ∧ len = len' ∧ cap = cap' := by simpa [Value.cells] using e2
    obtain ⟨vs, ss, q1, q2, q3, q4, q5⟩ := row_of (Good := Good) (K := fun _ => (0, 0)) e el hz h0 (n := n') (fun cs x hx => one hx) len a' elems hel hev
    subst q1
    have q5' : Rep (cellsIn W) W (fun _ => (0, 0)) true [] [.slice (some a') ss.length cap] [.sl false e.z ss.length (e.f ss)] := (Rep.sh a' vs hlc q3 q4 q5 .nil : Rep (cellsIn W) W (fun _ => (0, 0)) false [] _ _).up true (by simp)
    exact ⟨ss, ⟨by omega, q2⟩, .u (.one q5')⟩
theorem opens_sols {t tS tP tK tB tI : Nat} (T : SolT P tS tP tK tB tI) (ht : P.underlying t = some (.slice tS)) : Opens P t (fun l : List Sol => l.length ≤ maxLen ∧ ∀ s ∈ l, Lens s) fun l => .sl false 6 l.length ((eSol false).f l) :=
  opens_row (Good := Lens) (eSol false) ht T.c (by decide) fun h => open_sol T h
theorem opens_pls {t tP tI : Nat} (T : IntsT P tP tI 4) (ht : P.underlying t = some (.slice tP)) : Opens P t (fun l : List Pl => l.length ≤ maxLen ∧ ∀ s ∈ l, PlGood s) fun l => .sl false 4 l.length (ePl.f l) :=
  opens_row (Good := PlGood) ePl ht T.c (by decide) fun h => by
    obtain ⟨l, h1, rfl, h3⟩ := open_ints T h
    match l, h1, h3 with
    | [x, y, z, u], _, h3 => exact ⟨⟨x, y, z, u⟩, ⟨h3 x (by simp), h3 y (by simp), h3 z (by simp), h3 u (by simp)⟩, .lit rfl (.lit rfl (.lit rfl (.lit rfl .nil)))⟩
def ByGood (x : Int) : Prop := 0 ≤ x ∧ x ≤ 255
theorem opens_bys {t tB : Nat} (hu : P.underlying tB = some (.int .u8)) (hc : P.cellsOf tB = 1) (ht : P.underlying t = some (.slice tB)) : Opens P t (fun l : List Int => l.length ≤ maxLen ∧ ∀ s ∈ l, ByGood s) fun l => .sl false 1 l.length (eU8.f l) :=
  opens_row (Good := ByGood) eU8 ht hc (by decide) fun h => by
    obtain ⟨y, rfl, -, w⟩ := DataW.trod_int hu h
    refine ⟨y, ?_, .lit rfl .nil⟩
    have h0 : IntKind.u8.min = 0 := by decide
    have h1 : IntKind.u8.max = 255 := by decide
    simp only [Lit.wf, Bool.and_eq_true, decide_eq_true_eq, h0, h1] at w
    exact w
end Evl.T

/-! Erd -/
namespace Evl.T
open Go.RowKit Go.ChangeShapes Go.WideShapes
open Go Evl

section
variable {H : Type} {enc : TypeId × Value → H} {P : Program} {W : World} {base : Nat} {spare : Nat → Bool} {held : Bool} {K : Nat → Nat × Nat}
/-- An array of data: its elements, out of their cells. -/
theorem arr_of {n z : Nat} {τ : Type} {Good : τ → Prop} (c : τ → List AV) (t : TypeId)
    (one : ∀ cs x, DataW.trod enc P W base spare held n t cs = some x → ∃ s : τ, Good s ∧ Rep (cellsIn W) W K false [] cs (c s)) :
    ∀ (len : Nat) (cs : List Value) (xs : List (DataW H × List MemPlace)), cs.length = len * z → xs.length = len → (∀ i, i < len → DataW.trod enc P W base spare held n t ((cs.drop (i * z)).take z) = xs[i]?) →
      ∃ ss : List τ, ss.length = len ∧ (∀ s ∈ ss, Good s) ∧ Rep (cellsIn W) W K false [] cs (fl c ss) := by
  intro len
  induction len with
  | zero =>
    intro cs xs h _ _
    rw [Nat.zero_mul] at h
    obtain rfl := List.eq_nil_of_length_eq_zero h
    exact ⟨[], rfl, by simp, .nil⟩
  | succ len ih =>
    intro cs xs hl hx h
    have h0 := h 0 (by omega)
    rw [Nat.zero_mul, List.drop_zero, List.getElem?_eq_getElem (by omega)] at h0
    obtain ⟨s, hs, hr⟩ := one _ _ h0
    obtain ⟨ss, q1, q2, q3⟩ := ih (cs.drop z) xs.tail (by rw [List.length_drop, hl, Nat.add_mul]; omega) (by rw [List.length_tail]; omega) fun i hi => by
      have := h (i + 1) (by omega)
      rw [List.getElem?_tail, ← this, List.drop_drop]
      congr 3; rw [Nat.add_mul]; omega
    refine ⟨s :: ss, by simp [q1], by simpa using ⟨hs, q2⟩, ?_⟩
    have := hr.app q3
    rw [List.take_append_drop] at this
    exact this

/-- The type of desks. -/
structure DeskT (P : Program) (tD tA tH tS tP tK tB tI : Nat) : Prop where
  u : ∃ fs, P.underlying tD = some (.struct fs) ∧ (fs.toList.map fun f => (f.type, f.offset)) = [(tA, 0), (tH, 48)]
  c : P.cellsOf tD = 56
  a : P.underlying tA = some (.array 8 tS)
  ac : P.cellsOf tA = 48
  h : P.underlying tH = some (.array 8 tB)
  hc : P.cellsOf tH = 8
  s : SolT P tS tP tK tB tI
abbrev Desk := (Sol × Sol × Sol × Sol × Sol × Sol × Sol × Sol) × (Bool × Bool × Bool × Bool × Bool × Bool × Bool × Bool)
def dDesk (d : Desk) : List AV := fl (dSol false) [d.1.1, d.1.2.1, d.1.2.2.1, d.1.2.2.2.1, d.1.2.2.2.2.1, d.1.2.2.2.2.2.1, d.1.2.2.2.2.2.2.1, d.1.2.2.2.2.2.2.2] ++ fl cBool [d.2.1, d.2.2.1, d.2.2.2.1, d.2.2.2.2.1, d.2.2.2.2.2.1, d.2.2.2.2.2.2.1, d.2.2.2.2.2.2.2.1, d.2.2.2.2.2.2.2.2]
def LensD (d : Desk) : Prop := Lens d.1.1 ∧ Lens d.1.2.1 ∧ Lens d.1.2.2.1 ∧ Lens d.1.2.2.2.1 ∧ Lens d.1.2.2.2.2.1 ∧ Lens d.1.2.2.2.2.2.1 ∧ Lens d.1.2.2.2.2.2.2.1 ∧ Lens d.1.2.2.2.2.2.2.2
theorem eight {τ : Type} {l : List τ} (h : l.length = 8) : ∃ a b c d e f g i, l = [a, b, c, d, e, f, g, i] := by
  match l, h with
  | [a, b, c, d, e, f, g, i], _ => exact ⟨a, b, c, d, e, f, g, i, rfl⟩
theorem open_desk {fuel : Nat} {cs : List Value} {x : DataW H × List MemPlace} {tD tA tH tS tP tK tB tI : Nat} (T : DeskT P tD tA tH tS tP tK tB tI) (h : DataW.trod enc P W base spare held fuel tD cs = some x) : ∃ d : Desk, LensD d ∧ Rep (cellsIn W) W K false [] cs (dDesk d) := by
  obtain ⟨fs, hu, hf⟩ := T.u
  obtain ⟨n, hn, hl, hr⟩ := field_of hu h
  rw [T.c] at hl
  obtain ⟨x0, h0⟩ := hr 0 tA 0 (by rw [hf]; rfl)
  obtain ⟨x1, h1⟩ := hr 1 tH 48 (by rw [hf]; rfl)
  rw [T.ac, List.drop_zero] at h0
  rw [T.hc] at h1
  obtain ⟨xs, m, -, -, l1, l2, e1⟩ := DataW.trod_array T.a h0
  obtain ⟨ys, k, -, -, k1, k2, e2⟩ := DataW.trod_array T.h h1
  rw [T.s.c] at e1
  rw [T.s.bc] at e2
  obtain ⟨ss, s1, s2, s3⟩ := arr_of (K := K) (z := 6) (Good := Lens) (dSol false) tS (fun cs x hx => open_sol T.s hx) 8 (cs.take 48) xs (by rw [List.length_take]; omega) l2 e1
  obtain ⟨bs, b1, -, b3⟩ := arr_of (K := K) (z := 1) (Good := fun _ => True) cBool tB (fun cs x hx => by
    obtain ⟨b, e, -⟩ := DataW.trod_bool T.s.b hx
    subst e
    exact ⟨b, trivial, .lit rfl .nil⟩) 8 ((cs.drop 48).take 8) ys (by rw [List.length_take, List.length_drop]; omega) k2 e2
  obtain ⟨q1, q2, q3, q4, q5, q6, q7, q8, rfl⟩ := eight s1
  obtain ⟨p1, p2, p3, p4, p5, p6, p7, p8, rfl⟩ := eight b1
  refine ⟨((q1, q2, q3, q4, q5, q6, q7, q8), (p1, p2, p3, p4, p5, p6, p7, p8)), ⟨s2 _ (by simp), s2 _ (by simp), s2 _ (by simp), s2 _ (by simp), s2 _ (by simp), s2 _ (by simp), s2 _ (by simp), s2 _ (by simp)⟩, ?_⟩
  have := s3.app b3
  rw [List.take_of_length_le (l := cs.drop 48) (by rw [List.length_drop]; omega), List.take_append_drop] at this
  exact this
end
theorem opens_desk {P : Program} {tD tA tH tS tP tK tB tI : Nat} (T : DeskT P tD tA tH tS tP tK tB tI) : Opens P tD LensD fun d => .agg (dDesk d) := by
  intro H enc W r base spare held v d ps hv hd
  obtain ⟨fs, hu, -⟩ := T.u
  obtain ⟨cs, rfl, -⟩ := okWide_struct hu hv
  obtain ⟨n, hn⟩ := hd
  obtain ⟨s, h1, h2⟩ := open_desk (K := fun _ => (0, 0)) T hn
  refine ⟨s, h1, .u ?_⟩
  have := RepU.agg (h2.up true (by simp))
  simpa [Value.cells] using this
end Evl.T
