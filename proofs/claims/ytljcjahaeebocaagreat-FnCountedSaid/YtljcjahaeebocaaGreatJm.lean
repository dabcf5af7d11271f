/- Texts that belong together, joined. No condition. -/
import Derived.Test.YtljcjahaeebocaaGreatJd
import Derived.Shelf.Strings.Builder1
/-! Exz -/
namespace Evl
open Go
theorem alloc3 {w W : World} {A B C : Obj} (h : Go.RowKit.Below (((w.alloc A).alloc B).alloc C).heap.size (((w.alloc A).alloc B).alloc C) W) :
    w.heap.size + 3 ≤ W.heap.size ∧ W.heap[w.heap.size]? = some A ∧ W.heap[w.heap.size + 1]? = some B ∧ W.heap[w.heap.size + 1 + 1]? = some C ∧ Go.RowKit.Below w.heap.size w W := by
  have he : ∀ (w : World) (o : Obj), (w.alloc o).heap = w.heap.push o := fun _ _ => rfl
  have hs : (((w.alloc A).alloc B).alloc C).heap.size = w.heap.size + 3 := by simp only [he, Array.size_push]
  have h1 := h.size
  have hb := h.block
  rw [hs] at h1 hb
  refine ⟨h1, (hb _ (by omega)).trans ?_, (hb _ (by omega)).trans ?_, (hb _ (by omega)).trans ?_, h.os, h.tape, h.output, by omega, fun j hj => (hb j (by omega)).trans ?_⟩
  · have e1 : w.heap.size ≠ w.heap.size + 1 := by omega
    have e2 : w.heap.size ≠ w.heap.size + 1 + 1 := by omega
    simp only [he, Array.getElem?_push, Array.size_push, e1, e2, if_false, if_true]
  · have e2 : w.heap.size + 1 ≠ w.heap.size + 1 + 1 := by omega
    simp only [he, Array.getElem?_push, Array.size_push, e2, if_false, if_true]
  · simp only [he, Array.getElem?_push, Array.size_push, if_true]
  · have e1 : j ≠ w.heap.size := by omega
    have e2 : j ≠ w.heap.size + 1 := by omega
    have e3 : j ≠ w.heap.size + 1 + 1 := by omega
    simp [he, Array.getElem?_push, e1, e2, e3, -World.alloc_eq]
/-- A builder stands while memory only grows. -/
theorem builder_kept {T e : TypeId} {B b : Nat} {bs : List Value} {w w' : World} (h : Lib.IsBuilder T e B b bs w) (k : Go.RowKit.Below w.heap.size w w') : Lib.IsBuilder T e B b bs w' := by
  have one : ∀ p, Lib.BuilderAt T e B b p bs w → Lib.BuilderAt T e B b p bs w' := by
    intro p h
    have hlt := h.lt
    obtain ⟨hB, v, hb, hown, hne⟩ := h
    refine ⟨hB, v, (k.block b hlt).trans hb, ?_, hne⟩
    exact hown.kept (row := none) ⟨k.os, k.tape, k.output, k.size, fun j hj _ => k.block j hj⟩ (by
      cases hv : v.ownBlock with
      | none => exact .inl rfl
      | some j => exact .inr (by simp))
  rcases h with h | h
  · exact .inl (one _ h)
  · exact .inr (one _ h)
theorem below_down {B C : Nat} {w w' : World} (h : Go.RowKit.Below C w w') (hB : B ≤ C) : Go.RowKit.Below B w w' :=
  ⟨h.os, h.tape, h.output, h.size, fun j hj => h.block j (Nat.lt_of_lt_of_le hj hB)⟩

/-- The sign of a point; a line of signs; lines of signs, downwards. -/
def chW (c : Int) : UInt8 := if c = 1 then 35 else if c = 0 then 43 else 46
def sLine (W : Int → Int → Option Int) (y : Int) : Nat → Int → Option (List UInt8)
  | 0, _ => some []
  | k + 1, x => (W x y).bind fun c => (sLine W y k (x + 1)).bind fun r => some (chW c :: r)
def sGrid (W : Int → Int → Option Int) (lx : Int) (kx : Nat) : Nat → Int → Option (List UInt8)
  | 0, _ => some []
  | k + 1, y => (sLine W y kx lx).bind fun a => (sGrid W lx kx k (y - 1)).bind fun r => some (a ++ 10 :: r)
def wayOk (a b : Int) : Bool := decide (-1000000000 ≤ a) && decide (b ≤ 1000000000) && decide (a ≤ b) && decide (b - a < 16)
def sliceD (W : Int → Int → Option Int) (g k : Option Bool) (lx ly hx hy : Int) : Option ByteArray :=
  g.bind fun g => if g = false then some ⟨#[]⟩ else k.bind fun k => if k = false then some ⟨#[]⟩ else
    if wayOk lx hx && wayOk ly hy then (sGrid W lx (hx - lx + 1).toNat (hy - ly + 1).toNat hy).bind fun l => some ⟨l.toArray⟩ else none

section
variable {P : Program} {V : Nat → Nat} {w : World} {K : Nat → Nat × Nat} {fp : List Nat}
/-- Values, as they are told. -/
inductive RVs (V : Nat → Nat) (w : World) : List Value → List AV → Prop
  | nil : RVs V w [] []
  | cons {v x vs xs} : RepV V w (fun _ => (0, 0)) [] v x → RVs V w vs xs → RVs V w (v :: vs) (x :: xs)
theorem RVs.len {vs xs} (h : RVs V w vs xs) : vs.length = xs.length := by
  induction h with
  | nil => rfl
  | cons _ _ ih => simp [ih]
theorem RVs.nth {vs xs} (h : RVs V w vs xs) : ∀ (i : Nat) (x : AV), xs[i]? = some x → ∃ v, vs[i]? = some v ∧ RepV V w (fun _ => (0, 0)) [] v x := by
  induction h with
  | nil => intro i x hx; simp at hx
  | cons a _ ih =>
    intro i x hx
    cases i with
    | zero => simp at hx; subst hx; exact ⟨_, rfl, a⟩
    | succ i => exact ih i x (by simpa using hx)
/-- A call with shared things that hands back data: memory only grows. -/
theorem data_call {H : Hints} {f : FuncId} {args : List AV} {r : Value} {vs : List Value} (hb : CallOk P (Gd H f) f args (lk []) (.lit r) (lk [])) (hiv : ∀ V w, H.iv V w) (hfl : H.fl f = false) (hV : ∀ g, 0 < V g → g < w.heap.size) (ha : RVs V w vs args) :
    Calls P f vs.toArray w fun e w' => e = .returned r ∧ Go.RowKit.Below w.heap.size w w' := by
  refine Calls.mono (hb w V V (fun _ => (0, 0)) (fun _ => none) vs ⟨hiv _ _, fun e => by rw [hfl] at e; cases e⟩ (fun _ => Nat.le_refl _) (fun _ _ => rfl) ⟨ha.len, fun i x hx => ?_, fun b x hx => (by cases hx), fun g l hl => (by cases hl), hV⟩) fun e w' ⟨v, he, hp⟩ => ?_
  · obtain ⟨v, h1, h2⟩ := ha.nth i x hx
    exact ⟨v, [], h1, List.nodup_nil, by simp, h2⟩
  · obtain ⟨V', O', fp, hfr, -, -, -, -, -, hq, -, -⟩ := hp
    have : v = r := by
      cases hq with
      | one _ _ _ hr => cases hr with
        | v K _ _ _ hu hi => exact (inv_lit (.u hu)).1
    subst this
    exact ⟨he, hfr.os, hfr.tape, hfr.output, hfr.sz, fun k hk => hfr.old k hk (by simp)⟩
/-- A call that hands back data, and leaves old blocks alone; its memory is well told. -/
theorem call_dataV {G : GP} {f : FuncId} {args : List AV} {r : Value} (hr : plainX r = true) (h : ∀ (w : World) (V : Nat → Nat) (K : Nat → Nat × Nat) (vs : List Value), (∀ g, 0 < V g → g < w.heap.size) → vs.length = args.length → (∀ (i : Nat) (x : AV), args[i]? = some x → ∃ v fp, vs[i]? = some v ∧ RepV V w K fp v x) →
    Calls P f vs.toArray w fun e w' => e = .returned r ∧ Go.RowKit.Below w.heap.size w w') : CallOk P G f args (lk []) (.lit r) (lk []) := by
  intro w0 V0 V K O vs _ hle hO E
  refine Calls.mono (h w0 V K vs E.vr E.len fun i x hx => ?_) fun e w' ⟨he, bel⟩ => ?_
  · obtain ⟨v, fp, h1, -, -, h2⟩ := E.args i x hx
    exact ⟨v, fp, h1, h2⟩
  · have hlt : ∀ g, 0 < V0 g → g < w0.heap.size := fun g hg => E.vr g (Nat.lt_of_lt_of_le hg (hle g))
    refine ⟨r, he, V0, fun _ => none, [], ⟨bel.os, bel.tape, bel.output, bel.size, fun g hg _ => bel.block g hg, trivial⟩, ⟨fun g off ho => ?_, fun _ => Nat.le_refl _, bel.size⟩, fun g hg => Nat.lt_of_lt_of_le (hlt g hg) bel.size, fun _ _ _ => rfl, List.nodup_nil, by simp, .one _ _ _ (.v (fun _ => (0, 0)) _ _ _ (.one (.lit hr .nil)) rfl), fun b x hx => (by cases hx), fun g l hl => (by cases hl)⟩
    have := bel.block g (hlt g (by omega))
    simp only [World.cell?, this]
/-- A struct of scalars, and what is behind them. -/
theorem inv_aggl {ls : List Value} {xs : List AV} {v : Value} (h : RepV V w K fp v (.agg (ls.map AV.lit ++ xs))) : ∃ us, v = .agg (ls ++ us).toArray ∧ Rep V w K true fp us xs := by
  have key : ∀ (ls : List Value) {us : List Value}, Rep V w K true fp us (ls.map AV.lit ++ xs) → ∃ us', us = ls ++ us' ∧ Rep V w K true fp us' xs := by
    intro ls
    induction ls with
    | nil => intro us h; exact ⟨us, rfl, h⟩
    | cons l ls ih =>
      intro us h
      cases h with
      | lit hp h =>
        obtain ⟨us', rfl, h'⟩ := ih h
        exact ⟨us', rfl, h'⟩
  cases h with
  | u h => cases h with
    | one h => cases h
    | agg h =>
      obtain ⟨us', rfl, h'⟩ := key ls h
      exact ⟨us', rfl, h'⟩
    | p h => cases h
theorem next_below {w' : World} (hV : ∀ g, 0 < V g → g < w.heap.size) (h : Go.RowKit.Below w.heap.size w w') : Next V V w w' :=
  ⟨fun g off ho => by have := h.block g (hV g (by omega)); simp only [World.cell?, this], fun _ => Nat.le_refl _, h.size⟩
theorem rep_grow {w' : World} {m : Bool} {us cs} (h : Rep V w K m [] us cs) (hi : idsL cs = []) {V' : Nat → Nat} (hVV : ∀ g, V g ≤ V' g) (n : Next V V w w') (m' : Bool) (hc : ∀ c ∈ cs, ∀ b n, c ≠ .msl b n) : Rep V' w' (fun _ => (0, 0)) m' [] us cs := by
  have h2 : Rep V w K false [] us cs := h.down (fun c hc' b n e => hc c hc' b n e)
  have h3 : Rep V' w' (fun _ => (0, 0)) false [] us cs := h2.mono n.cell hVV n.sz (by simp) (by rw [hi]; simp)
  exact h3.up _ (fun e => by cases e)
end
end Evl
