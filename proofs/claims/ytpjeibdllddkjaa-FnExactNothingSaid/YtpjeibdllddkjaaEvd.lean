/- States of the abstract machine and of the model, side by side. No condition. -/
import Derived.Test.YtpjeibdllddkjaaEvc
namespace Evl
open Go

/-- The world goes on: what nobody writes stays. -/
structure Next (V V' : Nat → Nat) (w w' : World) : Prop where
  cell : ∀ g off, off < V g → w'.cell? ⟨g, off, none⟩ = w.cell? ⟨g, off, none⟩
  le : ∀ g, V g ≤ V' g
  sz : w.heap.size ≤ w'.heap.size
theorem Next.refl (V : Nat → Nat) (w : World) : Next V V w w := ⟨fun _ _ _ => rfl, fun _ => Nat.le_refl _, Nat.le_refl _⟩
theorem Next.trans {V V' V'' w w' w''} (h : Next V V' w w') (k : Next V' V'' w' w'') : Next V V'' w w'' :=
  ⟨fun g off ho => (k.cell g off (Nat.lt_of_lt_of_le ho (h.le g))).trans (h.cell g off ho), fun g => Nat.le_trans (h.le g) (k.le g), Nat.le_trans h.sz k.sz⟩

section
variable (V : Nat → Nat) (w : World) (K : Nat → Nat × Nat)

inductive RepP : Value → AV → Prop
  | ptr (b off : Nat) : RepP (.pointer (some ⟨(K b).1, off, none⟩)) (.ptr b off)
  | cptr (a : Addr) (vs : List Value) {cs} : a.spot = none → (∀ (j : Nat) (v : Value), vs[j]? = some v → w.cell? ⟨a.block, a.off + j, none⟩ = some v) → a.off + vs.length ≤ V a.block → a.block < w.heap.size →
      Rep V w K false [] vs cs → RepP (.pointer (some a)) (.cptr cs)
  | bad (v : Value) : RepP v .bad
inductive RepPs : List Value → List AV → Prop
  | nil : RepPs [] []
  | cons {v x vs xs} : RepP V w K v x → RepPs vs xs → RepPs (v :: vs) (x :: xs)
inductive RepU : List Nat → Value → AV → Prop
  | one {fp v x} : Rep V w K true fp [v] [x] → RepU fp v x
  | agg {fp us cs} : Rep V w K true fp us cs → RepU fp (.agg us.toArray) (.agg cs)
  | p {v x} : RepP V w K v x → RepU [] v x
  | fnv {f vs xs} : RepPs V w K vs xs → RepU [] (.func (.func f) #[] vs.toArray) (.fnv f xs)
inductive RepT : List Nat → List Value → List AV → Prop
  | nil : RepT [] [] []
  | cons {fp fq v x vs xs} : RepU V w K fp v x → RepT fq vs xs → RepT (fp ++ fq) (v :: vs) (x :: xs)
inductive RepV : List Nat → Value → AV → Prop
  | u {fp v x} : RepU V w K fp v x → RepV fp v x
  | tup {fp us xs} : RepT V w K fp us xs → RepV fp (.tuple us.toArray) (.tup xs)
end

variable {V V' V0 : Nat → Nat} {w w' w0 : World} {K K' : Nat → Nat × Nat} {fp : List Nat} {v : Value} {x : AV}

theorem RepV.bad (v : Value) : RepV V w K [] v .bad := .u (.p (.bad v))
theorem RepV.lit {v : Value} (h : plain v = true) : RepV V w K [] v (.lit v) := .u (.one (.lit h .nil))

theorem RepP.next (h : RepP V w K v x) (n : Next V V' w w') (kl : List Nat) (hK : ∀ b, b ∉ kl → K' b = K b) : RepP V' w' K' v (killAll kl x) := by
  have hb : ∀ (l : List Nat), Evl.killAll l .bad = .bad := by intro l; induction l with
    | nil => rfl
    | cons d l ih => simpa [Evl.killAll, kill] using ih
  cases h with
  | ptr b off =>
    have : Evl.killAll kl (.ptr b off) = .ptr b off ∧ b ∉ kl ∨ Evl.killAll kl (.ptr b off) = .bad := by
      clear hK
      induction kl with
      | nil => exact .inl ⟨rfl, by simp⟩
      | cons d l ih =>
        simp only [Evl.killAll, kill]
        by_cases e : b = d
        · rw [if_pos e]; exact .inr (hb l)
        · rw [if_neg e]; rcases ih with ⟨h1, h2⟩ | h1
          · exact .inl ⟨h1, by simp [e, h2]⟩
          · exact .inr h1
    rcases this with ⟨h1, h2⟩ | h1
    · rw [h1, ← hK b h2]; exact .ptr b off
    · rw [h1]; exact .bad _
  | cptr a vs h1 h2 h3 h4 h5 =>
    have : ∀ (l : List Nat) cs, Evl.killAll l (.cptr cs) = .cptr cs := by intro l cs; induction l with
      | nil => rfl
      | cons d l ih => simpa [Evl.killAll, kill] using ih
    rw [this]
    refine .cptr a vs h1 (fun j v hj => ?_) (Nat.le_trans h3 (n.le _)) (Nat.lt_of_lt_of_le h4 n.sz) (h5.mono n.cell n.le n.sz (by simp) (by rw [h5.noIds rfl]; simp))
    rw [n.cell _ _ ?_]; exact h2 j v hj
    have := (List.getElem?_eq_some_iff.1 hj).1; omega
  | bad v => rw [hb]; exact .bad v

theorem RepPs.next {vs xs} (h : RepPs V w K vs xs) (n : Next V V' w w') (kl : List Nat) (hK : ∀ b, b ∉ kl → K' b = K b) : RepPs V' w' K' vs (killAllL kl xs) := by
  have hc : ∀ (l : List Nat) x xs, killAllL l (x :: xs) = Evl.killAll l x :: killAllL l xs := by
    intro l; induction l with
    | nil => intro x xs; rfl
    | cons d l ih => intro x xs; simp only [killAllL, killL, Evl.killAll]; exact ih _ _
  have hn : ∀ (l : List Nat), killAllL l [] = [] := by intro l; induction l with
    | nil => rfl
    | cons d l ih => simpa [killAllL, killL] using ih
  induction h with
  | nil => rw [hn]; exact .nil
  | cons a _ ih => rw [hc]; exact .cons (a.next n kl hK) ih

theorem killAllL_cons (l : List Nat) : ∀ x xs, killAllL l (x :: xs) = killAll l x :: killAllL l xs := by
  induction l with
  | nil => intro x xs; rfl
  | cons d l ih => intro x xs; simp only [killAllL, killL, Evl.killAll]; exact ih _ _
theorem killAllL_nil (l : List Nat) : killAllL l [] = [] := by
  induction l with
  | nil => rfl
  | cons d l ih => simpa [killAllL, killL] using ih
theorem killAll_agg (l : List Nat) : ∀ cs, killAll l (.agg cs) = .agg (killAllL l cs) := by
  induction l with
  | nil => intro cs; rfl
  | cons d l ih => intro cs; simp only [Evl.killAll, kill, killAllL]; exact ih _
theorem killAll_tup (l : List Nat) : ∀ cs, killAll l (.tup cs) = .tup (killAllL l cs) := by
  induction l with
  | nil => intro cs; rfl
  | cons d l ih => intro cs; simp only [Evl.killAll, kill, killAllL]; exact ih _
theorem killAll_fnv (l : List Nat) (f : FuncId) : ∀ cs, killAll l (.fnv f cs) = .fnv f (killAllL l cs) := by
  induction l with
  | nil => intro cs; rfl
  | cons d l ih => intro cs; simp only [Evl.killAll, kill, killAllL]; exact ih _

theorem Rep.next {m us cs} (h : Rep V w K m fp us cs) (n : Next V V' w w') (ho : ∀ g ∈ fp, w'.heap[g]? = w.heap[g]? ∧ V' g = V g) (kl : List Nat) (hK : ∀ b, b ∉ kl → K' b = K b) : Rep V' w' K' m fp us (killAllL kl cs) :=
  (h.mono (K' := K) n.cell n.le n.sz ho (fun _ _ => rfl)).killAll kl hK

theorem RepU.next (h : RepU V w K fp v x) (n : Next V V' w w') (ho : ∀ g ∈ fp, w'.heap[g]? = w.heap[g]? ∧ V' g = V g) (kl : List Nat) (hK : ∀ b, b ∉ kl → K' b = K b) : RepU V' w' K' fp v (killAll kl x) := by
  cases h with
  | one h =>
    have := h.next n ho kl hK
    rw [killAllL_cons, killAllL_nil] at this
    exact .one this
  | agg h => rw [killAll_agg]; exact .agg (h.next n ho kl hK)
  | p h => exact .p (h.next n kl hK)
  | fnv h => rw [killAll_fnv]; exact .fnv (h.next n kl hK)

theorem RepT.next {us xs} (h : RepT V w K fp us xs) (n : Next V V' w w') (ho : ∀ g ∈ fp, w'.heap[g]? = w.heap[g]? ∧ V' g = V g) (kl : List Nat) (hK : ∀ b, b ∉ kl → K' b = K b) : RepT V' w' K' fp us (killAllL kl xs) := by
  induction h with
  | nil => rw [killAllL_nil]; exact .nil
  | cons a _ ih => rw [killAllL_cons]; exact .cons (a.next n (fun g hg => ho g (by simp [hg])) kl hK) (ih (fun g hg => ho g (by simp [hg])))

theorem RepV.next (h : RepV V w K fp v x) (n : Next V V' w w') (ho : ∀ g ∈ fp, w'.heap[g]? = w.heap[g]? ∧ V' g = V g) (kl : List Nat) (hK : ∀ b, b ∉ kl → K' b = K b) : RepV V' w' K' fp v (killAll kl x) := by
  cases h with
  | u h => exact .u (h.next n ho kl hK)
  | tup h => rw [killAll_tup]; exact .tup (h.next n ho kl hK)

theorem share_one (h : RepU V w K fp v x) : RepU V w K [] v (share x) := by
  cases h with
  | one h => have := h.share; simp only [shareL] at this; exact .one this
  | agg h => simp only [share]; exact .agg h.share
  | p h => cases h with
    | ptr b off => simp only [share]; exact .p (.ptr b off)
    | cptr a vs h1 h2 h3 h4 h5 => simp only [share]; exact .p (.cptr a vs h1 h2 h3 h4 h5)
    | bad v => simp only [share]; exact .p (.bad v)
  | fnv h => simp only [share]; exact .fnv h
theorem RepT.share {us xs} (h : RepT V w K fp us xs) : RepT V w K [] us (shareL xs) := by
  induction h with
  | nil => exact .nil
  | cons a _ ih => simp only [shareL]; exact .cons (fp := []) (share_one a) ih
theorem RepV.share (h : RepV V w K fp v x) : RepV V w K [] v (Evl.share x) := by
  cases h with
  | u h => exact .u (share_one h)
  | tup h => simp only [Evl.share]; exact .tup h.share

mutual
theorem ownless : ∀ x : AV, hasOwn x = false → share x = x
  | .lit _, _ => rfl
  | .nil, _ => rfl
  | .sl true _ _ _, h => by simp [hasOwn] at h
  | .sl false _ _ _, _ => rfl
  | .msl _ _, _ => rfl
  | .agg cs, h => by simp only [share]; rw [ownlessL cs (by simpa [hasOwn] using h)]
  | .tup cs, h => by simp only [share]; rw [ownlessL cs (by simpa [hasOwn] using h)]
  | .ptr _ _, _ => rfl
  | .cptr _, _ => rfl
  | .nbx _, _ => rfl
  | .fnv _ _, _ => rfl
  | .bad, _ => rfl
theorem ownlessL : ∀ xs : List AV, hasOwnL xs = false → shareL xs = xs
  | [], _ => rfl
  | x :: xs, h => by
    simp only [hasOwnL, Bool.or_eq_false_iff] at h
    simp only [shareL]; rw [ownless x h.1, ownlessL xs h.2]
end

/-- A box: its block, its cells. -/
structure BoxOk (V : Nat → Nat) (w : World) (K : Nat → Nat × Nat) (b : Nat) (x : Box) (fb : List Nat) (arr : Array Value) (T : TypeId) (fz : Nat × Nat) (us : List Value) : Prop where
  hp : w.heap[(K b).1]? = some (.cells arr T fz)
  th : thawed arr fz
  pre : ∀ (j : Nat) (v : Value), us[j]? = some v → arr[j]? = some v
  rep : Rep V w K (x.sz == 0) fb us x.cs
  vis : V (K b).1 = if x.st then 0 else x.cs.length
  var : x.sz = 0 → arr.size = us.length ∧ x.st = true
  row : x.sz ≠ 0 → ∃ cap, (K b).2 = cap + 1 ∧ arr.size = cap * x.sz ∧ us.length ≤ arr.size ∧ us.length % x.sz = 0

/-- A box that is there, or a row that is nil as yet. -/
def BoxAt (V : Nat → Nat) (w : World) (K : Nat → Nat × Nat) (O : Nat → Option Loc) (b : Nat) (x : Box) : Prop :=
  (x.sz ≠ 0 ∧ x.cs = [] ∧ (K b).2 = 0) ∨ ∃ fb arr T fz us, ((K b).1 :: fb).Nodup ∧ (∀ g ∈ (K b).1 :: fb, O g = some (false, b)) ∧ BoxOk V w K b x fb arr T fz us

/-- What a call leaves alone: the streams, old blocks that were not handed over. -/
structure Fr (w0 : World) (M : Nat → Prop) (w : World) : Prop where
  os : w.os = w0.os
  tape : w.tape = w0.tape
  output : w.output = w0.output
  sz : w0.heap.size ≤ w.heap.size
  old : ∀ g, g < w0.heap.size → ¬ M g → w.heap[g]? = w0.heap[g]?

structure RelG (N : Nat) (w0 : World) (M : Nat → Prop) (V0 : Nat → Nat) (K : Nat → Nat × Nat) (V : Nat → Nat) (O : Nat → Option Loc) (s : S) (a : Act) (w : World) : Prop where
  df : a.defers = []
  n : a.tmps.size = N
  tm : ∀ t, ∃ fp, fp.Nodup ∧ (∀ g ∈ fp, O g = some (true, t)) ∧ RepV V w K fp (a.tmps.getD t undef) (s.t t)
  bx : ∀ b x, s.b b = some x → BoxAt V w K O b x
  rg : ∀ g l, O g = some l → (w0.heap.size ≤ g ∨ M g) ∧ g < w.heap.size
  vr : ∀ g, 0 < V g → g < w.heap.size
  fr : Fr w0 M w
  nx : Next V0 V w0 w
  vo : ∀ g, g < w0.heap.size → ¬ M g → V g = V0 g

theorem RelG.bxr {N : Nat} {w0 w : World} {M : Nat → Prop} {V0 V : Nat → Nat} {K : Nat → Nat × Nat} {O : Nat → Option Loc} {s : S} {a : Act} (R : RelG N w0 M V0 K V O s a w) (b : Nat) (x : Box) (hb : s.b b = some x) (h : x.sz = 0 ∨ x.cs ≠ [] ∨ (K b).2 ≠ 0) : ∃ fb arr T fz us, ((K b).1 :: fb).Nodup ∧ (∀ g ∈ (K b).1 :: fb, O g = some (false, b)) ∧ BoxOk V w K b x fb arr T fz us := by
  rcases R.bx b x hb with ⟨h1, h2, h3⟩ | h'
  · rcases h with h | h | h
    · exact absurd h h1
    · exact absurd h2 h
    · exact absurd h3 h
  · exact h'
end Evl
