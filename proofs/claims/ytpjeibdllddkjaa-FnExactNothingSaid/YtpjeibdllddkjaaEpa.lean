/- Plain lemmas for the pure functions: fuel, loops, numbers of 64 bits, lists by ints. No condition. -/
import Derived.Test.YtpjeibdllddkjaaExe
import Derived.Laws.BitsLemmas
namespace Evl.T
open Go Evl

/-- For all fuel that is enough. -/
def Ev (p : Nat → Prop) : Prop := ∃ N, ∀ n, N ≤ n → p n
def E2 (p : Nat → Nat → Prop) : Prop := ∃ N, ∀ n, N ≤ n → ∀ m, N ≤ m → p n m
theorem Ev.of {p : Nat → Prop} (h : ∀ n, p n) : Ev p := ⟨0, fun n _ => h n⟩
theorem Ev.mono {p q : Nat → Prop} (h : Ev p) (k : ∀ n, p n → q n) : Ev q := let ⟨N, hN⟩ := h; ⟨N, fun n hn => k n (hN n hn)⟩
theorem Ev.and {p q : Nat → Prop} (h : Ev p) (k : Ev q) : Ev fun n => p n ∧ q n := by
  obtain ⟨N, hN⟩ := h; obtain ⟨M, hM⟩ := k
  exact ⟨max N M, fun n hn => ⟨hN n (by omega), hM n (by omega)⟩⟩
theorem E2.of {p : Nat → Nat → Prop} (h : ∀ n m, p n m) : E2 p := ⟨0, fun n _ m _ => h n m⟩
theorem E2.mono {p q : Nat → Nat → Prop} (h : E2 p) (k : ∀ n m, p n m → q n m) : E2 q := let ⟨N, hN⟩ := h; ⟨N, fun n hn m hm => k n m (hN n hn m hm)⟩
theorem E2.and {p q : Nat → Nat → Prop} (h : E2 p) (k : E2 q) : E2 fun n m => p n m ∧ q n m := by
  obtain ⟨N, hN⟩ := h; obtain ⟨M, hM⟩ := k
  exact ⟨max N M, fun n hn m hm => ⟨hN n (by omega) m (by omega), hM n (by omega) m (by omega)⟩⟩
theorem Ev.e2 {p : Nat → Prop} (h : Ev p) : E2 fun n _ => p n := let ⟨N, hN⟩ := h; ⟨N, fun n hn _ _ => hN n hn⟩
theorem E2.ev {p : Nat → Nat → Prop} (h : E2 p) : Ev fun n => p n n := let ⟨N, hN⟩ := h; ⟨N, fun n hn => hN n hn n hn⟩
theorem E2.suc {p : Nat → Nat → Prop} (h : E2 fun n m => p n (m + 1)) : E2 p := by
  obtain ⟨N, hN⟩ := h
  refine ⟨N + 1, fun n hn m hm => ?_⟩
  obtain ⟨m, rfl⟩ : ∃ k, m = k + 1 := ⟨m - 1, by omega⟩
  exact hN n (by omega) m (by omega)
/-- Enough for all of a list. -/
theorem Ev.all {α : Type} {p : α → Nat → Prop} : ∀ {l : List α}, (∀ x ∈ l, Ev (p x)) → Ev fun n => ∀ x ∈ l, p x n
  | [], _ => Ev.of fun _ _ h => by cases h
  | x :: l, h => ((h x (by simp)).and (Ev.all (l := l) fun y hy => h y (by simp [hy]))).mono fun n ⟨h1, h2⟩ y hy => by
    rcases List.mem_cons.1 hy with rfl | hy
    · exact h1
    · exact h2 y hy
theorem E2.all {α : Type} {p : α → Nat → Nat → Prop} : ∀ {l : List α}, (∀ x ∈ l, E2 (p x)) → E2 fun n m => ∀ x ∈ l, p x n m
  | [], _ => E2.of fun _ _ _ h => by cases h
  | x :: l, h => ((h x (by simp)).and (E2.all (l := l) fun y hy => h y (by simp [hy]))).mono fun n m ⟨h1, h2⟩ y hy => by
    rcases List.mem_cons.1 hy with rfl | hy
    · exact h1
    · exact h2 y hy

theorem loop_suc {α β : Type} (F : (α → Option β) → α → Option β) (m : Nat) (a : α) : loopN F (m + 1) a = F (loopN F m) a := rfl
theorem frk_t {α : Type} (x y : Option α) : frk true x y = x := rfl
theorem frk_f {α : Type} (x y : Option α) : frk false x y = y := rfl
theorem frk_if {α : Type} (b : Bool) (x y : Option α) : frk b x y = if b = true then x else y := rfl
theorem chk_t {α : Type} (x : Option α) : chk true x = x := rfl
theorem chk_eq {α : Type} {b : Bool} (h : b = true) (x : Option α) : chk b x = x := by rw [h]; rfl

/-! numbers -/
theorem w64_bmod (x : Int) : w64 x = x.bmod 18446744073709551616 := by
  show IntKind.i64.wrap x = _
  rw [IntKind.wrap_i64, Int.bmod_def]
  split <;> omega
theorem w64_id {x : Int} (h : -9223372036854775808 ≤ x) (h2 : x ≤ 9223372036854775807) : w64 x = x := by
  show IntKind.i64.wrap x = x
  rw [IntKind.wrap_i64]; omega
theorem w64_add_l (a b : Int) : w64 (w64 a + b) = w64 (a + b) := by rw [w64_bmod, w64_bmod a, w64_bmod, Int.bmod_add_bmod]
theorem w64_add_r (a b : Int) : w64 (a + w64 b) = w64 (a + b) := by rw [w64_bmod, w64_bmod b, w64_bmod, Int.add_bmod_bmod]
theorem w64_sub_l (a b : Int) : w64 (w64 a - b) = w64 (a - b) := by rw [w64_bmod, w64_bmod a, w64_bmod, Int.bmod_sub_bmod]
theorem w64_sub_r (a b : Int) : w64 (a - w64 b) = w64 (a - b) := by rw [w64_bmod, w64_bmod b, w64_bmod, Int.sub_bmod_bmod]
theorem w64_mul_l (a b : Int) : w64 (w64 a * b) = w64 (a * b) := by rw [w64_bmod, w64_bmod a, w64_bmod, Int.bmod_mul_bmod]
theorem w64_mul_r (a b : Int) : w64 (a * w64 b) = w64 (a * b) := by rw [w64_bmod, w64_bmod b, w64_bmod, Int.mul_bmod_bmod]
theorem w64_w64 (a : Int) : w64 (w64 a) = w64 a := by rw [w64_bmod, w64_bmod, Int.bmod_bmod]

/-- |x| is at most k. -/
def B (k : Nat) (x : Int) : Prop := x.natAbs ≤ k
theorem B.add {a b : Nat} {x y : Int} (h : B a x) (k : B b y) : B (a + b) (x + y) := by unfold B at *; omega
theorem B.sub {a b : Nat} {x y : Int} (h : B a x) (k : B b y) : B (a + b) (x - y) := by unfold B at *; omega
theorem B.neg {a : Nat} {x : Int} (h : B a x) : B a (-x) := by unfold B at *; omega
theorem B.zsub {a : Nat} {x : Int} (h : B a x) : B a (0 - x) := by unfold B at *; omega
theorem B.mul {a b : Nat} {x y : Int} (h : B a x) (k : B b y) : B (a * b) (x * y) := by
  unfold B at *; rw [Int.natAbs_mul]; exact Nat.mul_le_mul h k
theorem B.lo {a : Nat} {x : Int} (h : B a x) : -(a : Int) ≤ x := by unfold B at h; omega
theorem B.hi {a : Nat} {x : Int} (h : B a x) : x ≤ a := by unfold B at h; omega
theorem B.of {a : Nat} {x : Int} (h : -(a : Int) ≤ x) (k : x ≤ a) : B a x := by unfold B; omega
theorem B.up {a b : Nat} {x : Int} (h : B a x) (k : a ≤ b) : B b x := Nat.le_trans h k
theorem B.abs {a : Nat} {x : Int} (h : B a x) : B a ((x.natAbs : Nat) : Int) := by unfold B at *; omega
theorem w64_B {k : Nat} {x : Int} (h : B k x) (hk : decide (k ≤ 9223372036854775807) = true) : w64 x = x := by
  have := of_decide_eq_true hk
  unfold B at h
  exact w64_id (by omega) (by omega)

theorem w64_B' {k : Nat} {x : Int} (h : B k x) (hk : k ≤ 9223372036854775807) : w64 x = x := by
  unfold B at h
  exact w64_id (by omega) (by omega)

/-- Places in lists are small. -/
def big : Nat := 9223372036854775807
theorem w64_suc {k : Nat} (h : k < big) : w64 ((k : Int) + 1) = ((k + 1 : Nat) : Int) := by
  unfold big at h
  rw [w64_id (by omega) (by omega)]; omega
theorem w64_nat {k : Nat} (h : k ≤ big) : w64 (k : Int) = k := by
  unfold big at h
  exact w64_id (by omega) (by omega)
theorem lget_nat {α : Type} (l : List α) (k : Nat) : lget l (k : Int) = l[k]? := by simp [lget]
theorem lget_zero {α : Type} (l : List α) : lget l 0 = l[0]? := rfl
theorem lget_one {α : Type} (l : List α) : lget l 1 = l[1]? := rfl
theorem lsl_take {α : Type} (l : List α) (k : Nat) (h : k ≤ l.length) : lsl l 0 (k : Int) = some (l.take k) := by
  unfold lsl; rw [if_pos (by omega)]; simp

theorem dec_iff {p q : Prop} [Decidable p] [Decidable q] (h : p ↔ q) : decide p = decide q := by simp [h]
theorem pl_eq (p : Pl) : Pl.mk p.A p.B p.C p.D = p := rfl
theorem sol_eq (s : Sol) : Sol.mk s.inn s.pl s.kids = s := Sol.eta s
theorem sol_eq' (s : Sol) : Sol.mk s.inn (Pl.mk s.pl.A s.pl.B s.pl.C s.pl.D) s.kids = s := Sol.eta s
end Evl.T
