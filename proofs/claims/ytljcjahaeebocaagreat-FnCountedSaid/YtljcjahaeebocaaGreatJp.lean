/- Texts that belong together, joined. No condition. -/
import Derived.Test.YtljcjahaeebocaaGreatJd
import Derived.Laws.BitsLemmas
import Derived.Test.YtljcjahaeebocaaGreatWa
/-! Epa -/
namespace Evl.T
open Go Evl

/-- For all fuel that is enough. -/
def Ev (p : Nat → Prop) : Prop := ∃ N, ∀ n, N ≤ n → p n
def E2 (p : Nat → Nat → Prop) : Prop := ∃ N, ∀ n, N ≤ n → ∀ m, N ≤ m → p n m
theorem Ev.of {p : Nat → Prop} (h : ∀ n, p n) : Ev p := ⟨0, fun n _ => h n⟩
theorem Ev.mono {p q : Nat → Prop} (h : Ev p) (k : ∀ n, p n → q n) : Ev q := let ⟨N, hN⟩ := h; ⟨N, fun n hn => k n (hN n hn)⟩
theorem Ev.and {p q : Nat → Prop} (h : Ev p) (k : Ev q) : Ev fun n => p n ∧ q n := by
  obtain ⟨N, hN⟩ := h; obtain ⟨M, hM⟩ := k
  exact ⟨max N M, fun n hn => ⟨hN n (by omega), hM n (by omega)⟩⟩
theorem E2.of {p : Nat → Nat → Prop} (h : ∀ n m, p n m) : E2 p := ⟨0, fun n _ m _ => h n m⟩
theorem E2.mono {p q : Nat → Nat → Prop} (h : E2 p) (k : ∀ n m, p n m → q n m) : E2 q := let ⟨N, hN⟩ := h; ⟨N, fun n hn m hm => k n m (hN n hn m hm)⟩
theorem E2.and {p q : Nat → Nat → Prop} (h : E2 p) (k : E2 q) : E2 fun n m => p n m ∧ q n m := by
  obtain ⟨N, hN⟩ := h; obtain ⟨M, hM⟩ := k
  exact ⟨max N M, fun n hn m hm => ⟨hN n (by omega) m (by omega), hM n (by omega) m (by omega)⟩⟩
theorem Ev.e2 {p : Nat → Prop} (h : Ev p) : E2 fun n _ => p n := let ⟨N, hN⟩ := h; ⟨N, fun n hn _ _ => hN n hn⟩
theorem E2.ev {p : Nat → Nat → Prop} (h : E2 p) : Ev fun n => p n n := let ⟨N, hN⟩ := h; ⟨N, fun n hn => hN n hn n hn⟩
theorem E2.suc {p : Nat → Nat → Prop} (h : E2 fun n m => p n (m + 1)) : E2 p := by
  obtain ⟨N, hN⟩ := h
  refine ⟨N + 1, fun n hn m hm => ?_⟩
  obtain ⟨m, rfl⟩ : ∃ k, m = k + 1 := ⟨m - 1, by omega⟩
  exact hN n (by omega) m (by omega)
/-- Enough for all of a list. -/
theorem Ev.all {α : Type} {p : α → Nat → Prop} : ∀ {l : List α}, (∀ x ∈ l, Ev (p x)) → Ev fun n => ∀ x ∈ l, p x n
  | [], _ => Ev.of fun _ _ h => by cases h
  | x :: l, h => ((h x (by simp)).and (Ev.all (l := l) fun y hy => h y (by simp [hy]))).mono fun n ⟨h1, h2⟩ y hy => by
    rcases List.mem_cons.1 hy with rfl | hy
    · exact h1
    · exact h2 y hy
theorem E2.all {α : Type} {p : α → Nat → Nat → Prop} : ∀ {l : List α}, (∀ x ∈ l, E2 (p x)) → E2 fun n m => ∀ x ∈ l, p x n m
  | [], _ => E2.of fun _ _ _ h => by cases h
  | x :: l, h => ((h x (by simp)).and (E2.all (l := l) fun y hy => h y (by simp [hy]))).mono fun n m ⟨h1, h2⟩ y hy => by
    rcases List.mem_cons.1 hy with rfl | hy
    · exact h1
    · exact h2 y hy

theorem loop_suc {α β : Type} (F : (α → Option β) → α → Option β) (m : Nat) (a : α) : loopN F (m + 1) a = F (loopN F m) a := rfl
theorem frk_t {α : Type} (x y : Option α) : frk true x y = x := rfl
theorem frk_f {α : Type} (x y : Option α) : frk false x y = y := rfl
theorem frk_if {α : Type} (b : Bool) (x y : Option α) : frk b x y = if b = true then x else y := rfl
theorem chk_t {α : Type} (x : Option α) : chk true x = x := rfl
theorem chk_eq {α : Type} {b : Bool} (h : b = true) (x : Option α) : chk b x = x := by rw [h]; rfl

/-! numbers -/
theorem w64_bmod (x : Int) : w64 x = x.bmod 18446744073709551616 := by
  show IntKind.i64.wrap x = _
  rw [IntKind.wrap_i64, Int.bmod_def]
  split <;> omega
theorem w64_id {x : Int} (h : -9223372036854775808 ≤ x) (h2 : x ≤ 9223372036854775807) : w64 x = x := by
  show IntKind.i64.wrap x = x
  rw [IntKind.wrap_i64]; omega
theorem w64_add_l (a b : Int) : w64 (w64 a + b) = w64 (a + b) := by rw [w64_bmod, w64_bmod a, w64_bmod, Int.bmod_add_bmod]
theorem w64_add_r (a b : Int) : w64 (a + w64 b) = w64 (a + b) := by rw [w64_bmod, w64_bmod b, w64_bmod, Int.add_bmod_bmod]
theorem w64_sub_l (a b : Int) : w64 (w64 a - b) = w64 (a - b) := by rw [w64_bmod, w64_bmod a, w64_bmod, Int.bmod_sub_bmod]
theorem w64_sub_r (a b : Int) : w64 (a - w64 b) = w64 (a - b) := by rw [w64_bmod, w64_bmod b, w64_bmod, Int.sub_bmod_bmod]
theorem w64_mul_l (a b : Int) : w64 (w64 a * b) = w64 (a * b) := by rw [w64_bmod, w64_bmod a, w64_bmod, Int.bmod_mul_bmod]
theorem w64_mul_r (a b : Int) : w64 (a * w64 b) = w64 (a * b) := by rw [w64_bmod, w64_bmod b, w64_bmod, Int.mul_bmod_bmod]
theorem w64_w64 (a : Int) : w64 (w64 a) = w64 a := by rw [w64_bmod, w64_bmod, Int.bmod_bmod]

/-- |x| is at most k. -/
def B (k : Nat) (x : Int) : Prop := x.natAbs ≤ k
theorem B.add {a b : Nat} {x y : Int} (h : B a x) (k : B b y) : B (a + b) (x + y) := by unfold B at *; omega
theorem B.sub {a b : Nat} {x y : Int} (h : B a x) (k : B b y) : B (a + b) (x - y) := by unfold B at *; omega
theorem B.neg {a : Nat} {x : Int} (h : B a x) : B a (-x) := by unfold B at *; omega
theorem B.zsub {a : Nat} {x : Int} (h : B a x) : B a (0 - x) := by unfold B at *; omega
theorem B.mul {a b : Nat} {x y : Int} (h : B a x) (k : B b y) : B (a * b) (x * y) := by
  unfold B at *; rw [Int.natAbs_mul]; exact Nat.mul_le_mul h k
theorem B.lo {a : Nat} {x : Int} (h : B a x) : -(a : Int) ≤ x := by unfold B at h; omega
theorem B.hi {a : Nat} {x : Int} (h : B a x) : x ≤ a := by unfold B at h; omega
theorem B.of {a : Nat} {x : Int} (h : -(a : Int) ≤ x) (k : x ≤ a) : B a x := by unfold B; omega
theorem B.up {a b : Nat} {x : Int} (h : B a x) (k : a ≤ b) : B b x := Nat.le_trans h k
theorem B.abs {a : Nat} {x : Int} (h : B a x) : B a ((x.natAbs : Nat) : Int) := by unfold B at *; omega
theorem w64_B {k : Nat} {x : Int} (h : B k x) (hk : decide (k ≤ 9223372036854775807) = true) : w64 x = x := by
  have := of_decide_eq_true hk
  unfold B at h
  exact w64_id (by omega) (by omega)

theorem w64_B' {k : Nat} {x : Int} (h : B k x) (hk : k ≤ 9223372036854775807) : w64 x = x := by
  unfold B at h
  exact w64_id (by omega) (by omega)

/-- Places in lists are small. -/
def big : Nat := 9223372036854775807
theorem w64_suc {k : Nat} (h : k < big) : w64 ((k : Int) + 1) = ((k + 1 : Nat) : Int) := by
  unfold big at h
  rw [w64_id (by omega) (by omega)]; omega
theorem w64_nat {k : Nat} (h : k ≤ big) : w64 (k : Int) = k := by
  unfold big at h
  exact w64_id (by omega) (by omega)
theorem lget_nat {α : Type} (l : List α) (k : Nat) : lget l (k : Int) = l[k]? := by simp [lget]
theorem lget_zero {α : Type} (l : List α) : lget l 0 = l[0]? := rfl
theorem lget_one {α : Type} (l : List α) : lget l 1 = l[1]? := rfl
theorem lsl_take {α : Type} (l : List α) (k : Nat) (h : k ≤ l.length) : lsl l 0 (k : Int) = some (l.take k) := by
  unfold lsl; rw [if_pos (by omega)]; simp

theorem dec_iff {p q : Prop} [Decidable p] [Decidable q] (h : p ↔ q) : decide p = decide q := by simp [h]
theorem pl_eq (p : Pl) : Pl.mk p.A p.B p.C p.D = p := rfl
theorem sol_eq (s : Sol) : Sol.mk s.inn s.pl s.kids = s := Sol.eta s
theorem sol_eq' (s : Sol) : Sol.mk s.inn (Pl.mk s.pl.A s.pl.B s.pl.C s.pl.D) s.kids = s := Sol.eta s
theorem e2_ge (k : Nat) : E2 fun n m => k ≤ n ∧ k ≤ m := ⟨k, fun _ hn _ hm => ⟨hn, hm⟩⟩
theorem E2.up {p : Nat → Nat → Prop} (h : E2 p) : E2 fun n m => p n (m + 1) := let ⟨N, hN⟩ := h; ⟨N, fun n hn m hm => hN n hn (m + 1) (by omega)⟩
theorem e_ge (k : Nat) : Ev fun n => k ≤ n := ⟨k, fun _ hn => hn⟩
def lfS (b : Bool) : Sol := .mk b ⟨0, 0, 0, 0⟩ []
end Evl.T

/-! Epb -/
namespace Evl.T
open Go Evl

def PB (p : Pl) : Prop := B 500 p.A ∧ B 500 p.B ∧ B 500 p.C ∧ B 500 p.D

def det3 (p q r : Pl) : Int := p.A * (q.B * r.C - q.C * r.B) + p.B * (q.C * r.A - q.A * r.C) + p.C * (q.A * r.B - q.B * r.A)

theorem sAbs (x : Int) (h : B 9223372036854775807 x) : Dspec_l3Abs x = some (x.natAbs : Int) := by
  unfold Dspec_l3Abs B at *
  rw [frk_if]
  split
  · rename_i hx; have := of_decide_eq_true hx; rw [w64_id (by omega) (by omega)]; congr 1; omega
  · rename_i hx; simp only [decide_eq_true_eq] at hx; congr 1; omega
def sgn (x : Int) : Int := if x > 0 then 1 else if x < 0 then -1 else 0
theorem sSign (x : Int) : Dspec_l3Sign x = some (sgn x) := by
  unfold Dspec_l3Sign sgn
  simp only [frk_if, decide_eq_true_eq]
  split
  · rfl
  · split <;> rfl
theorem iSign (x : Int) : Dimpl_sign x = some (sgn x) := by
  unfold Dimpl_sign Dcmp_Compare Dcmp_isNaN sgn
  simp only [Option.bind_some, bne_self_eq_false, frk_f, frk_if, decide_eq_true_eq]
  by_cases h1 : x < 0 <;> by_cases h2 : x > 0 <;> simp [h1, h2] <;> omega

theorem sCross (p q : Pl) (hp : PB p) (hq : PB q) : Dspec_l4Cross p q = some (p.B * q.C - p.C * q.B, p.C * q.A - p.A * q.C, p.A * q.B - p.B * q.A) := by
  obtain ⟨a1, a2, a3, a4⟩ := hp; obtain ⟨b1, b2, b3, b4⟩ := hq
  unfold Dspec_l4Cross
  simp only [w64_sub_l, w64_sub_r]
  rw [w64_B ((a2.mul b3).sub (a3.mul b2)) rfl, w64_B ((a3.mul b1).sub (a1.mul b3)) rfl, w64_B ((a1.mul b2).sub (a2.mul b1)) rfl]
theorem sDet3 (p q r : Pl) (hp : PB p) (hq : PB q) (hr : PB r) : Dspec_l4Det3 p q r = some (det3 p q r) := by
  unfold Dspec_l4Det3
  rw [sCross q r hq hr]
  obtain ⟨a1, a2, a3, a4⟩ := hp; obtain ⟨b1, b2, b3, b4⟩ := hq; obtain ⟨c1, c2, c3, c4⟩ := hr
  simp only [Option.bind_some, w64_add_l, w64_add_r]
  rw [w64_B (((a1.mul ((b2.mul c3).sub (b3.mul c2))).add (a2.mul ((b3.mul c1).sub (b1.mul c3)))).add (a3.mul ((b1.mul c2).sub (b2.mul c1)))) rfl]
  rfl

/-- The product of the rows' numbers. -/
def dt (p q : Pl) : Int := p.A * q.A + p.B * q.B + p.C * q.C
def cr0 (p q : Pl) : Int := p.B * q.C - p.C * q.B
def cr1 (p q : Pl) : Int := p.C * q.A - p.A * q.C
def cr2 (p q : Pl) : Int := p.A * q.B - p.B * q.A
theorem crB {p q : Pl} (hp : PB p) (hq : PB q) : B 500000 (cr0 p q) ∧ B 500000 (cr1 p q) ∧ B 500000 (cr2 p q) := by
  obtain ⟨a1, a2, a3, a4⟩ := hp; obtain ⟨b1, b2, b3, b4⟩ := hq
  exact ⟨(a2.mul b3).sub (a3.mul b2), (a3.mul b1).sub (a1.mul b3), (a1.mul b2).sub (a2.mul b1)⟩
theorem sPar (p q : Pl) (hp : PB p) (hq : PB q) : Dspec_l4Parallel p q = some (if cr0 p q = 0 ∧ cr1 p q = 0 ∧ cr2 p q = 0 then sgn (dt p q) else 0) := by
  unfold Dspec_l4Parallel
  rw [sCross p q hp hq]
  obtain ⟨a1, a2, a3, a4⟩ := hp; obtain ⟨b1, b2, b3, b4⟩ := hq
  simp only [Option.bind_some, w64_add_l, w64_add_r, sSign]
  rw [w64_B (((a1.mul b1).add (a2.mul b2)).add (a3.mul b3)) rfl, frk_if]
  show (if (!(cr0 p q == 0 && (cr1 p q == 0 && (cr2 p q == 0 && true)))) = true then _ else _) = _
  by_cases h : cr0 p q = 0 ∧ cr1 p q = 0 ∧ cr2 p q = 0
  · rw [if_pos h, h.1, h.2.1, h.2.2]; rfl
  · rw [if_neg h, if_pos]
    simp only [Bool.not_eq_true', Bool.and_true, Bool.and_eq_false_iff, beq_eq_false_iff_ne]
    by_cases h1 : cr0 p q = 0
    · by_cases h2 : cr1 p q = 0
      · exact .inr (.inr fun h3 => h ⟨h1, h2, h3⟩)
      · exact .inr (.inl h2)
    · exact .inl h1

theorem iCross (u v : Int × Int × Int) (k l : Nat) (h : decide (k * l + k * l ≤ 9223372036854775807) = true) (a1 : B k u.1) (a2 : B k u.2.1) (a3 : B k u.2.2) (b1 : B l v.1) (b2 : B l v.2.1) (b3 : B l v.2.2) :
    Dimpl_crossOf u v = some (u.2.1 * v.2.2 - u.2.2 * v.2.1, u.2.2 * v.1 - u.1 * v.2.2, u.1 * v.2.1 - u.2.1 * v.1) := by
  unfold Dimpl_crossOf
  simp only [w64_sub_l, w64_sub_r]
  rw [w64_B ((a2.mul b3).sub (a3.mul b2)) h, w64_B ((a3.mul b1).sub (a1.mul b3)) h, w64_B ((a1.mul b2).sub (a2.mul b1)) h]
theorem iDot (u v : Int × Int × Int) (k l : Nat) (h : decide (k * l + k * l + k * l ≤ 9223372036854775807) = true) (a1 : B k u.1) (a2 : B k u.2.1) (a3 : B k u.2.2) (b1 : B l v.1) (b2 : B l v.2.1) (b3 : B l v.2.2) :
    Dimpl_dot u v = some (u.1 * v.1 + u.2.1 * v.2.1 + u.2.2 * v.2.2) := by
  unfold Dimpl_dot
  simp only [w64_add_l, w64_add_r]
  rw [w64_B (((a1.mul b1).add (a2.mul b2)).add (a3.mul b3)) h]
theorem iDet (p q r : Pl) (hp : PB p) (hq : PB q) (hr : PB r) : Dimpl_det (p.A, p.B, p.C) (q.A, q.B, q.C) (r.A, r.B, r.C) = some (det3 p q r) := by
  unfold Dimpl_det
  have hc := crB hq hr
  obtain ⟨a1, a2, a3, a4⟩ := hp; obtain ⟨b1, b2, b3, b4⟩ := hq; obtain ⟨c1, c2, c3, c4⟩ := hr
  rw [iCross (q.A, q.B, q.C) (r.A, r.B, r.C) 500 500 rfl b1 b2 b3 c1 c2 c3]
  simp only [Option.bind_some]
  show ((Dimpl_dot (p.A, p.B, p.C) (cr0 q r, cr1 q r, cr2 q r)).bind fun v1 => some v1) = _
  rw [iDot (p.A, p.B, p.C) (cr0 q r, cr1 q r, cr2 q r) 500 500000 rfl a1 a2 a3 hc.1 hc.2.1 hc.2.2]
  rfl
theorem iDet3 (p q r : Pl) (hp : PB p) (hq : PB q) (hr : PB r) : Dimpl_det3 p q r = some (det3 p q r) := by
  unfold Dimpl_det3 Dimpl_normal
  simp only [Option.bind_some]
  rw [iDet p q r hp hq hr]; rfl
theorem iPar (p q : Pl) (hp : PB p) (hq : PB q) : Dimpl_parallel p q = some (if cr0 p q = 0 ∧ cr1 p q = 0 ∧ cr2 p q = 0 then sgn (dt p q) else 0) := by
  unfold Dimpl_parallel Dimpl_normal
  obtain ⟨a1, a2, a3, a4⟩ := hp; obtain ⟨b1, b2, b3, b4⟩ := hq
  simp only [Option.bind_some, iSign]
  rw [iCross (p.A, p.B, p.C) (q.A, q.B, q.C) 500 500 rfl a1 a2 a3 b1 b2 b3, iDot (p.A, p.B, p.C) (q.A, q.B, q.C) 500 500 rfl a1 a2 a3 b1 b2 b3]
  simp only [Option.bind_some, frk_if]
  show (if (!(cr0 p q == 0 && (cr1 p q == 0 && (cr2 p q == 0 && true)))) = true then _ else _) = _
  by_cases h : cr0 p q = 0 ∧ cr1 p q = 0 ∧ cr2 p q = 0
  · rw [if_pos h, h.1, h.2.1, h.2.2]; rfl
  · rw [if_neg h, if_pos]
    simp only [Bool.not_eq_true', Bool.and_true, Bool.and_eq_false_iff, beq_eq_false_iff_ne]
    by_cases h1 : cr0 p q = 0
    · by_cases h2 : cr1 p q = 0
      · exact .inr (.inr fun h3 => h ⟨h1, h2, h3⟩)
      · exact .inr (.inl h2)
    · exact .inl h1

/-! two planes -/
def cl2 (p q : Pl) : Bool := decide ((cr0 p q = 0 ∧ cr1 p q = 0 ∧ cr2 p q = 0 ∧ dt p q < 0) ∧
  ((q.A.natAbs + q.B.natAbs + q.C.natAbs : Nat) : Int) * p.D + ((p.A.natAbs + p.B.natAbs + p.C.natAbs : Nat) : Int) * q.D ≤ 0)
theorem par_neg (p q : Pl) : ((if cr0 p q = 0 ∧ cr1 p q = 0 ∧ cr2 p q = 0 then sgn (dt p q) else 0) ≥ 0) ↔ ¬(cr0 p q = 0 ∧ cr1 p q = 0 ∧ cr2 p q = 0 ∧ dt p q < 0) := by
  by_cases h : cr0 p q = 0 ∧ cr1 p q = 0 ∧ cr2 p q = 0
  · rw [if_pos h]; unfold sgn
    constructor
    · intro h1 h2
      rw [if_neg (by omega), if_pos h2.2.2.2] at h1; omega
    · intro h1
      have : ¬ dt p q < 0 := fun h2 => h1 ⟨h.1, h.2.1, h.2.2, h2⟩
      split
      · omega
      · omega
  · rw [if_neg h]
    exact ⟨fun _ h2 => h ⟨h2.1, h2.2.1, h2.2.2.1⟩, fun _ => by omega⟩
theorem sClash2 (p q : Pl) (hp : PB p) (hq : PB q) : Dspec_l6Clash2 p q = some (cl2 p q) := by
  unfold Dspec_l6Clash2
  rw [sPar p q hp hq]
  obtain ⟨a1, a2, a3, a4⟩ := hp; obtain ⟨b1, b2, b3, b4⟩ := hq
  simp only [Option.bind_some, frk_if, decide_eq_true_eq]
  unfold cl2
  by_cases h : cr0 p q = 0 ∧ cr1 p q = 0 ∧ cr2 p q = 0 ∧ dt p q < 0
  · rw [if_neg (fun h1 => (par_neg p q).1 h1 h)]
    rw [sAbs _ (b1.up (by decide)), sAbs _ (b2.up (by decide)), sAbs _ (b3.up (by decide)), sAbs _ (a1.up (by decide)), sAbs _ (a2.up (by decide)), sAbs _ (a3.up (by decide))]
    simp only [Option.bind_some, w64_add_l, w64_add_r, w64_mul_l]
    rw [w64_B (((((b1.abs).add b2.abs).add b3.abs).mul a4).add ((((a1.abs).add a2.abs).add a3.abs).mul b4)) rfl]
    congr 1
    apply dec_iff
    simp only [Int.natCast_add]
    exact ⟨fun h1 => ⟨h, h1⟩, fun h1 => h1.2⟩
  · rw [if_pos ((par_neg p q).2 h)]
    congr 1; symm; apply decide_eq_false; exact fun h1 => h h1.1
/-- max of x and -x. -/
theorem maxAbs (x : Int) (h : B 500 x) : maxN x [w64 (0 - x)] = (x.natAbs : Int) := by
  unfold B at h
  rw [w64_id (by omega) (by omega)]
  simp only [maxN]; split <;> omega
theorem scale_iff {x y k l : Int} (hk : 0 < k) (hl : 0 < l) (h : x * k = y * l) : x ≤ 0 ↔ y ≤ 0 := by
  constructor
  · intro hx
    have h1 : x * k ≤ 0 := Int.mul_nonpos_of_nonpos_of_nonneg hx (Int.le_of_lt hk)
    rw [h] at h1
    by_cases hy : 0 < y
    · have := Int.mul_pos hy hl; omega
    · omega
  · intro hy
    have h1 : y * l ≤ 0 := Int.mul_nonpos_of_nonpos_of_nonneg hy (Int.le_of_lt hl)
    rw [← h] at h1
    by_cases hx : 0 < x
    · have := Int.mul_pos hx hk; omega
    · omega
theorem na_mul {a b c d : Int} (h : a * b = c * d) : (a.natAbs : Int) * b.natAbs = c.natAbs * d.natAbs := by
  have := congrArg Int.natAbs h
  rw [Int.natAbs_mul, Int.natAbs_mul] at this
  exact_mod_cast this
theorem iClash2 (n : Nat) (p q : Pl) (hp : PB p) (hq : PB q) : Dimpl_clash2 n p q = some (cl2 p q) := by
  unfold Dimpl_clash2
  rw [iPar p q hp hq]
  have hp0 := hp; have hq0 := hq
  obtain ⟨a1, a2, a3, a4⟩ := hp; obtain ⟨b1, b2, b3, b4⟩ := hq
  unfold Dimpl_normal
  simp only [Option.bind_some, frk_if, decide_eq_true_eq, bne_iff_ne, ne_eq]
  unfold cl2
  by_cases h : cr0 p q = 0 ∧ cr1 p q = 0 ∧ cr2 p q = 0 ∧ dt p q < 0
  · rw [if_neg (fun h1 => (par_neg p q).1 h1 h)]
    obtain ⟨e0, e1, e2, e3⟩ := h
    have k0 : p.B * q.C = p.C * q.B := by unfold cr0 at e0; omega
    have k1 : p.C * q.A = p.A * q.C := by unfold cr1 at e1; omega
    have k2 : p.A * q.B = p.B * q.A := by unfold cr2 at e2; omega
    have l0 := na_mul k0; have l1 := na_mul k1; have l2 := na_mul k2
    simp only [w64_add_l, w64_add_r]
    simp only [maxAbs _ a1, maxAbs _ a2, maxAbs _ a3, maxAbs _ b1, maxAbs _ b2, maxAbs _ b3]
    rw [w64_B ((a4.mul b1.abs).add (b4.mul a1.abs)) rfl, w64_B ((a4.mul b2.abs).add (b4.mul a2.abs)) rfl, w64_B ((a4.mul b3.abs).add (b4.mul a3.abs)) rfl]
    have key : ∀ x y : Nat, 0 < x → (x : Int) * (q.A.natAbs + q.B.natAbs + q.C.natAbs : Nat) = (y : Int) * (p.A.natAbs + p.B.natAbs + p.C.natAbs : Nat) → 0 < p.A.natAbs + p.B.natAbs + p.C.natAbs →
        (p.D * (y : Int) + q.D * (x : Int) ≤ 0 ↔ ((q.A.natAbs + q.B.natAbs + q.C.natAbs : Nat) : Int) * p.D + ((p.A.natAbs + p.B.natAbs + p.C.natAbs : Nat) : Int) * q.D ≤ 0) := by
      intro x y hx he hv
      refine scale_iff (k := ((p.A.natAbs + p.B.natAbs + p.C.natAbs : Nat) : Int)) (l := (x : Int)) (by omega) (by omega) ?_
      generalize ((p.A.natAbs + p.B.natAbs + p.C.natAbs : Nat) : Int) = v at he ⊢
      generalize ((q.A.natAbs + q.B.natAbs + q.C.natAbs : Nat) : Int) = u at he ⊢
      generalize (x : Int) = x at he ⊢
      generalize (y : Int) = y at he ⊢
      grind
    by_cases hA : p.A = 0
    · by_cases hB : p.B = 0
      · by_cases hC : p.C = 0
        · exfalso; unfold dt at e3; rw [hA, hB, hC] at e3; simp at e3
        · rw [if_neg (by simpa using hA), if_neg (by simpa using hB), if_pos (by simpa using hC)]
          congr 1; apply dec_iff
          rw [key p.C.natAbs q.C.natAbs (by omega) (by simp only [Int.natCast_add]; grind) (by omega)]
          exact ⟨fun h1 => ⟨⟨e0, e1, e2, e3⟩, h1⟩, fun h1 => h1.2⟩
      · rw [if_neg (by simpa using hA), if_pos (by simpa using hB)]
        congr 1; apply dec_iff
        rw [key p.B.natAbs q.B.natAbs (by omega) (by simp only [Int.natCast_add]; grind) (by omega)]
        exact ⟨fun h1 => ⟨⟨e0, e1, e2, e3⟩, h1⟩, fun h1 => h1.2⟩
    · rw [if_pos (by simpa using hA)]
      congr 1; apply dec_iff
      rw [key p.A.natAbs q.A.natAbs (by omega) (by simp only [Int.natCast_add]; grind) (by omega)]
      exact ⟨fun h1 => ⟨⟨e0, e1, e2, e3⟩, h1⟩, fun h1 => h1.2⟩
  · rw [if_pos ((par_neg p q).2 h)]
    congr 1; symm; apply decide_eq_false; exact fun h1 => h h1.1
end Evl.T

/-! Epc -/
namespace Evl.T
open Go Evl

/-! sums by weights -/
theorem sSumStep (n : Nat) (f d : List Int) (rec : Bool × Bool × Int × Int → Option Bool) (up dn : Bool) (s : Int) (i : Nat) {v w : Int} (hi : f[i]? = some v) (hd : d[i]? = some w) (hB : B 9223372036854775807 v) :
    Dspec_l6Sum_3 n f d rec (up, dn, s, (i : Int)) = rec (up && decide (v > 0), dn && decide (v < 0), w64 (s + (v.natAbs : Int) * w), w64 ((i : Int) + 1)) := by
  have hl : i < f.length := (List.getElem?_eq_some_iff.1 hi).1
  unfold Dspec_l6Sum_3 Dspec_l6Sum_0 Dspec_l6Sum_1
  simp only [lget_nat, hi, hd, Option.bind_some, sAbs v hB, w64_add_r]
  have : decide ((i : Int) < (f.length : Int)) = true := by simpa using hl
  rw [this, frk_t]
  cases up <;> cases dn <;> simp [frk_t, frk_f]
theorem sSumEnd (n : Nat) (f d : List Int) (rec : Bool × Bool × Int × Int → Option Bool) (up dn : Bool) (s : Int) (i : Nat) (hi : f.length = i) :
    Dspec_l6Sum_3 n f d rec (up, dn, s, (i : Int)) = some ((up || dn) && decide (s ≤ 0)) := by
  unfold Dspec_l6Sum_3 Dspec_l6Sum_2
  subst hi
  simp only [Int.lt_irrefl, decide_false, frk_f]
  cases up <;> cases dn <;> simp [frk_t, frk_f]
theorem iWStep (n : Nat) (d : List Int) (one : Int) (f : List Int) (rec : Int × Int → Option Bool) (s : Int) (i : Nat) {v w : Int} (hi : f[i]? = some v) (hd : d[i]? = some w) :
    Dimpl_weighs_1 n d one f (f.length : Int) rec (s, (i : Int)) = if one = 0 ∨ sgn v ≠ one then some false else rec (w64 (s + v * w), w64 ((i : Int) + 1)) := by
  have hl : i < f.length := (List.getElem?_eq_some_iff.1 hi).1
  unfold Dimpl_weighs_1 Dimpl_weighs_0
  simp only [lget_nat, hi, hd, Option.bind_some, iSign, w64_add_r]
  have : decide ((i : Int) < (f.length : Int)) = true := by simpa using hl
  rw [this, frk_t]
  by_cases h1 : one = 0
  · simp [h1, frk_t]
  · have e1 : (one == 0) = false := by simpa using h1
    rw [e1, frk_f]
    by_cases h2 : sgn v = one
    · have e2 : (sgn v != one) = false := by simpa using h2
      rw [e2, frk_f, if_neg (by simp [h1, h2])]
    · have e2 : (sgn v != one) = true := by simpa using h2
      rw [e2, frk_t, if_pos (.inr h2)]
theorem iWEnd (n : Nat) (d : List Int) (one : Int) (f : List Int) (rec : Int × Int → Option Bool) (s : Int) (i : Nat) (hi : f.length = i) :
    Dimpl_weighs_1 n d one f (f.length : Int) rec (s, (i : Int)) = some (decide (w64 (s * one) ≤ 0)) := by
  unfold Dimpl_weighs_1
  subst hi
  simp only [Int.lt_irrefl, decide_false, frk_f]

theorem big1 : w64 ((0 : Nat) : Int) = ((0 : Nat) : Int) := rfl
theorem sSum3 {k : Nat} {a b c d e f : Int} (hk : k ≤ 1000000000000) (ha : B k a) (hb : B k b) (hc : B k c) (hd : B 500 d) (he : B 500 e) (hf : B 500 f) (n : Nat) (hn : 4 ≤ n) :
    Dspec_l6Sum n [a, b, c] [d, e, f] = some (decide (((a > 0 ∧ b > 0 ∧ c > 0) ∨ (a < 0 ∧ b < 0 ∧ c < 0)) ∧ (a.natAbs : Int) * d + (b.natAbs : Int) * e + (c.natAbs : Int) * f ≤ 0)) := by
  obtain ⟨n, rfl⟩ : ∃ m, n = m + 4 := ⟨n - 4, by omega⟩
  have up : ∀ {x}, B k x → B 9223372036854775807 x := fun h => h.up (by omega)
  have s1 : w64 (0 + (a.natAbs : Int) * d) = (a.natAbs : Int) * d := by
    rw [Int.zero_add]; exact w64_B' (ha.abs.mul hd) (by omega)
  have s2 : w64 ((a.natAbs : Int) * d + (b.natAbs : Int) * e) = (a.natAbs : Int) * d + (b.natAbs : Int) * e := w64_B' ((ha.abs.mul hd).add (hb.abs.mul he)) (by omega)
  have s3 : w64 ((a.natAbs : Int) * d + (b.natAbs : Int) * e + (c.natAbs : Int) * f) = (a.natAbs : Int) * d + (b.natAbs : Int) * e + (c.natAbs : Int) * f := w64_B' (((ha.abs.mul hd).add (hb.abs.mul he)).add (hc.abs.mul hf)) (by omega)
  unfold Dspec_l6Sum
  rw [loop_suc]
  show Dspec_l6Sum_3 _ _ _ _ (true, true, 0, ((0 : Nat) : Int)) = _
  rw [sSumStep _ _ _ _ _ _ _ 0 (v := a) (w := d) rfl rfl (up ha), s1, w64_suc (by decide), loop_suc]
  rw [sSumStep _ _ _ _ _ _ _ 1 (v := b) (w := e) rfl rfl (up hb), s2, w64_suc (by decide), loop_suc]
  rw [sSumStep _ _ _ _ _ _ _ 2 (v := c) (w := f) rfl rfl (up hc), s3, w64_suc (by decide), loop_suc]
  rw [sSumEnd _ _ _ _ _ _ _ 3 rfl]
  congr 1
  simp only [Bool.true_and, ← Bool.decide_and, ← Bool.decide_or]
  apply dec_iff
  constructor
  · rintro ⟨h | h, h2⟩
    · exact ⟨.inl ⟨h.1.1, h.1.2, h.2⟩, h2⟩
    · exact ⟨.inr ⟨h.1.1, h.1.2, h.2⟩, h2⟩
  · rintro ⟨h | h, h2⟩
    · exact ⟨.inl ⟨⟨h.1, h.2.1⟩, h.2.2⟩, h2⟩
    · exact ⟨.inr ⟨⟨h.1, h.2.1⟩, h.2.2⟩, h2⟩
theorem sSum4 {k : Nat} {a b c g d e f h : Int} (hk : k ≤ 1000000000000) (ha : B k a) (hb : B k b) (hc : B k c) (hg : B k g) (hd : B 500 d) (he : B 500 e) (hf : B 500 f) (hh : B 500 h) (n : Nat) (hn : 5 ≤ n) :
    Dspec_l6Sum n [a, b, c, g] [d, e, f, h] = some (decide (((a > 0 ∧ b > 0 ∧ c > 0 ∧ g > 0) ∨ (a < 0 ∧ b < 0 ∧ c < 0 ∧ g < 0)) ∧ (a.natAbs : Int) * d + (b.natAbs : Int) * e + (c.natAbs : Int) * f + (g.natAbs : Int) * h ≤ 0)) := by
  obtain ⟨n, rfl⟩ : ∃ m, n = m + 5 := ⟨n - 5, by omega⟩
  have up : ∀ {x}, B k x → B 9223372036854775807 x := fun h => h.up (by omega)
  have s1 : w64 (0 + (a.natAbs : Int) * d) = (a.natAbs : Int) * d := by
    rw [Int.zero_add]; exact w64_B' (ha.abs.mul hd) (by omega)
  have s2 : w64 ((a.natAbs : Int) * d + (b.natAbs : Int) * e) = (a.natAbs : Int) * d + (b.natAbs : Int) * e := w64_B' ((ha.abs.mul hd).add (hb.abs.mul he)) (by omega)
  have s3 : w64 ((a.natAbs : Int) * d + (b.natAbs : Int) * e + (c.natAbs : Int) * f) = (a.natAbs : Int) * d + (b.natAbs : Int) * e + (c.natAbs : Int) * f := w64_B' (((ha.abs.mul hd).add (hb.abs.mul he)).add (hc.abs.mul hf)) (by omega)
  have s4 : w64 ((a.natAbs : Int) * d + (b.natAbs : Int) * e + (c.natAbs : Int) * f + (g.natAbs : Int) * h) = (a.natAbs : Int) * d + (b.natAbs : Int) * e + (c.natAbs : Int) * f + (g.natAbs : Int) * h := w64_B' ((((ha.abs.mul hd).add (hb.abs.mul he)).add (hc.abs.mul hf)).add (hg.abs.mul hh)) (by omega)
  unfold Dspec_l6Sum
  rw [loop_suc]
  show Dspec_l6Sum_3 _ _ _ _ (true, true, 0, ((0 : Nat) : Int)) = _
  rw [sSumStep _ _ _ _ _ _ _ 0 (v := a) (w := d) rfl rfl (up ha), s1, w64_suc (by decide), loop_suc]
  rw [sSumStep _ _ _ _ _ _ _ 1 (v := b) (w := e) rfl rfl (up hb), s2, w64_suc (by decide), loop_suc]
  rw [sSumStep _ _ _ _ _ _ _ 2 (v := c) (w := f) rfl rfl (up hc), s3, w64_suc (by decide), loop_suc]
  rw [sSumStep _ _ _ _ _ _ _ 3 (v := g) (w := h) rfl rfl (up hg), s4, w64_suc (by decide), loop_suc]
  rw [sSumEnd _ _ _ _ _ _ _ 4 rfl]
  congr 1
  simp only [Bool.true_and, ← Bool.decide_and, ← Bool.decide_or]
  apply dec_iff
  constructor
  · rintro ⟨h | h, h2⟩
    · exact ⟨.inl ⟨h.1.1.1, h.1.1.2, h.1.2, h.2⟩, h2⟩
    · exact ⟨.inr ⟨h.1.1.1, h.1.1.2, h.1.2, h.2⟩, h2⟩
  · rintro ⟨h | h, h2⟩
    · exact ⟨.inl ⟨⟨⟨h.1, h.2.1⟩, h.2.2.1⟩, h.2.2.2⟩, h2⟩
    · exact ⟨.inr ⟨⟨⟨h.1, h.2.1⟩, h.2.2.1⟩, h.2.2.2⟩, h2⟩

theorem sgn_B (x : Int) : B 1 (sgn x) := by unfold sgn B; split; decide; split <;> decide
theorem iW3 {k : Nat} {a b c d e f : Int} (hk : k ≤ 1000000000000) (ha : B k a) (hb : B k b) (hc : B k c) (hd : B 500 d) (he : B 500 e) (hf : B 500 f) (n : Nat) (hn : 4 ≤ n) :
    Dimpl_weighs n [a, b, c] [d, e, f] = some (decide ((sgn a ≠ 0 ∧ sgn b = sgn a ∧ sgn c = sgn a) ∧ (a * d + b * e + c * f) * sgn a ≤ 0)) := by
  obtain ⟨n, rfl⟩ : ∃ m, n = m + 4 := ⟨n - 4, by omega⟩
  have s1 : w64 (0 + a * d) = a * d := by rw [Int.zero_add]; exact w64_B' (ha.mul hd) (by omega)
  have s2 : w64 (a * d + b * e) = a * d + b * e := w64_B' ((ha.mul hd).add (hb.mul he)) (by omega)
  have s3 : w64 (a * d + b * e + c * f) = a * d + b * e + c * f := w64_B' (((ha.mul hd).add (hb.mul he)).add (hc.mul hf)) (by omega)
  have s4 : w64 ((a * d + b * e + c * f) * sgn a) = (a * d + b * e + c * f) * sgn a := w64_B' ((((ha.mul hd).add (hb.mul he)).add (hc.mul hf)).mul (sgn_B a)) (by omega)
  unfold Dimpl_weighs
  show ((some a).bind _) = _
  simp only [Option.bind_some, iSign]
  rw [loop_suc]
  show Dimpl_weighs_1 _ _ _ _ (([a, b, c] : List Int).length : Int) _ (0, ((0 : Nat) : Int)) = _
  rw [iWStep _ _ _ _ _ _ 0 (v := a) (w := d) rfl rfl, s1, w64_suc (by decide), loop_suc]
  rw [iWStep _ _ _ _ _ _ 1 (v := b) (w := e) rfl rfl, s2, w64_suc (by decide), loop_suc]
  rw [iWStep _ _ _ _ _ _ 2 (v := c) (w := f) rfl rfl, s3, w64_suc (by decide), loop_suc]
  rw [iWEnd _ _ _ _ _ _ 3 rfl, s4]
  by_cases h1 : sgn a = 0
  · simp [h1]
  · by_cases h2 : sgn b = sgn a <;> by_cases h3 : sgn c = sgn a <;> simp [h1, h2, h3]
theorem iW4 {k : Nat} {a b c g d e f h : Int} (hk : k ≤ 1000000000000) (ha : B k a) (hb : B k b) (hc : B k c) (hg : B k g) (hd : B 500 d) (he : B 500 e) (hf : B 500 f) (hh : B 500 h) (n : Nat) (hn : 5 ≤ n) :
    Dimpl_weighs n [a, b, c, g] [d, e, f, h] = some (decide ((sgn a ≠ 0 ∧ sgn b = sgn a ∧ sgn c = sgn a ∧ sgn g = sgn a) ∧ (a * d + b * e + c * f + g * h) * sgn a ≤ 0)) := by
  obtain ⟨n, rfl⟩ : ∃ m, n = m + 5 := ⟨n - 5, by omega⟩
  have s1 : w64 (0 + a * d) = a * d := by rw [Int.zero_add]; exact w64_B' (ha.mul hd) (by omega)
  have s2 : w64 (a * d + b * e) = a * d + b * e := w64_B' ((ha.mul hd).add (hb.mul he)) (by omega)
  have s3 : w64 (a * d + b * e + c * f) = a * d + b * e + c * f := w64_B' (((ha.mul hd).add (hb.mul he)).add (hc.mul hf)) (by omega)
  have s4 : w64 (a * d + b * e + c * f + g * h) = a * d + b * e + c * f + g * h := w64_B' ((((ha.mul hd).add (hb.mul he)).add (hc.mul hf)).add (hg.mul hh)) (by omega)
  have s5 : w64 ((a * d + b * e + c * f + g * h) * sgn a) = (a * d + b * e + c * f + g * h) * sgn a := w64_B' (((((ha.mul hd).add (hb.mul he)).add (hc.mul hf)).add (hg.mul hh)).mul (sgn_B a)) (by omega)
  unfold Dimpl_weighs
  show ((some a).bind _) = _
  simp only [Option.bind_some, iSign]
  rw [loop_suc]
  show Dimpl_weighs_1 _ _ _ _ (([a, b, c, g] : List Int).length : Int) _ (0, ((0 : Nat) : Int)) = _
  rw [iWStep _ _ _ _ _ _ 0 (v := a) (w := d) rfl rfl, s1, w64_suc (by decide), loop_suc]
  rw [iWStep _ _ _ _ _ _ 1 (v := b) (w := e) rfl rfl, s2, w64_suc (by decide), loop_suc]
  rw [iWStep _ _ _ _ _ _ 2 (v := c) (w := f) rfl rfl, s3, w64_suc (by decide), loop_suc]
  rw [iWStep _ _ _ _ _ _ 3 (v := g) (w := h) rfl rfl, s4, w64_suc (by decide), loop_suc]
  rw [iWEnd _ _ _ _ _ _ 4 rfl, s5]
  by_cases h1 : sgn a = 0
  · simp [h1]
  · by_cases h2 : sgn b = sgn a <;> by_cases h3 : sgn c = sgn a <;> by_cases h4 : sgn g = sgn a <;> simp [h1, h2, h3, h4]

theorem sgn_pos {x : Int} : sgn x = 1 ↔ x > 0 := by unfold sgn; split; omega; split <;> omega
theorem sgn_neg {x : Int} : sgn x = -1 ↔ x < 0 := by unfold sgn; split; omega; split <;> omega
theorem sgn_zero {x : Int} : sgn x = 0 ↔ x = 0 := by unfold sgn; split; omega; split <;> omega

/-! four planes -/
def cl4 (p q r s : Pl) : Bool :=
  decide (((det3 q r s > 0 ∧ 0 - det3 p r s > 0 ∧ det3 p q s > 0 ∧ 0 - det3 p q r > 0) ∨ (det3 q r s < 0 ∧ 0 - det3 p r s < 0 ∧ det3 p q s < 0 ∧ 0 - det3 p q r < 0)) ∧
    ((det3 q r s).natAbs : Int) * p.D + ((0 - det3 p r s).natAbs : Int) * q.D + ((det3 p q s).natAbs : Int) * r.D + ((0 - det3 p q r).natAbs : Int) * s.D ≤ 0)
theorem detB {p q r : Pl} (hp : PB p) (hq : PB q) (hr : PB r) : B 750000000 (det3 p q r) := by
  have hc := crB hq hr
  obtain ⟨a1, a2, a3, a4⟩ := hp
  exact ((a1.mul hc.1).add (a2.mul hc.2.1)).add (a3.mul hc.2.2)
theorem sClash4 (p q r s : Pl) (hp : PB p) (hq : PB q) (hr : PB r) (hs : PB s) (n : Nat) (hn : 5 ≤ n) : Dspec_l6Clash4 n p q r s = some (cl4 p q r s) := by
  unfold Dspec_l6Clash4
  rw [sDet3 q r s hq hr hs, sDet3 p r s hp hr hs, sDet3 p q s hp hq hs, sDet3 p q r hp hq hr]
  simp only [Option.bind_some]
  rw [w64_B (detB hp hr hs).zsub rfl, w64_B (detB hp hq hr).zsub rfl]
  rw [sSum4 (k := 750000000) (by omega) (detB hq hr hs) (detB hp hr hs).zsub (detB hp hq hs) (detB hp hq hr).zsub hp.2.2.2 hq.2.2.2 hr.2.2.2 hs.2.2.2 n hn]
  rfl
theorem four {a b c g d e f h : Int} : ((sgn a ≠ 0 ∧ sgn b = sgn a ∧ sgn c = sgn a ∧ sgn g = sgn a) ∧ (a * d + b * e + c * f + g * h) * sgn a ≤ 0) ↔
    (((a > 0 ∧ b > 0 ∧ c > 0 ∧ g > 0) ∨ (a < 0 ∧ b < 0 ∧ c < 0 ∧ g < 0)) ∧ (a.natAbs : Int) * d + (b.natAbs : Int) * e + (c.natAbs : Int) * f + (g.natAbs : Int) * h ≤ 0) := by
  by_cases ha : a > 0
  · have h1 : sgn a = 1 := sgn_pos.2 ha
    rw [h1]
    constructor
    · rintro ⟨⟨-, hb, hc, hg⟩, hs⟩
      have hb := sgn_pos.1 hb; have hc := sgn_pos.1 hc; have hg := sgn_pos.1 hg
      refine ⟨.inl ⟨ha, hb, hc, hg⟩, ?_⟩
      rw [Int.natAbs_of_nonneg (by omega), Int.natAbs_of_nonneg (by omega), Int.natAbs_of_nonneg (by omega), Int.natAbs_of_nonneg (by omega)]; omega
    · rintro ⟨⟨-, hb, hc, hg⟩ | h2, hs⟩
      · refine ⟨⟨by omega, sgn_pos.2 hb, sgn_pos.2 hc, sgn_pos.2 hg⟩, ?_⟩
        rw [Int.natAbs_of_nonneg (by omega), Int.natAbs_of_nonneg (by omega), Int.natAbs_of_nonneg (by omega), Int.natAbs_of_nonneg (by omega)] at hs; omega
      · omega
  · by_cases ha' : a < 0
    · have h1 : sgn a = -1 := sgn_neg.2 ha'
      rw [h1]
      constructor
      · rintro ⟨⟨-, hb, hc, hg⟩, hs⟩
        have hb := sgn_neg.1 hb; have hc := sgn_neg.1 hc; have hg := sgn_neg.1 hg
        refine ⟨.inr ⟨ha', hb, hc, hg⟩, ?_⟩
        rw [Int.ofNat_natAbs_of_nonpos (by omega), Int.ofNat_natAbs_of_nonpos (by omega), Int.ofNat_natAbs_of_nonpos (by omega), Int.ofNat_natAbs_of_nonpos (by omega)]
        simp only [Int.neg_mul]; omega
      · rintro ⟨h2 | ⟨-, hb, hc, hg⟩, hs⟩
        · omega
        · refine ⟨⟨by omega, sgn_neg.2 hb, sgn_neg.2 hc, sgn_neg.2 hg⟩, ?_⟩
          rw [Int.ofNat_natAbs_of_nonpos (by omega), Int.ofNat_natAbs_of_nonpos (by omega), Int.ofNat_natAbs_of_nonpos (by omega), Int.ofNat_natAbs_of_nonpos (by omega)] at hs
          simp only [Int.neg_mul] at hs; omega
    · have h1 : sgn a = 0 := sgn_zero.2 (by omega)
      rw [h1]
      constructor
      · rintro ⟨⟨h2, -⟩, -⟩; exact absurd rfl h2
      · rintro ⟨h2 | h2, -⟩ <;> omega
theorem iClash4 (p q r s : Pl) (hp : PB p) (hq : PB q) (hr : PB r) (hs : PB s) (n : Nat) (hn : 5 ≤ n) : Dimpl_clash4 n p q r s = some (cl4 p q r s) := by
  unfold Dimpl_clash4
  rw [iDet3 q r s hq hr hs, iDet3 p r s hp hr hs, iDet3 p q s hp hq hs, iDet3 p q r hp hq hr]
  simp only [Option.bind_some]
  rw [w64_B (detB hp hr hs).zsub rfl, w64_B (detB hp hq hr).zsub rfl]
  rw [iW4 (k := 750000000) (by omega) (detB hq hr hs) (detB hp hr hs).zsub (detB hp hq hs) (detB hp hq hr).zsub hp.2.2.2 hq.2.2.2 hr.2.2.2 hs.2.2.2 n hn]
  simp only [Option.bind_some]
  unfold cl4
  congr 1
  exact dec_iff four

/-! three planes -/
theorem three {a b c d e f : Int} (hc : c > 0) : ((sgn a ≠ 0 ∧ sgn b = sgn a ∧ sgn c = sgn a) ∧ (a * d + b * e + c * f) * sgn a ≤ 0) ↔ ((a > 0 ∧ b > 0) ∧ a * d + b * e + c * f ≤ 0) := by
  have h1 : sgn c = 1 := sgn_pos.2 hc
  rw [h1]
  constructor
  · rintro ⟨⟨-, h3, h4⟩, h5⟩
    rw [← h4] at h3 h5
    exact ⟨⟨sgn_pos.1 h4.symm, sgn_pos.1 h3⟩, by omega⟩
  · rintro ⟨⟨h2, h3⟩, h5⟩
    rw [sgn_pos.2 h2, sgn_pos.2 h3]
    exact ⟨⟨by decide, rfl, rfl⟩, by omega⟩
theorem mul_pos_iff {x y k l : Int} (hk : 0 < k) (hl : 0 < l) (h : x * k = y * l) : 0 < x ↔ 0 < y := by
  have h1 := scale_iff hk hl h
  omega
/-- One part of the crosses tells what all together tell. -/
theorem core {x y w X Y Z d e f : Int} (hZ : 0 < Z) (hw : w ≠ 0) (hX : X * w = x * Z) (hY : Y * w = y * Z) :
    (((x > 0 ∧ y > 0 ∧ w > 0) ∨ (x < 0 ∧ y < 0 ∧ w < 0)) ∧ (x.natAbs : Int) * d + (y.natAbs : Int) * e + (w.natAbs : Int) * f ≤ 0) ↔ ((X > 0 ∧ Y > 0) ∧ X * d + Y * e + Z * f ≤ 0) := by
  by_cases h : 0 < w
  · have h1 := mul_pos_iff h hZ hX
    have h2 := mul_pos_iff h hZ hY
    have key : (X * d + Y * e + Z * f) * w = (x * d + y * e + w * f) * Z := by grind
    have h3 := scale_iff h hZ key
    constructor
    · rintro ⟨⟨hx, hy, -⟩ | h4, hs⟩
      · refine ⟨⟨h1.2 hx, h2.2 hy⟩, h3.2 ?_⟩
        rw [Int.natAbs_of_nonneg (by omega), Int.natAbs_of_nonneg (by omega), Int.natAbs_of_nonneg (by omega)] at hs; exact hs
      · omega
    · rintro ⟨⟨hx, hy⟩, hs⟩
      have hx := h1.1 hx; have hy := h2.1 hy
      refine ⟨.inl ⟨hx, hy, h⟩, ?_⟩
      rw [Int.natAbs_of_nonneg (by omega), Int.natAbs_of_nonneg (by omega), Int.natAbs_of_nonneg (by omega)]; exact h3.1 hs
  · have h0 : 0 < -w := by omega
    have h1 : 0 < X ↔ 0 < -x := mul_pos_iff h0 hZ (by grind)
    have h2 : 0 < Y ↔ 0 < -y := mul_pos_iff h0 hZ (by grind)
    have key : (X * d + Y * e + Z * f) * (-w) = (-x * d + -y * e + -w * f) * Z := by grind
    have h3 := scale_iff h0 hZ key
    constructor
    · rintro ⟨h4 | ⟨hx, hy, -⟩, hs⟩
      · omega
      · refine ⟨⟨h1.2 (by omega), h2.2 (by omega)⟩, h3.2 ?_⟩
        rw [Int.ofNat_natAbs_of_nonpos (by omega), Int.ofNat_natAbs_of_nonpos (by omega), Int.ofNat_natAbs_of_nonpos (by omega)] at hs; exact hs
    · rintro ⟨⟨hx, hy⟩, hs⟩
      have hx := h1.1 hx; have hy := h2.1 hy
      refine ⟨.inr ⟨by omega, by omega, by omega⟩, ?_⟩
      rw [Int.ofNat_natAbs_of_nonpos (by omega), Int.ofNat_natAbs_of_nonpos (by omega), Int.ofNat_natAbs_of_nonpos (by omega)]; exact h3.1 hs
def d3 (a b c d e f : Int) : Int := a * d + b * e + c * f
def cl3 (p q r : Pl) : Bool :=
  decide (det3 p q r = 0 ∧ 0 < d3 (cr0 p q) (cr1 p q) (cr2 p q) (cr0 p q) (cr1 p q) (cr2 p q) ∧
    (d3 (cr0 q r) (cr1 q r) (cr2 q r) (cr0 p q) (cr1 p q) (cr2 p q) > 0 ∧ d3 (cr0 r p) (cr1 r p) (cr2 r p) (cr0 p q) (cr1 p q) (cr2 p q) > 0) ∧
    d3 (cr0 q r) (cr1 q r) (cr2 q r) (cr0 p q) (cr1 p q) (cr2 p q) * p.D + d3 (cr0 r p) (cr1 r p) (cr2 r p) (cr0 p q) (cr1 p q) (cr2 p q) * q.D + d3 (cr0 p q) (cr1 p q) (cr2 p q) (cr0 p q) (cr1 p q) (cr2 p q) * r.D ≤ 0)
theorem d3B {a b c d e f : Int} (h1 : B 500000 a) (h2 : B 500000 b) (h3 : B 500000 c) (h4 : B 500000 d) (h5 : B 500000 e) (h6 : B 500000 f) : B 750000000000 (d3 a b c d e f) := ((h1.mul h4).add (h2.mul h5)).add (h3.mul h6)
theorem d3_pos {a b c : Int} (h : ¬(a = 0 ∧ b = 0 ∧ c = 0)) : 0 < d3 a b c a b c := by
  unfold d3
  have h1 : 0 ≤ a * a := by rw [← Int.natAbs_mul_self]; omega
  have h2 : 0 ≤ b * b := by rw [← Int.natAbs_mul_self]; omega
  have h3 : 0 ≤ c * c := by rw [← Int.natAbs_mul_self]; omega
  have key : ∀ x : Int, x ≠ 0 → 0 < x * x := fun x hx => by
    rw [← Int.natAbs_mul_self]
    have : 0 < x.natAbs := by omega
    have := Nat.mul_pos this this
    omega
  by_cases ha : a = 0
  · by_cases hb : b = 0
    · have := key c (fun hc => h ⟨ha, hb, hc⟩); omega
    · have := key b hb; omega
  · have := key a ha; omega
theorem iClash3 (p q r : Pl) (hp : PB p) (hq : PB q) (hr : PB r) (n : Nat) (hn : 4 ≤ n) : Dimpl_clash3 n p q r = some (cl3 p q r) := by
  unfold Dimpl_clash3 Dimpl_normal
  simp only [Option.bind_some]
  rw [iDet p q r hp hq hr]
  have x1 := crB hp hq; have x2 := crB hq hr; have x3 := crB hr hp
  have hD := And.intro hp.2.2.2 (And.intro hq.2.2.2 hr.2.2.2)
  obtain ⟨a1, a2, a3, a4⟩ := hp; obtain ⟨b1, b2, b3, b4⟩ := hq; obtain ⟨c1, c2, c3, c4⟩ := hr
  rw [iCross (p.A, p.B, p.C) (q.A, q.B, q.C) 500 500 rfl a1 a2 a3 b1 b2 b3, iCross (q.A, q.B, q.C) (r.A, r.B, r.C) 500 500 rfl b1 b2 b3 c1 c2 c3, iCross (r.A, r.B, r.C) (p.A, p.B, p.C) 500 500 rfl c1 c2 c3 a1 a2 a3]
  simp only [Option.bind_some]
  show frk _ _ ((Dimpl_dot (cr0 q r, cr1 q r, cr2 q r) (cr0 p q, cr1 p q, cr2 p q)).bind fun v6 => (Dimpl_dot (cr0 r p, cr1 r p, cr2 r p) (cr0 p q, cr1 p q, cr2 p q)).bind fun v8 => (Dimpl_dot (cr0 p q, cr1 p q, cr2 p q) (cr0 p q, cr1 p q, cr2 p q)).bind fun v9 => _) = _
  rw [iDot (cr0 q r, cr1 q r, cr2 q r) (cr0 p q, cr1 p q, cr2 p q) 500000 500000 rfl x2.1 x2.2.1 x2.2.2 x1.1 x1.2.1 x1.2.2, iDot (cr0 r p, cr1 r p, cr2 r p) (cr0 p q, cr1 p q, cr2 p q) 500000 500000 rfl x3.1 x3.2.1 x3.2.2 x1.1 x1.2.1 x1.2.2, iDot (cr0 p q, cr1 p q, cr2 p q) (cr0 p q, cr1 p q, cr2 p q) 500000 500000 rfl x1.1 x1.2.1 x1.2.2 x1.1 x1.2.1 x1.2.2]
  simp only [Option.bind_some]
  show frk _ _ ((Dimpl_weighs n [d3 (cr0 q r) (cr1 q r) (cr2 q r) (cr0 p q) (cr1 p q) (cr2 p q), d3 (cr0 r p) (cr1 r p) (cr2 r p) (cr0 p q) (cr1 p q) (cr2 p q), d3 (cr0 p q) (cr1 p q) (cr2 p q) (cr0 p q) (cr1 p q) (cr2 p q)] [p.D, q.D, r.D]).bind _) = _
  rw [iW3 (k := 750000000000) (by omega) (d3B x2.1 x2.2.1 x2.2.2 x1.1 x1.2.1 x1.2.2) (d3B x3.1 x3.2.1 x3.2.2 x1.1 x1.2.1 x1.2.2) (d3B x1.1 x1.2.1 x1.2.2 x1.1 x1.2.1 x1.2.2) hD.1 hD.2.1 hD.2.2 n hn]
  simp only [Option.bind_some, frk_if, bne_iff_ne, ne_eq]
  unfold cl3
  by_cases h : det3 p q r = 0
  · rw [if_neg (by simpa using h)]
    congr 1
    by_cases hw : cr0 p q = 0 ∧ cr1 p q = 0 ∧ cr2 p q = 0
    · rw [hw.1, hw.2.1, hw.2.2]
      simp [d3, sgn]
    · have hZ := d3_pos hw
      apply dec_iff
      rw [three hZ]
      exact ⟨fun h1 => ⟨h, hZ, h1.1, h1.2⟩, fun h1 => ⟨h1.2.2.1, h1.2.2.2⟩⟩
  · rw [if_pos h]
    congr 1; symm; apply decide_eq_false; exact fun h1 => h h1.1
end Evl.T

/-! Epd -/
namespace Evl.T
open Go Evl

/-- What crosses of planes whose determinant is 0 have in common. -/
theorem par3 {p q r : Pl} (h : det3 p q r = 0) :
    (cr0 q r * cr1 p q = cr1 q r * cr0 p q ∧ cr0 q r * cr2 p q = cr2 q r * cr0 p q ∧ cr1 q r * cr2 p q = cr2 q r * cr1 p q) ∧
    (cr0 r p * cr1 p q = cr1 r p * cr0 p q ∧ cr0 r p * cr2 p q = cr2 r p * cr0 p q ∧ cr1 r p * cr2 p q = cr2 r p * cr1 p q) := by
  obtain ⟨a, b, c, d⟩ := p; obtain ⟨e, f, g, i⟩ := q; obtain ⟨j, k, l, m⟩ := r
  simp only [det3, cr0, cr1, cr2] at h ⊢
  refine ⟨⟨?_, ?_, ?_⟩, ?_, ?_, ?_⟩ <;> grind
theorem prj {x0 x1 x2 w0 w1 w2 : Int} (h1 : x0 * w1 = x1 * w0) (h2 : x0 * w2 = x2 * w0) (h3 : x1 * w2 = x2 * w1) :
    d3 x0 x1 x2 w0 w1 w2 * w0 = x0 * d3 w0 w1 w2 w0 w1 w2 ∧ d3 x0 x1 x2 w0 w1 w2 * w1 = x1 * d3 w0 w1 w2 w0 w1 w2 ∧ d3 x0 x1 x2 w0 w1 w2 * w2 = x2 * d3 w0 w1 w2 w0 w1 w2 := by
  unfold d3
  refine ⟨?_, ?_, ?_⟩ <;> grind
theorem zero_of {x0 x1 x2 w0 w1 w2 : Int} (h1 : x0 * w1 = x1 * w0) (h2 : x0 * w2 = x2 * w0) (hw : ¬(w0 = 0 ∧ w1 = 0 ∧ w2 = 0)) (h0 : w0 = 0) : x0 = 0 := by
  rw [h0, Int.mul_zero] at h1 h2
  rcases Int.mul_eq_zero.1 h1 with h | h
  · exact h
  · rcases Int.mul_eq_zero.1 h2 with h' | h'
    · exact h'
    · exact absurd ⟨h0, h, h'⟩ hw

def sk (x y w d e f : Int) : Bool := decide (((x > 0 ∧ y > 0 ∧ w > 0) ∨ (x < 0 ∧ y < 0 ∧ w < 0)) ∧ (x.natAbs : Int) * d + (y.natAbs : Int) * e + (w.natAbs : Int) * f ≤ 0)
theorem sk_zero (x y d e f : Int) : sk x y 0 d e f = false := by
  unfold sk; apply decide_eq_false; rintro ⟨h | h, -⟩ <;> omega
theorem sk_cl3 {p q r : Pl} {x y w : Int} (h : det3 p q r = 0) (hw : ¬(cr0 p q = 0 ∧ cr1 p q = 0 ∧ cr2 p q = 0)) (h0 : w ≠ 0)
    (hX : d3 (cr0 q r) (cr1 q r) (cr2 q r) (cr0 p q) (cr1 p q) (cr2 p q) * w = x * d3 (cr0 p q) (cr1 p q) (cr2 p q) (cr0 p q) (cr1 p q) (cr2 p q))
    (hY : d3 (cr0 r p) (cr1 r p) (cr2 r p) (cr0 p q) (cr1 p q) (cr2 p q) * w = y * d3 (cr0 p q) (cr1 p q) (cr2 p q) (cr0 p q) (cr1 p q) (cr2 p q)) : sk x y w p.D q.D r.D = cl3 p q r := by
  have hZ := d3_pos hw
  unfold sk cl3
  apply dec_iff
  rw [core hZ h0 hX hY]
  exact ⟨fun h1 => ⟨h, hZ, h1.1, h1.2⟩, fun h1 => ⟨h1.2.2.1, h1.2.2.2⟩⟩

theorem sClash3 (p q r : Pl) (hp : PB p) (hq : PB q) (hr : PB r) (n : Nat) (hn : 4 ≤ n) : Dspec_l6Clash3 n p q r = some (cl3 p q r) := by
  have x1 := crB hp hq; have x2 := crB hq hr; have x3 := crB hr hp
  have hS : ∀ {x y w : Int}, B 500000 x → B 500000 y → B 500000 w → Dspec_l6Sum n [x, y, w] [p.D, q.D, r.D] = some (sk x y w p.D q.D r.D) := fun h1 h2 h3 =>
    sSum3 (k := 500000) (by omega) h1 h2 h3 hp.2.2.2 hq.2.2.2 hr.2.2.2 n hn
  have s0 := hS x2.1 x3.1 x1.1
  have s1 := hS x2.2.1 x3.2.1 x1.2.1
  have s2 := hS x2.2.2 x3.2.2 x1.2.2
  unfold Dspec_l6Clash3
  rw [sDet3 p q r hp hq hr, sCross q r hq hr, sCross r p hr hp, sCross p q hp hq]
  simp only [Option.bind_some]
  show frk _ _ (frk (cr0 q r != 0) (Dspec_l6Clash3_0 n p.A p.B p.C p.D q.A q.B q.C q.D r.A r.B r.C r.D (cr0 q r) (cr1 q r) (cr2 q r) (cr0 r p) (cr1 r p) (cr2 r p) (cr0 p q) (cr1 p q) (cr2 p q)) (frk (cr0 r p != 0) (Dspec_l6Clash3_0 n p.A p.B p.C p.D q.A q.B q.C q.D r.A r.B r.C r.D (cr0 q r) (cr1 q r) (cr2 q r) (cr0 r p) (cr1 r p) (cr2 r p) (cr0 p q) (cr1 p q) (cr2 p q)) (Dspec_l6Clash3_1 n (cr0 p q != 0) p.A p.B p.C p.D q.A q.B q.C q.D r.A r.B r.C r.D (cr0 q r) (cr1 q r) (cr2 q r) (cr0 r p) (cr1 r p) (cr2 r p) (cr0 p q) (cr1 p q) (cr2 p q)))) = _
  unfold Dspec_l6Clash3_1 Dspec_l6Clash3_3 Dspec_l6Clash3_5 Dspec_l6Clash3_0 Dspec_l6Clash3_2 Dspec_l6Clash3_4
  simp only [s0, s1, s2, Option.bind_some, frk_if, bne_iff_ne, ne_eq, ite_not]
  by_cases h : det3 p q r = 0
  · rw [if_pos h]
    by_cases hw : cr0 p q = 0 ∧ cr1 p q = 0 ∧ cr2 p q = 0
    · have e : cl3 p q r = false := by
        unfold cl3; rw [hw.1, hw.2.1, hw.2.2]; simp [d3]
      rw [e, hw.1, hw.2.1, hw.2.2]
      simp only [sk_zero, if_true]
      split <;> (try rfl)
      split <;> (try rfl)
      split <;> (try rfl)
      split <;> (try rfl)
      split <;> (try rfl)
      split <;> rfl
    · obtain ⟨⟨g1, g2, g3⟩, g4, g5, g6⟩ := par3 h
      obtain ⟨k0, k1, k2⟩ := prj g1 g2 g3
      obtain ⟨l0, l1, l2⟩ := prj g4 g5 g6
      have w0 : cr0 p q ≠ 0 → sk (cr0 q r) (cr0 r p) (cr0 p q) p.D q.D r.D = cl3 p q r := fun h0 => sk_cl3 h hw h0 k0 l0
      have w1 : cr1 p q ≠ 0 → sk (cr1 q r) (cr1 r p) (cr1 p q) p.D q.D r.D = cl3 p q r := fun h0 => sk_cl3 h hw h0 k1 l1
      have w2 : cr2 p q ≠ 0 → sk (cr2 q r) (cr2 r p) (cr2 p q) p.D q.D r.D = cl3 p q r := fun h0 => sk_cl3 h hw h0 k2 l2
      have z0 : cr0 p q = 0 → cr0 q r = 0 ∧ cr0 r p = 0 := fun h0 => ⟨zero_of g1 g2 hw h0, zero_of g4 g5 hw h0⟩
      have hw1 : ¬(cr1 p q = 0 ∧ cr0 p q = 0 ∧ cr2 p q = 0) := fun h1 => hw ⟨h1.2.1, h1.1, h1.2.2⟩
      have hw2 : ¬(cr2 p q = 0 ∧ cr0 p q = 0 ∧ cr1 p q = 0) := fun h1 => hw ⟨h1.2.1, h1.2.2, h1.1⟩
      have z1 : cr1 p q = 0 → cr1 q r = 0 ∧ cr1 r p = 0 := fun h0 => ⟨zero_of g1.symm g3 hw1 h0, zero_of g4.symm g6 hw1 h0⟩
      by_cases h0 : cr0 p q = 0
      · obtain ⟨y1, y2⟩ := z0 h0
        simp only [h0, y1, y2, if_true]
        by_cases h1 : cr1 p q = 0
        · obtain ⟨y3, y4⟩ := z1 h1
          have h2 : cr2 p q ≠ 0 := fun h2 => hw ⟨h0, h1, h2⟩
          simp only [h1, y3, y4, if_true, w2 h2, if_neg h2]
          split <;> (try rfl)
          split <;> rfl
        · simp only [w1 h1, if_neg h1]
          split <;> (try rfl)
          split <;> rfl
      · simp only [w0 h0, if_neg h0]
        split <;> (try rfl)
        split <;> rfl
  · rw [if_neg h]
    congr 1; symm; unfold cl3; apply decide_eq_false; exact fun h1 => h h1.1
end Evl.T

/-! Epe -/
namespace Evl.T
open Go Evl

theorem frk_cond {α : Type} (b : Bool) (x y : Option α) : frk b x y = cond b x y := by cases b <;> rfl
theorem search {α : Type} {F : (Int → Option α) → Int → Option α} {len : Nat} {b : Nat → Bool} {hit miss : Option α} (hl : len ≤ big)
    (hF : ∀ rec (k : Nat), k < len → F rec (k : Int) = cond (b k) hit (rec (w64 ((k : Int) + 1)))) (hE : ∀ rec, F rec (len : Int) = miss) :
    ∀ (d k m : Nat), k + d = len → d < m → loopN F m (k : Int) = cond ((List.range' k d).any b) hit miss := by
  intro d
  induction d with
  | zero =>
    intro k m hk hm
    obtain ⟨m, rfl⟩ : ∃ j, m = j + 1 := ⟨m - 1, by omega⟩
    rw [loop_suc]
    have : k = len := by omega
    subst this
    rw [hE]; rfl
  | succ d ih =>
    intro k m hk hm
    obtain ⟨m, rfl⟩ : ∃ j, m = j + 1 := ⟨m - 1, by omega⟩
    rw [loop_suc, hF _ k (by omega), w64_suc (by omega), ih (k + 1) m (by omega) (by omega)]
    simp only [List.range'_succ, List.any_cons]
    cases b k <;> rfl

def gt (l : List Pl) (i : Nat) : Pl := (l[i]?).getD ⟨0, 0, 0, 0⟩
theorem gt_some {l : List Pl} {i : Nat} (h : i < l.length) : l[i]? = some (gt l i) := by
  unfold gt; rw [List.getElem?_eq_getElem h]; rfl
theorem gt_mem {l : List Pl} {i : Nat} (h : i < l.length) : gt l i ∈ l := by
  have := gt_some h
  exact List.mem_of_getElem? this
theorem gt_take {l : List Pl} {i j : Nat} (h : j < i) (hi : i ≤ l.length) : (l.take i)[j]? = some (gt l j) := by
  rw [List.getElem?_take_of_lt h]; exact gt_some (by omega)

def sAny4 (l : List Pl) (p : Pl) (i j : Nat) : Bool := (List.range' (j + 1) (l.length - (j + 1))).any fun k => cl4 (gt l i) (gt l j) (gt l k) p
def sAny3 (l : List Pl) (p : Pl) (i : Nat) : Bool := (List.range' (i + 1) (l.length - (i + 1))).any fun j => cl3 (gt l i) (gt l j) p || sAny4 l p i j
/-- Does a plane clash with some of a list? -/
def wth (l : List Pl) (p : Pl) : Bool := (List.range' 0 l.length).any fun i => cl2 (gt l i) p || sAny3 l p i
theorem lt_dec {a b : Nat} (h : a < b) : decide ((a : Int) < (b : Int)) = true := by simpa using h
theorem lt_self (a : Nat) : decide ((a : Int) < (a : Int)) = false := by simp

theorem sWith (l : List Pl) (p : Pl) (hl : ∀ q ∈ l, PB q) (hp : PB p) (hs : l.length ≤ big) (n : Nat) (hn : l.length + 6 ≤ n) : Dspec_l6With n l p = some (wth l p) := by
  have hg : ∀ {i}, i < l.length → PB (gt l i) := fun h => hl _ (gt_mem h)
  unfold Dspec_l6With
  have h := search (F := Dspec_l6With_2 n l (l.length : Int) p.A p.B p.C p.D) (len := l.length) (b := fun i => cl2 (gt l i) p || sAny3 l p i) (hit := some true) (miss := some false) hs ?_ ?_ l.length 0 n (by omega) (by omega)
  · rw [show (0 : Int) = ((0 : Nat) : Int) from rfl, h]
    unfold wth
    cases (List.range' 0 l.length).any fun i => cl2 (gt l i) p || sAny3 l p i <;> rfl
  · intro rec0 i hi
    unfold Dspec_l6With_2
    simp only [lt_dec hi, frk_t, lget_nat, gt_some hi, Option.bind_some]
    rw [sClash2 _ _ (hg hi) hp]
    simp only [Option.bind_some]
    have h := search (F := Dspec_l6With_1 n rec0 l (l.length : Int) p.A p.B p.C p.D (i : Int)) (len := l.length) (b := fun j => cl3 (gt l i) (gt l j) p || sAny4 l p i j) (hit := some true) (miss := rec0 (w64 ((i : Int) + 1))) hs ?_ ?_ (l.length - (i + 1)) (i + 1) n (by omega) (by omega)
    · rw [w64_suc (by omega), h]
      simp only [sAny3]
      cases cl2 (gt l i) p
      · rw [frk_f, Bool.false_or, w64_suc (show i < big by omega)]
      · rw [frk_t, Bool.true_or, cond_true]
    · intro rec1 j hj
      unfold Dspec_l6With_1
      simp only [lt_dec hj, frk_t, lget_nat, gt_some hi, gt_some hj, Option.bind_some]
      rw [sClash3 _ _ _ (hg hi) (hg hj) hp n (by omega)]
      simp only [Option.bind_some]
      have h := search (F := Dspec_l6With_0 n rec1 rec0 (i : Int) l (l.length : Int) p.A p.B p.C p.D (j : Int)) (len := l.length) (b := fun k => cl4 (gt l i) (gt l j) (gt l k) p) (hit := some true) (miss := rec1 (w64 ((j : Int) + 1))) hs ?_ ?_ (l.length - (j + 1)) (j + 1) n (by omega) (by omega)
      · rw [w64_suc (by omega), h]
        simp only [sAny4]
        cases cl3 (gt l i) (gt l j) p
        · rw [frk_f, Bool.false_or, w64_suc (show j < big by omega)]
        · rw [frk_t, Bool.true_or, cond_true]
      · intro rec2 k hk
        unfold Dspec_l6With_0
        simp only [lt_dec hk, frk_t, lget_nat, gt_some hi, gt_some hj, gt_some hk, Option.bind_some]
        rw [sClash4 _ _ _ _ (hg hi) (hg hj) (hg hk) hp n (by omega)]
        simp only [Option.bind_some, frk_cond]
      · intro rec2
        unfold Dspec_l6With_0
        simp only [lt_self, frk_f]
    · intro rec1
      unfold Dspec_l6With_1
      simp only [lt_self, frk_f]
  · intro rec0
    unfold Dspec_l6With_2
    simp only [lt_self, frk_f]

def iAny4 (l : List Pl) (p : Pl) (i j : Nat) : Bool := (List.range' 0 j).any fun k => cl4 (gt l k) (gt l j) (gt l i) p
def iAny3 (l : List Pl) (p : Pl) (i : Nat) : Bool := (List.range' 0 i).any fun j => cl3 (gt l j) (gt l i) p || iAny4 l p i j
def iAny2 (l : List Pl) (p : Pl) : Bool := (List.range' 0 l.length).any fun i => cl2 (gt l i) p || iAny3 l p i
theorem iAny_wth (l : List Pl) (p : Pl) : iAny2 l p = wth l p := by
  rw [Bool.eq_iff_iff]
  simp only [iAny2, iAny3, iAny4, wth, sAny3, sAny4, List.any_eq_true, List.mem_range'_1, Bool.or_eq_true]
  constructor
  · rintro ⟨i, hi, h | ⟨j, hj, h | ⟨k, hk, h⟩⟩⟩
    · exact ⟨i, hi, .inl h⟩
    · exact ⟨j, by omega, .inr ⟨i, by omega, .inl h⟩⟩
    · exact ⟨k, by omega, .inr ⟨j, by omega, .inr ⟨i, by omega, h⟩⟩⟩
  · rintro ⟨i, hi, h | ⟨j, hj, h | ⟨k, hk, h⟩⟩⟩
    · exact ⟨i, hi, .inl h⟩
    · exact ⟨j, by omega, .inr ⟨i, by omega, .inl h⟩⟩
    · exact ⟨k, by omega, .inr ⟨j, by omega, .inr ⟨i, by omega, h⟩⟩⟩

theorem iRoom (l : List Pl) (p : Pl) (hl : ∀ q ∈ l, PB q) (hp : PB p) (hs : l.length ≤ big) (n : Nat) (hn : l.length + 6 ≤ n) : Dimpl_room n l p = some (!wth l p) := by
  have hg : ∀ {i}, i < l.length → PB (gt l i) := fun h => hl _ (gt_mem h)
  have htl : ∀ {i}, i < l.length → (l.take i).length = i := fun h => by rw [List.length_take]; omega
  unfold Dimpl_room
  have h := search (F := Dimpl_room_2 n l l (l.length : Int) p.A p.B p.C p.D) (len := l.length) (b := fun i => cl2 (gt l i) p || iAny3 l p i) (hit := some false) (miss := some true) hs ?_ ?_ l.length 0 n (by omega) (by omega)
  · rw [show (0 : Int) = ((0 : Nat) : Int) from rfl, h, ← iAny_wth]
    unfold iAny2
    cases (List.range' 0 l.length).any fun i => cl2 (gt l i) p || iAny3 l p i <;> rfl
  · intro rec0 i hi
    unfold Dimpl_room_2
    simp only [lt_dec hi, frk_t, lget_nat, gt_some hi, Option.bind_some]
    rw [iClash2 _ _ _ (hg hi) hp]
    simp only [Option.bind_some, lsl_take l i (Nat.le_of_lt hi), htl hi]
    have h := search (F := Dimpl_room_1 n rec0 l l (l.length : Int) p.A p.B p.C p.D (i : Int) (l.take i) (i : Int) (gt l i).A (gt l i).B (gt l i).C (gt l i).D) (len := i) (b := fun j => cl3 (gt l j) (gt l i) p || iAny4 l p i j) (hit := some false) (miss := rec0 (w64 ((i : Int) + 1))) (by omega) ?_ ?_ i 0 n (by omega) (by omega)
    · rw [show (0 : Int) = ((0 : Nat) : Int) from rfl, h]
      simp only [iAny3]
      cases cl2 (gt l i) p
      · rw [frk_f, Bool.false_or]
      · rw [frk_t, Bool.true_or, cond_true]
    · intro rec1 j hj
      unfold Dimpl_room_1
      simp only [lt_dec hj, frk_t, lget_nat, gt_take hj (Nat.le_of_lt hi), Option.bind_some]
      rw [iClash3 _ _ _ (hg (by omega)) (hg hi) hp n (by omega)]
      simp only [Option.bind_some, lsl_take l j (by omega), htl (show j < l.length by omega)]
      have h := search (F := Dimpl_room_0 n rec1 rec0 (i : Int) (l.take i) (i : Int) (gt l i).A (gt l i).B (gt l i).C (gt l i).D l l (l.length : Int) p.A p.B p.C p.D (j : Int) (l.take j) (j : Int) (gt l j).A (gt l j).B (gt l j).C (gt l j).D) (len := j) (b := fun k => cl4 (gt l k) (gt l j) (gt l i) p) (hit := some false) (miss := rec1 (w64 ((j : Int) + 1))) (by omega) ?_ ?_ j 0 n (by omega) (by omega)
      · rw [show (0 : Int) = ((0 : Nat) : Int) from rfl, h]
        simp only [iAny4]
        cases cl3 (gt l j) (gt l i) p
        · rw [frk_f, Bool.false_or]
        · rw [frk_t, Bool.true_or, cond_true]
      · intro rec2 k hk
        unfold Dimpl_room_0
        simp only [lt_dec hk, frk_t, lget_nat, gt_take hk (show j ≤ l.length by omega), Option.bind_some]
        rw [iClash4 _ _ _ _ (hg (by omega)) (hg (by omega)) (hg hi) hp n (by omega)]
        simp only [Option.bind_some, frk_cond]
      · intro rec2
        unfold Dimpl_room_0
        simp only [lt_self, frk_f]
    · intro rec1
      unfold Dimpl_room_1
      simp only [lt_self, frk_f]
  · intro rec0
    unfold Dimpl_room_2
    simp only [lt_self, frk_f]
end Evl.T

/-! Epf -/
namespace Evl.T
open Go Evl

def rIn (a lo hi : Int) : Bool := decide (a ≥ lo) && decide (a ≤ hi)
theorem sIn (a lo hi : Int) : Dspec_l1In a lo hi = some (rIn a lo hi) := by
  unfold Dspec_l1In rIn; cases decide (a ≥ lo) <;> simp [frk_t, frk_f]
theorem iIn (a lo hi : Int) : Dimpl_inRange a lo hi = some (rIn a lo hi) := by
  unfold Dimpl_inRange rIn; cases decide (a ≥ lo) <;> simp [frk_t, frk_f]
theorem iCoef (a : Int) : Dimpl_isCoef a = some (rIn a (-500) 500) := by unfold Dimpl_isCoef; rw [iIn]; rfl
theorem rIn_iff {a lo hi : Int} : rIn a lo hi = true ↔ lo ≤ a ∧ a ≤ hi := by unfold rIn; simp

theorem tmod_nat (a b : Nat) : Int.tmod (a : Int) (b : Int) = ((a % b : Nat) : Int) := by
  rw [Int.tmod_eq_emod_of_nonneg (by omega)]; rfl
theorem sGcdStep (n : Nat) (rec : Int × Int → Option Int) (a b : Int) : Dspec_l3Gcd_0 n rec (a, b) = frk (decide (b > 0)) ((rm .i64 a b).bind fun v => rec (b, v)) (some a) := rfl
theorem iDivInStep (n : Nat) (rec0 : Int × Int → Option Int) (l : List Int) (ln i : Int) (rec : Int × Int → Option Int) (a b : Int) : Dimpl_divisor_0 n rec0 l ln i rec (a, b) = frk (b != 0) ((rm .i64 a b).bind fun v => rec (b, v)) (rec0 (a, w64 (i + 1))) := rfl
theorem sGcdLoop (n : Nat) : ∀ (b a m : Nat), b < m → loopN (Dspec_l3Gcd_0 n) m ((a : Int), (b : Int)) = some ((Nat.gcd a b : Nat) : Int) := by
  intro b
  induction b using Nat.strongRecOn with
  | ind b ih =>
    intro a m hm
    obtain ⟨m, rfl⟩ : ∃ j, m = j + 1 := ⟨m - 1, by omega⟩
    rw [loop_suc, sGcdStep]
    by_cases hb : b = 0
    · subst hb; simp [frk_f]
    · have h1 : decide ((b : Int) > 0) = true := by simpa using by omega
      rw [h1, frk_t]
      unfold rm
      rw [if_neg (by omega)]
      simp only [Option.bind_some, tmod_nat]
      rw [ih (a % b) (Nat.mod_lt _ (by omega)) b m (by have := Nat.mod_lt a (show b > 0 by omega); omega)]
      congr 2
      rw [Nat.gcd_comm b, Nat.gcd_comm a, Nat.gcd_rec b a]
theorem sGcd (n : Nat) (a b : Int) (ha : B 9223372036854775807 a) (hb : B 9223372036854775807 b) (hn : b.natAbs < n) : Dspec_l3Gcd n a b = some ((Nat.gcd a.natAbs b.natAbs : Nat) : Int) := by
  unfold Dspec_l3Gcd
  rw [sAbs a ha, sAbs b hb]
  exact sGcdLoop n _ _ _ hn
theorem iDivIn (n : Nat) (rec0 : Int × Int → Option Int) (l : List Int) (ln i : Int) : ∀ (b a m : Nat), b < m → loopN (Dimpl_divisor_0 n rec0 l ln i) m ((a : Int), (b : Int)) = rec0 (((Nat.gcd a b : Nat) : Int), w64 (i + 1)) := by
  intro b
  induction b using Nat.strongRecOn with
  | ind b ih =>
    intro a m hm
    obtain ⟨m, rfl⟩ : ∃ j, m = j + 1 := ⟨m - 1, by omega⟩
    rw [loop_suc, iDivInStep]
    by_cases hb : b = 0
    · subst hb; simp [frk_f]
    · have h1 : ((b : Int) != 0) = true := by simpa using hb
      rw [h1, frk_t]
      unfold rm
      rw [if_neg (by omega)]
      simp only [Option.bind_some, tmod_nat]
      rw [ih (a % b) (Nat.mod_lt _ (by omega)) b m (by have := Nat.mod_lt a (show b > 0 by omega); omega)]
      congr 3
      rw [Nat.gcd_comm b, Nat.gcd_comm a, Nat.gcd_rec b a]
theorem maxAbs' (x : Int) (h : B 9223372036854775807 x) : maxN x [w64 (0 - x)] = (x.natAbs : Int) := by
  unfold B at h
  rw [w64_id (by omega) (by omega)]
  simp only [maxN]; split <;> omega
theorem iDivStep (n : Nat) (l : List Int) (rec0 : Int × Int → Option Int) (g i : Nat) {v : Int} (hv : l[i]? = some v) (hB : B 9223372036854775807 v) (hn : v.natAbs < n) :
    Dimpl_divisor_1 n l (l.length : Int) rec0 ((g : Int), (i : Int)) = rec0 (((Nat.gcd g v.natAbs : Nat) : Int), w64 ((i : Int) + 1)) := by
  have hl : i < l.length := (List.getElem?_eq_some_iff.1 hv).1
  unfold Dimpl_divisor_1
  simp only [lt_dec hl, frk_t, lget_nat, hv, Option.bind_some, maxAbs' v hB]
  exact iDivIn n rec0 l _ _ _ _ _ hn
theorem iDivEnd (n : Nat) (l : List Int) (rec0 : Int × Int → Option Int) (g i : Nat) (hi : l.length = i) :
    Dimpl_divisor_1 n l (l.length : Int) rec0 ((g : Int), (i : Int)) = some (g : Int) := by
  unfold Dimpl_divisor_1
  subst hi
  simp only [lt_self, frk_f]
theorem iDiv4 (n : Nat) (a b c d : Int) (ha : B 9223372036854775807 a) (hb : B 9223372036854775807 b) (hc : B 9223372036854775807 c) (hd : B 9223372036854775807 d) (h1 : a.natAbs < n) (h2 : b.natAbs < n) (h3 : c.natAbs < n) (h4 : d.natAbs < n) (h5 : 5 ≤ n) :
    Dimpl_divisor n [a, b, c, d] = some ((Nat.gcd (Nat.gcd (Nat.gcd a.natAbs b.natAbs) c.natAbs) d.natAbs : Nat) : Int) := by
  unfold Dimpl_divisor
  have key : ∀ m, 5 ≤ m → loopN (Dimpl_divisor_1 n [a, b, c, d] (([a, b, c, d] : List Int).length : Int)) m (((0 : Nat) : Int), ((0 : Nat) : Int)) = some ((Nat.gcd (Nat.gcd (Nat.gcd a.natAbs b.natAbs) c.natAbs) d.natAbs : Nat) : Int) := by
    intro m hm
    obtain ⟨m, rfl⟩ : ∃ j, m = j + 5 := ⟨m - 5, by omega⟩
    rw [loop_suc, iDivStep n _ _ 0 0 (v := a) rfl ha h1, w64_suc (by decide), loop_suc]
    rw [iDivStep n _ _ _ 1 (v := b) rfl hb h2, w64_suc (by decide), loop_suc]
    rw [iDivStep n _ _ _ 2 (v := c) rfl hc h3, w64_suc (by decide), loop_suc]
    rw [iDivStep n _ _ _ 3 (v := d) rfl hd h4, w64_suc (by decide), loop_suc]
    rw [iDivEnd n _ _ _ 4 rfl, Nat.gcd_zero_left]
  exact key n h5

def pOk (p : Pl) : Bool := rIn p.A (-500) 500 && (rIn p.B (-500) 500 && (rIn p.C (-500) 500 && (rIn p.D (-500) 500 && (decide (p.A ≠ 0 ∨ p.B ≠ 0 ∨ p.C ≠ 0) && decide (Nat.gcd (Nat.gcd p.A.natAbs p.B.natAbs) (Nat.gcd p.C.natAbs p.D.natAbs) = 1)))))
theorem pOk_PB {p : Pl} (h : pOk p = true) : PB p := by
  unfold pOk at h
  simp only [Bool.and_eq_true, rIn_iff] at h
  obtain ⟨h1, h2, h3, h4, -⟩ := h
  exact ⟨B.of h1.1 h1.2, B.of h2.1 h2.2, B.of h3.1 h3.2, B.of h4.1 h4.2⟩
theorem rIn_B {a : Int} (h : rIn a (-500) 500 = true) : B 500 a := B.of (rIn_iff.1 h).1 (rIn_iff.1 h).2
theorem beq1 (k : Nat) : (((k : Nat) : Int) == 1) = decide (k = 1) := by
  rw [Bool.eq_iff_iff]; simp; omega
theorem gcd_up {a b : Nat} (hb : b ≤ 500) : Nat.gcd a b ≤ 500 ∨ b = 0 := by
  by_cases h : b = 0
  · exact .inr h
  · exact .inl (Nat.le_trans (Nat.gcd_le_right a (by omega)) hb)
theorem gcd_500 {a b : Nat} (ha : a ≤ 500) (hb : b ≤ 500) : Nat.gcd a b ≤ 500 := by
  rcases gcd_up (a := a) hb with h | h
  · exact h
  · rw [h, Nat.gcd_zero_right]; exact ha
theorem sPlaneOk (n : Nat) (p : Pl) (hn : 502 ≤ n) : Dspec_PlaneOk n p = some (pOk p) := by
  unfold Dspec_PlaneOk Dspec_l3In pOk
  simp only [sIn, Option.bind_some]
  cases h1 : rIn p.A (-500) 500
  · rfl
  cases h2 : rIn p.B (-500) 500
  · rfl
  cases h3 : rIn p.C (-500) 500
  · rfl
  cases h4 : rIn p.D (-500) 500
  · rfl
  have b1 := rIn_B h1; have b2 := rIn_B h2; have b3 := rIn_B h3; have b4 := rIn_B h4
  have u : ∀ {x}, B 500 x → B 9223372036854775807 x := fun h => h.up (by decide)
  simp only [frk_t, Option.bind_some, Bool.true_and]
  have e1 := sGcd n p.A p.B (u b1) (u b2) (by unfold B at b2; omega)
  have e2 := sGcd n p.C p.D (u b3) (u b4) (by unfold B at b4; omega)
  have g1 : Nat.gcd p.A.natAbs p.B.natAbs ≤ 500 := gcd_500 b1 b2
  have g2 : Nat.gcd p.C.natAbs p.D.natAbs ≤ 500 := gcd_500 b3 b4
  have e3 := sGcd n ((Nat.gcd p.A.natAbs p.B.natAbs : Nat) : Int) ((Nat.gcd p.C.natAbs p.D.natAbs : Nat) : Int) (by unfold B; omega) (by unfold B; omega) (by omega)
  simp only [Int.natAbs_natCast] at e3
  simp only [e1, e2, e3, Option.bind_some, frk_if, bne_iff_ne, ne_eq, beq1]
  by_cases hA : p.A = 0
  · by_cases hB : p.B = 0
    · by_cases hC : p.C = 0
      · simp [hA, hB, hC]
      · simp [hA, hB, hC]
    · simp [hA, hB]
  · simp [hA]
theorem iPlaneOk (n : Nat) (p : Pl) (hn : 502 ≤ n) : Dimpl_PlaneOk n p = some (pOk p) := by
  unfold Dimpl_PlaneOk Dimpl_PlaneOk_0 pOk
  simp only [iCoef, Option.bind_some]
  cases h1 : rIn p.A (-500) 500
  · rfl
  cases h2 : rIn p.B (-500) 500
  · rfl
  cases h3 : rIn p.C (-500) 500
  · rfl
  cases h4 : rIn p.D (-500) 500
  · rfl
  have b1 := rIn_B h1; have b2 := rIn_B h2; have b3 := rIn_B h3; have b4 := rIn_B h4
  have u : ∀ {x}, B 500 x → B 9223372036854775807 x := fun h => h.up (by decide)
  have e := iDiv4 n p.A p.B p.C p.D (u b1) (u b2) (u b3) (u b4) (by unfold B at b1; omega) (by unfold B at b2; omega) (by unfold B at b3; omega) (by unfold B at b4; omega) (by omega)
  simp only [Bool.not_true, frk_f, Option.bind_some, Bool.true_and, e, frk_if, bne_iff_ne, ne_eq, beq1, Nat.gcd_assoc]
  by_cases hA : p.A = 0
  · by_cases hB : p.B = 0
    · by_cases hC : p.C = 0
      · simp [hA, hB, hC]
      · simp [hA, hB, hC]
    · simp [hA, hB]
  · simp [hA]
/-- The other side. -/
def flp (p : Pl) : Pl := ⟨0 - p.A, 0 - p.B, 0 - p.C, 0 - p.D⟩
theorem flp_PB {p : Pl} (h : PB p) : PB (flp p) := ⟨h.1.zsub, h.2.1.zsub, h.2.2.1.zsub, h.2.2.2.zsub⟩
theorem sFlip (p : Pl) (h : PB p) : Dspec_l3Flip p = some (flp p) := by
  unfold Dspec_l3Flip
  rw [w64_B h.1.zsub rfl, w64_B h.2.1.zsub rfl, w64_B h.2.2.1.zsub rfl, w64_B h.2.2.2.zsub rfl]; rfl
theorem iFlip (p : Pl) (h : PB p) : Dimpl_flip p = some (flp p) := by
  unfold Dimpl_flip
  rw [w64_B h.1.zsub rfl, w64_B h.2.1.zsub rfl, w64_B h.2.2.1.zsub rfl, w64_B h.2.2.2.zsub rfl]; rfl
end Evl.T

/-! Esy -/
namespace Evl.T
open Go Evl


theorem sol_ind {P : Sol → Prop} (h : ∀ i p k, (∀ x ∈ k, P x) → P (.mk i p k)) : ∀ s, P s := by
  have key : ∀ n : Nat, ∀ s : Sol, sizeOf s < n → P s := by
    intro n
    induction n with
    | zero => intro s hs; omega
    | succ n ih =>
      intro s hs
      obtain ⟨i, p, k⟩ := s
      exact h i p k fun x hx => ih x (by
        have h1 := List.sizeOf_lt_of_mem hx
        simp only [Sol.mk.sizeOf_spec] at hs; omega)
  exact fun s => key (sizeOf s + 1) s (by omega)

/-- No list in a tree is longer than lists can be. -/
inductive Lens : Sol → Prop
  | mk {i p k} : k.length ≤ big → (∀ x ∈ k, Lens x) → Lens (.mk i p k)
mutual
/-- All elements of all lists in a tree. -/
def tot : Sol → Nat
  | .mk _ _ k => k.length + totL k
def totL : List Sol → Nat
  | [] => 0
  | x :: xs => tot x + totL xs
end
theorem tot_le {l : List Sol} {x : Sol} (h : x ∈ l) : tot x ≤ totL l := by
  induction l with
  | nil => cases h
  | cons y l ih =>
    simp only [totL]
    rcases List.mem_cons.1 h with rfl | h
    · omega
    · have := ih h; omega
def szv (t : Nat) (left : Int) : Int := if (t : Int) ≤ left then left - t else -1
def mil : Int := 1048576
theorem szv_yes {t : Nat} {left : Int} (h : (t : Int) ≤ left) : szv t left = left - t := if_pos h
theorem szv_no {t : Nat} {left : Int} (h : ¬(t : Int) ≤ left) : szv t left = -1 := if_neg h
theorem totL_cons (x : Sol) (r : List Sol) : totL (x :: r) = tot x + totL r := rfl
theorem totL_nil : totL [] = 0 := rfl
theorem tot_mk (i : Bool) (p : Pl) (k : List Sol) : tot (.mk i p k) = k.length + totL k := by rw [tot]

mutual
/-- How many nodes a tree has. -/
def nod : Sol → Nat
  | .mk _ _ k => match k with
    | [] => 0
    | x :: xs => 1 + (nod x + nodL xs)
def nodL : List Sol → Nat
  | [] => 0
  | x :: xs => nod x + nodL xs
end
theorem nod_leaf (i : Bool) (p : Pl) : nod (.mk i p []) = 0 := by rw [nod]
theorem nod_node (i : Bool) (p : Pl) (x : Sol) (xs : List Sol) : nod (.mk i p (x :: xs)) = 1 + nodL (x :: xs) := by rw [nod, nodL]
theorem nodL_nil : nodL [] = 0 := rfl
theorem nodL_cons (x : Sol) (xs : List Sol) : nodL (x :: xs) = nod x + nodL xs := by rw [nodL]

theorem drop_get {α : Type} {l r : List α} {x : α} {k : Nat} (h : l.drop k = x :: r) : k < l.length ∧ l[k]? = some x ∧ l.drop (k + 1) = r ∧ x ∈ l := by
  have hkl : k < l.length := by
    rcases Nat.lt_or_ge k l.length with h' | h'
    · exact h'
    · rw [List.drop_eq_nil_of_le h'] at h; cases h
  have hx : l[k]? = some x := by
    have := congrArg List.head? h
    simpa using this
  exact ⟨hkl, hx, by rw [← List.drop_drop, h]; rfl, List.mem_of_getElem? hx⟩
/-- Is the plane the zero one? -/
def zPl (p : Pl) : Bool := p.A == 0 && (p.B == 0 && (p.C == 0 && (p.D == 0 && true)))
/-- A tree is right along a path. -/
inductive Rt : Sol → List Pl → Prop
  | leaf {i p path} : zPl p = true → Rt (.mk i p []) path
  | node {p a b path} : pOk p = true → path.length < 24 → wth path p = false → wth path (flp p) = false → Rt a (path ++ [p]) → Rt b (path ++ [flp p]) → Rt (.mk false p [a, b]) path
end Evl.T

/-! Esz -/
namespace Evl.T
open Go Evl

theorem sPath (path : List Pl) (p : Pl) (h : path.length ≤ 1000) : Dspec_l8Path path p = some (path ++ [p]) := by
  unfold Dspec_l8Path
  rw [chk_eq, chk_eq]
  · rfl
  · simp only [apB, List.nil_append, Bool.and_eq_true, decide_eq_true_eq]; omega
  · simp only [apB, Bool.and_eq_true, decide_eq_true_eq]; omega
theorem iPath (path : List Pl) (p : Pl) (h : path.length ≤ 1000) : Dimpl_with path p = some (path ++ [p]) := sPath path p h
theorem path_PB {path : List Pl} {p : Pl} (h : ∀ q ∈ path, PB q) (hp : PB p) : ∀ q ∈ path ++ [p], PB q := by
  intro q hq
  rcases List.mem_append.1 hq with hq | hq
  · exact h q hq
  · rw [List.mem_singleton.1 hq]; exact hp

theorem rStep (n : Nat) (self : Int × Sol × List Pl → Option (Bool × Int)) (c : Int) (i : Bool) (p : Pl) (k : List Sol) (path : List Pl) : Dimpl_checker_right_b n self (c, .mk i p k, path) =
    frk ((k.length : Int) == 0) (some (zPl p, c)) (frk i (some (false, w64 (c + 1))) (frk ((k.length : Int) != 2) (some (false, w64 (c + 1))) (frk (decide (w64 (c + 1) > 300)) (some (false, w64 (c + 1))) (frk (decide ((path.length : Int) ≥ 24)) (some (false, w64 (c + 1))) ((Dimpl_PlaneOk n p).bind fun v1 => frk (!v1) (some (false, w64 (c + 1))) ((Dimpl_flip p).bind fun v2 => (Dimpl_room n path p).bind fun v3 => frk (!v3) (some (false, w64 (c + 1))) ((Dimpl_room n path v2).bind fun v4 => frk (!v4) (some (false, w64 (c + 1)))
      ((lget k 0).bind fun v5 => (Dimpl_with path p).bind fun v6 => (self (w64 (c + 1), v5, v6)).bind fun v7 => frk v7.1 ((lget k 1).bind fun v8 => (Dimpl_with path v2).bind fun v9 => (self (v7.2, v8, v9)).bind fun v10 => some v10) (some (false, v7.2)))))))))) := rfl
theorem nodL2 (x y : Sol) : nodL [x, y] = nod x + nod y := by rw [nodL_cons, nodL_cons, nodL_nil]; omega
theorem nod2 (i : Bool) (p : Pl) (x y : Sol) : nod (.mk i p [x, y]) = 1 + (nod x + nod y) := by rw [nod_node, nodL2]
theorem rightOk : ∀ s, E2 fun n m => ∀ (c : Nat) (path : List Pl), (∀ q ∈ path, PB q) → path.length ≤ 24 → c ≤ 300 →
    ∃ b c', loopN (Dimpl_checker_right_b n) m ((c : Int), s, path) = some (b, c') ∧ (b = true ↔ Rt s path ∧ c + nod s ≤ 300) ∧ (b = true → c' = ((c + nod s : Nat) : Int)) := by
  refine sol_ind fun i p k ih => ?_
  have h1 := E2.all fun x hx => ih x hx
  have h2 : E2 fun n _ => 600 < n := ⟨601, fun n hn _ _ => by omega⟩
  refine E2.suc ((h1.and h2).mono fun n m ⟨h1, h2⟩ c path hP hL hc => ?_)
  have hw : w64 ((c : Int) + 1) = ((c + 1 : Nat) : Int) := w64_suc (by unfold big; omega)
  rw [loop_suc, rStep, hw]
  have no : ∀ (c' : Int), ¬(Rt (.mk i p k) path ∧ c + nod (.mk i p k) ≤ 300) → ∃ b c'', some (false, c') = some (b, c'') ∧ (b = true ↔ Rt (.mk i p k) path ∧ c + nod (.mk i p k) ≤ 300) ∧ (b = true → c'' = ((c + nod (.mk i p k) : Nat) : Int)) :=
    fun c' h => ⟨false, c', rfl, ⟨fun h' => (by cases h'), fun h' => absurd h' h⟩, fun h' => (by cases h')⟩
  match k, h1, no with
  | [], _, _ =>
    refine ⟨zPl p, c, rfl, ⟨fun h => ⟨.leaf h, (by rw [nod_leaf]; omega)⟩, fun h => (by have := h.1; cases this; assumption)⟩, fun _ => by rw [nod_leaf]; rfl⟩
  | [x], _, no =>
    show ∃ b c', frk i (some (false, _)) (some (false, _)) = some (b, c') ∧ _
    cases i
    · rw [frk_f]; exact no _ (fun h => by have := h.1; cases this)
    · rw [frk_t]; exact no _ (fun h => by have := h.1; cases this)
  | x :: y :: z :: r, _, no =>
    have e1 : (((x :: y :: z :: r).length : Int) == 0) = false := by simp; omega
    have e2 : (((x :: y :: z :: r).length : Int) != 2) = true := by simp; omega
    rw [e1, frk_f, e2, frk_t]
    cases i
    · rw [frk_f]; exact no _ (fun h => by have := h.1; cases this)
    · rw [frk_t]; exact no _ (fun h => by have := h.1; cases this)
  | [x, y], h1, no =>
    rw [show ((([x, y] : List Sol).length : Int) == 0) = false from rfl, frk_f, show ((([x, y] : List Sol).length : Int) != 2) = false from rfl, frk_f]
    cases i with
    | true => rw [frk_t]; exact no _ (fun h => by have := h.1; cases this)
    | false =>
      rw [frk_f]
      by_cases h3 : ((c + 1 : Nat) : Int) > 300
      · rw [decide_eq_true h3, frk_t]; exact no _ (fun h => by have := h.2; rw [nod2] at this; omega)
      · rw [decide_eq_false h3, frk_f]
        by_cases hl : (path.length : Int) ≥ 24
        · rw [decide_eq_true hl, frk_t]; exact no _ (fun h => by have := h.1; cases this; omega)
        · rw [decide_eq_false hl, frk_f, iPlaneOk n p (by omega), Option.bind_some]
          cases hp : pOk p with
          | false => rw [Bool.not_false, frk_t]; exact no _ (fun h => by have := h.1; cases this; simp_all)
          | true =>
            have hpb := pOk_PB hp
            rw [Bool.not_true, frk_f, iFlip p hpb, Option.bind_some, iRoom path p hP hpb (by unfold big; omega) n (by omega), Option.bind_some]
            cases hw : wth path p with
            | true => rw [Bool.not_true, Bool.not_false, frk_t]; exact no _ (fun h => by have := h.1; cases this; simp_all)
            | false =>
              rw [Bool.not_false, Bool.not_true, frk_f, iRoom path (flp p) hP (flp_PB hpb) (by unfold big; omega) n (by omega), Option.bind_some]
              cases hw2 : wth path (flp p) with
              | true => rw [Bool.not_true, Bool.not_false, frk_t]; exact no _ (fun h => by have := h.1; cases this; simp_all)
              | false =>
                rw [Bool.not_false, Bool.not_true, frk_f]
                obtain ⟨b, c', e1, e2, e3⟩ := h1 x (by simp) (c + 1) _ (path_PB hP hpb) (by simp; omega) (by omega)
                show ∃ b c', ((some x).bind _) = some (b, c') ∧ _
                rw [Option.bind_some, iPath path p (by omega), Option.bind_some, e1, Option.bind_some]
                cases b with
                | false =>
                  rw [frk_f]
                  exact no _ (fun h => by
                    have h4 := h.2; rw [nod2] at h4
                    have h5 := h.1
                    cases h5 with
                    | node _ _ _ _ ha hb => exact absurd (e2.2 ⟨ha, by omega⟩) (by decide))
                | true =>
                  rw [frk_t]
                  obtain ⟨ha, hn⟩ := e2.1 rfl
                  obtain rfl := e3 rfl
                  obtain ⟨b2, c2, f1, f2, f3⟩ := h1 y (by simp) (c + 1 + nod x) _ (path_PB hP (flp_PB hpb)) (by simp; omega) (by omega)
                  show ∃ b c', ((some y).bind _) = some (b, c') ∧ _
                  rw [Option.bind_some, iPath path _ (by omega), Option.bind_some]
                  simp only
                  rw [f1, Option.bind_some]
                  refine ⟨b2, c2, rfl, ?_, ?_⟩
                  · rw [f2, nod2]
                    constructor
                    · intro h; exact ⟨.node hp (by omega) hw hw2 ha h.1, by omega⟩
                    · rintro ⟨h, h4⟩
                      cases h with
                      | node _ _ _ _ _ hb => exact ⟨hb, by omega⟩
                  · intro h; rw [f3 h, nod2]; omega
/-- A solid is right. -/
def Right (s : Sol) : Prop := Rt s [] ∧ nod s ≤ 300
open Classical in
theorem iSolidOk (s : Sol) : Ev fun n => Dimpl_SolidOk n s = some (decide (Right s)) := by
  refine (rightOk s).ev.mono fun n h1 => ?_
  unfold Dimpl_SolidOk Dimpl_checker_right
  obtain ⟨b, c', e1, e2, e3⟩ := h1 0 [] (fun q hq => by cases hq) (by simp) (by omega)
  rw [show (0 : Int) = ((0 : Nat) : Int) from rfl, e1, Option.bind_some]
  congr 1
  rw [Bool.eq_iff_iff, decide_eq_true_iff, e2]
  unfold Right
  rw [Nat.zero_add]
end Evl.T

/-! Eph -/
namespace Evl.T
open Go Evl
/-! counting -/
def cnv (t : Nat) (left : Int) : Int := if (t : Int) ≤ left then t else left
theorem cnv_yes {t : Nat} {left : Int} (h : (t : Int) ≤ left) : cnv t left = t := if_pos h
theorem cnv_no {t : Nat} {left : Int} (h : ¬(t : Int) ≤ left) : cnv t left = left := if_neg h
theorem cStep (n : Nat) (self : Sol × Int → Option Int) (i : Bool) (p : Pl) (k : List Sol) (left : Int) : Dspec_l8Count_b n self (.mk i p k, left) = frk ((k.length : Int) == 0) (some 0) (frk (decide (left ≤ 0)) (some 0) (loopN (Dspec_l8Count_1 n self left i p.A p.B p.C p.D k) n (1, 0))) := rfl
theorem cLoopStep (n : Nat) (self : Sol × Int → Option Int) (left : Int) (i : Bool) (a b c d : Int) (k : List Sol) (rec : Int × Int → Option Int) (s j : Int) : Dspec_l8Count_1 n self left i a b c d k rec (s, j) =
    frk (decide (j < (k.length : Int))) ((lget k j).bind fun v1 => (self (v1, w64 (left - s))).bind fun v2 => rec (w64 (s + v2), w64 (j + 1))) (some s) := rfl
theorem cLoop (n : Nat) (self : Sol × Int → Option Int) (left : Int) (hl0 : left ≤ 301) (i : Bool) (a b c d : Int) (k : List Sol) (hb : k.length ≤ big) (hs : ∀ x ∈ k, ∀ left : Int, 0 ≤ left → left ≤ 301 → self (x, left) = some (cnv (nod x) left)) :
    ∀ (r : List Sol) (j m : Nat), k.drop j = r → j ≤ k.length → r.length < m → ∀ s : Int, 0 ≤ s → s ≤ left → loopN (Dspec_l8Count_1 n self left i a b c d k) m (s, (j : Int)) = some (if s + (nodL r : Int) ≤ left then s + nodL r else left) := by
  intro r
  induction r with
  | nil =>
    intro j m hr hj hm s h0 h1
    obtain ⟨m, rfl⟩ : ∃ q, m = q + 1 := ⟨m - 1, by omega⟩
    have hj : j = k.length := by have := List.drop_eq_nil_iff.1 hr; omega
    subst hj
    rw [loop_suc, cLoopStep, lt_self, frk_f, nodL_nil, if_pos (by omega)]; congr 1; omega
  | cons x r ih =>
    intro j m hr hj hm s h0 h1
    simp only [List.length_cons] at hm
    obtain ⟨m, rfl⟩ : ∃ q, m = q + 1 := ⟨m - 1, by omega⟩
    obtain ⟨hjl, hx, hr', hmem⟩ := drop_get hr
    rw [loop_suc, cLoopStep, lt_dec hjl, frk_t, lget_nat, hx, Option.bind_some, w64_id (by omega) (by omega), hs x hmem (left - s) (by omega) (by omega), Option.bind_some, w64_suc (by omega), nodL_cons]
    by_cases hc : (nod x : Int) ≤ left - s
    · rw [cnv_yes hc, w64_id (by omega) (by omega), ih (j + 1) m hr' (by omega) (by omega) _ (by omega) (by omega)]
      by_cases h2 : s + (nod x : Int) + (nodL r : Int) ≤ left
      · rw [if_pos h2, if_pos (by omega)]; congr 1; omega
      · rw [if_neg h2, if_neg (by omega)]
    · rw [cnv_no hc, w64_id (by omega) (by omega), ih (j + 1) m hr' (by omega) (by omega) _ (by omega) (by omega), if_neg (show ¬(s + ((nod x + nodL r : Nat) : Int) ≤ left) by omega)]
      by_cases h2 : s + (left - s) + (nodL r : Int) ≤ left
      · rw [if_pos h2]; congr 1; omega
      · rw [if_neg h2]
theorem cntOk : ∀ s, Lens s → E2 fun n m => ∀ left : Int, 0 ≤ left → left ≤ 301 → loopN (Dspec_l8Count_b n) m (s, left) = some (cnv (nod s) left) := by
  refine sol_ind fun i p k ih hl => ?_
  cases hl with
  | mk hb hk =>
    have h1 := E2.all fun x hx => ih x hx (hk x hx)
    have h2 : E2 fun n _ => k.length < n := ⟨k.length + 1, fun n hn _ _ => by omega⟩
    refine E2.suc ((h1.and h2).mono fun n m ⟨h1, h2⟩ left l0 l1 => ?_)
    rw [loop_suc, cStep]
    cases k with
    | nil => rw [nod_leaf, cnv_yes (by omega)]; exact rfl
    | cons x xs =>
      have e : (((x :: xs).length : Int) == 0) = false := by simp; omega
      rw [e, frk_f]
      by_cases hc : left ≤ 0
      · rw [decide_eq_true hc, frk_t, nod_node, cnv_no (by omega)]; congr 1; omega
      · rw [decide_eq_false hc, frk_f]
        have := cLoop n (loopN (Dspec_l8Count_b n) m) left l1 i p.A p.B p.C p.D (x :: xs) hb h1 (x :: xs) 0 n (by simp) (by omega) h2 1 (by omega) (by omega)
        rw [show (0 : Int) = ((0 : Nat) : Int) from rfl, this, nod_node]
        unfold cnv
        by_cases h3 : 1 + (nodL (x :: xs) : Int) ≤ left
        · rw [if_pos h3, if_pos (by omega)]; congr 1
        · rw [if_neg h3, if_neg (by omega)]
theorem cnt (s : Sol) (h : Lens s) : Ev fun n => Dspec_l8Count n s 301 = some (cnv (nod s) 301) :=
  (cntOk s h).ev.mono fun n hn => hn 301 (by decide) (by decide)

/-! looking -/
theorem lStep (n : Nat) (self : Sol × List Pl → Option Bool) (i : Bool) (p : Pl) (k : List Sol) (path : List Pl) : Dspec_l8Look_b n self (.mk i p k, path) =
    frk ((k.length : Int) == 0) (some (zPl p)) (frk ((k.length : Int) != 2) (some false) (frk i (some false) ((Dspec_PlaneOk n p).bind fun v1 => frk (!v1) (some false) (frk ((path.length : Int) == 24) (some false) ((Dspec_l6With n path p).bind fun v2 => frk v2 (some false) ((Dspec_l3Flip p).bind fun v3 => (Dspec_l6With n path v3).bind fun v4 =>
      frk v4 (some false) ((lget k 0).bind fun v5 => (Dspec_l8Path path p).bind fun v6 => (self (v5, v6)).bind fun v7 => frk v7 ((lget k 1).bind fun v8 => (Dspec_l3Flip p).bind fun v9 => (Dspec_l8Path path v9).bind fun v10 => (self (v8, v10)).bind fun v11 => some v11) (some false)))))))) := rfl
open Classical in
theorem lookOk : ∀ s, E2 fun n m => ∀ path : List Pl, (∀ q ∈ path, PB q) → path.length ≤ 24 → loopN (Dspec_l8Look_b n) m (s, path) = some (decide (Rt s path)) := by
  refine sol_ind fun i p k ih => ?_
  have h1 := E2.all fun x hx => ih x hx
  have h2 : E2 fun n _ => 600 < n := ⟨601, fun n hn _ _ => by omega⟩
  refine E2.suc ((h1.and h2).mono fun n m ⟨h1, h2⟩ path hP hL => ?_)
  rw [loop_suc, lStep]
  match k, h1 with
  | [], _ =>
    show some (zPl p) = _
    congr 1
    rw [Bool.eq_iff_iff, decide_eq_true_iff]
    exact ⟨fun h => .leaf h, fun h => by cases h; assumption⟩
  | [x], _ =>
    show some false = _
    congr 1; symm; apply decide_eq_false; intro h; cases h
  | x :: y :: z :: r, _ =>
    have e1 : (((x :: y :: z :: r).length : Int) == 0) = false := by simp; omega
    have e2 : (((x :: y :: z :: r).length : Int) != 2) = true := by simp; omega
    rw [e1, frk_f, e2, frk_t]
    congr 1; symm; apply decide_eq_false; intro h; cases h
  | [x, y], h1 =>
    show frk i _ _ = _
    cases i with
    | true => rw [frk_t]; congr 1; symm; apply decide_eq_false; intro h; cases h
    | false =>
      rw [frk_f, sPlaneOk n p (by omega), Option.bind_some]
      cases hp : pOk p with
      | false => rw [Bool.not_false, frk_t]; congr 1; symm; apply decide_eq_false; intro h; cases h; simp_all
      | true =>
        have hpb := pOk_PB hp
        rw [Bool.not_true, frk_f]
        by_cases hl : path.length = 24
        · have e1 : ((path.length : Int) == 24) = true := by simp; omega
          rw [e1, frk_t]; congr 1; symm; apply decide_eq_false; intro h; cases h; omega
        · have e1 : ((path.length : Int) == 24) = false := by simp; omega
          rw [e1, frk_f, sWith path p hP hpb (by unfold big; omega) n (by omega), Option.bind_some]
          cases hw : wth path p with
          | true => rw [frk_t]; congr 1; symm; apply decide_eq_false; intro h; cases h; simp_all
          | false =>
            rw [frk_f, sFlip p hpb, Option.bind_some, sWith path (flp p) hP (flp_PB hpb) (by unfold big; omega) n (by omega), Option.bind_some]
            cases hw2 : wth path (flp p) with
            | true => rw [frk_t]; congr 1; symm; apply decide_eq_false; intro h; cases h; simp_all
            | false =>
              rw [frk_f]
              show ((some x).bind _) = _
              rw [Option.bind_some, sPath path p (by omega), Option.bind_some, h1 x (by simp) _ (path_PB hP hpb) (by simp; omega), Option.bind_some]
              by_cases ha : Rt x (path ++ [p])
              · rw [decide_eq_true ha, frk_t]
                show ((some y).bind _) = _
                rw [Option.bind_some, Option.bind_some, sPath path _ (by omega), Option.bind_some, h1 y (by simp) _ (path_PB hP (flp_PB hpb)) (by simp; omega), Option.bind_some]
                congr 1
                rw [Bool.eq_iff_iff, decide_eq_true_iff, decide_eq_true_iff]
                exact ⟨fun h => .node hp (by omega) hw hw2 ha h, fun h => by cases h; assumption⟩
              · rw [decide_eq_false ha, frk_f]; congr 1; symm; apply decide_eq_false; intro h; cases h; exact ha (by assumption)
end Evl.T


/-! Epi -/
namespace Evl.T
open Go Evl
open Classical in
theorem sSolidOk (s : Sol) (h : Lens s) : Ev fun n => Dspec_SolidOk n s = some (decide (Right s)) := by
  refine ((cnt s h).and (lookOk s).ev).mono fun n ⟨h1, h2⟩ => ?_
  unfold Dspec_SolidOk
  rw [h1, Option.bind_some]
  by_cases hc : (nod s : Int) ≤ 301
  · rw [cnv_yes hc]
    by_cases h3 : (nod s : Int) ≤ 300
    · rw [decide_eq_true h3, frk_t]
      unfold Dspec_l8Look
      rw [h2 [] (fun q hq => by cases hq) (by simp), Option.bind_some]
      congr 1
      rw [Bool.eq_iff_iff, decide_eq_true_iff, decide_eq_true_iff]
      exact ⟨fun h => ⟨h, by omega⟩, fun h => h.1⟩
    · rw [decide_eq_false h3, frk_f]; congr 1; symm; apply decide_eq_false; intro h; have := h.2; omega
  · rw [cnv_no hc]; show some false = _; congr 1; symm; apply decide_eq_false; intro h; have := h.2; omega
end Evl.T
