/- Texts that belong together, joined. No condition. -/
import Derived.Test.YtgaenniknmphcaaJp
/-! Etp -/
namespace Evl.T
open Go Evl

structure SpOk (q : Spot) : Prop where
  w : 1 ≤ q.W ∧ q.W ≤ 1000000000
  x : q.X.natAbs ≤ 1000000000
  y : q.Y.natAbs ≤ 1000000000
  z : q.Z.natAbs ≤ 1000000000
  g : Nat.gcd (Nat.gcd (Nat.gcd q.X.natAbs q.Y.natAbs) q.Z.natAbs) q.W.natAbs = 1
end Evl.T

/-! Ezu -/
namespace Evl.T
open Go Evl

def at4 (p : Pl) (q : Spot) : Int := p.A * q.X + p.B * q.Y + p.C * q.Z + p.D * q.W
theorem at_flp (p : Pl) (q : Spot) : at4 (flp p) q = 0 - at4 p q := by unfold at4 flp; simp only; grind
theorem at_w {p : Pl} {q : Spot} (hp : PB p) (hq : SpOk q) : w64 ((w64 ((w64 ((w64 (p.A * q.X)) + (w64 (p.B * q.Y)))) + (w64 (p.C * q.Z)))) + (w64 (p.D * q.W))) = at4 p q := by
  obtain ⟨a1, a2, a3, a4⟩ := hp
  have bx : B 1000000000 q.X := hq.x
  have by' : B 1000000000 q.Y := hq.y
  have bz : B 1000000000 q.Z := hq.z
  have bw : B 1000000000 q.W := by have := hq.w; unfold B; omega
  simp only [w64_add_l, w64_add_r]
  rw [w64_B ((((a1.mul bx).add (a2.mul by')).add (a3.mul bz)).add (a4.mul bw)) rfl]
  rfl
theorem iSideR {p : Pl} {q : Spot} (hp : PB p) (hq : SpOk q) : Dimpl_sideAt p q = some (sgn (at4 p q)) := by
  unfold Dimpl_sideAt; rw [iSign, Option.bind_some, at_w hp hq]
theorem sgn_ge (x : Int) : sgn x ≥ 0 ↔ 0 ≤ x := by unfold sgn; split <;> (try split) <;> omega
theorem sgn_le (x : Int) : sgn x ≤ 0 ↔ x ≤ 0 := by unfold sgn; split <;> (try split) <;> omega
end Evl.T

/-! Ezr -/
namespace Evl.T
open Go Evl

theorem gcd_bdC {a b k : Nat} (ha : a ≤ k) (hb : b ≤ k) : Nat.gcd a b ≤ k := by
  by_cases h : b = 0
  · subst h; rw [Nat.gcd_zero_right]; exact ha
  · exact Nat.le_trans (Nat.gcd_le_right a (by omega)) hb
theorem qtC {a b : Int} (hb : b ≠ 0) (ha : a.natAbs ≤ 1000000000) : qt .i64 a b = some (a.tdiv b) := by
  unfold qt
  rw [if_neg hb]
  have : (a.tdiv b).natAbs ≤ a.natAbs := by rw [Int.natAbs_tdiv]; exact Nat.div_le_self _ _
  have e : IntKind.i64.wrap (a.tdiv b) = a.tdiv b := w64_id (by omega) (by omega)
  rw [e]
def gd4 (a b c d : Int) : Nat := Nat.gcd (Nat.gcd (Nat.gcd a.natAbs b.natAbs) c.natAbs) d.natAbs
/-- What a spot's numbers are divided by. -/
def nsT (a b c d : Int) : Int := if d < 0 then 0 - (gd4 a b c d : Int) else (gd4 a b c d : Int)
def nsp (a b c d : Int) : Spot := ⟨a.tdiv (nsT a b c d), b.tdiv (nsT a b c d), c.tdiv (nsT a b c d), d.tdiv (nsT a b c d)⟩
theorem gd4_pos {a b c d : Int} (h0 : d ≠ 0) : 0 < gd4 a b c d := by
  unfold gd4
  apply Nat.pos_of_ne_zero
  intro e
  have := (Nat.gcd_eq_zero_iff.1 e).2
  omega
theorem gd4_le {a b c d : Int} (ha : a.natAbs ≤ 1000000000) (hb : b.natAbs ≤ 1000000000) (hc : c.natAbs ≤ 1000000000) (hd : d.natAbs ≤ 1000000000) : gd4 a b c d ≤ 1000000000 :=
  gcd_bdC (gcd_bdC (gcd_bdC ha hb) hc) hd
theorem nsT_ne {a b c d : Int} (h0 : d ≠ 0) : nsT a b c d ≠ 0 := by
  have := gd4_pos (a := a) (b := b) (c := c) h0
  unfold nsT; split <;> omega
theorem nsp_ok {a b c d : Int} (ha : a.natAbs ≤ 1000000000) (hb : b.natAbs ≤ 1000000000) (hc : c.natAbs ≤ 1000000000) (hd : d.natAbs ≤ 1000000000) (h0 : d ≠ 0) : SpOk (nsp a b c d) := by
  have hp := gd4_pos (a := a) (b := b) (c := c) h0
  have t0 : nsT a b c d ≠ 0 := nsT_ne h0
  have hgd : gd4 a b c d ∣ Nat.gcd (Nat.gcd a.natAbs b.natAbs) c.natAbs := Nat.gcd_dvd_left _ _
  have hdd : gd4 a b c d ∣ d.natAbs := Nat.gcd_dvd_right _ _
  have hcd := Nat.dvd_trans hgd (Nat.gcd_dvd_right _ _)
  have hab := Nat.dvd_trans hgd (Nat.gcd_dvd_left _ _)
  have had := Nat.dvd_trans hab (Nat.gcd_dvd_left _ _)
  have hbd := Nat.dvd_trans hab (Nat.gcd_dvd_right _ _)
  have ht : (nsT a b c d).natAbs = gd4 a b c d := by unfold nsT; split <;> omega
  have na : ∀ x : Int, (x.tdiv (nsT a b c d)).natAbs = x.natAbs / gd4 a b c d := fun x => by rw [Int.natAbs_tdiv, ht]; rfl
  have le : ∀ {x : Int}, x.natAbs ≤ 1000000000 → (x.tdiv (nsT a b c d)).natAbs ≤ 1000000000 := fun {x} h => by rw [na]; exact Nat.le_trans (Nat.div_le_self _ _) h
  refine ⟨?_, le ha, le hb, le hc, ?_⟩
  · have h1 := le hd
    have hpos : 0 < (d.tdiv (nsT a b c d)).natAbs := by rw [na]; exact Nat.div_pos (Nat.le_of_dvd (by omega) hdd) hp
    have hnn : 0 ≤ d.tdiv (nsT a b c d) := by
      rcases Int.lt_or_gt_of_ne h0 with h | h
      · have : nsT a b c d < 0 := by unfold nsT; rw [if_pos h]; omega
        have e : d.tdiv (nsT a b c d) = (-d).tdiv (-(nsT a b c d)) := by rw [Int.neg_tdiv_neg]
        rw [e]; exact Int.tdiv_nonneg (by omega) (by omega)
      · have : 0 < nsT a b c d := by unfold nsT; rw [if_neg (by omega)]; omega
        exact Int.tdiv_nonneg (by omega) (by omega)
    show 1 ≤ d.tdiv (nsT a b c d) ∧ d.tdiv (nsT a b c d) ≤ 1000000000
    omega
  · show Nat.gcd (Nat.gcd (Nat.gcd (a.tdiv (nsT a b c d)).natAbs (b.tdiv (nsT a b c d)).natAbs) (c.tdiv (nsT a b c d)).natAbs) (d.tdiv (nsT a b c d)).natAbs = 1
    rw [na, na, na, na, Nat.gcd_div had hbd]
    have q1 : gd4 a b c d ∣ Nat.gcd a.natAbs b.natAbs := Nat.dvd_gcd had hbd
    rw [Nat.gcd_div q1 hcd, Nat.gcd_div hgd hdd]
    exact Nat.div_self hp
theorem nsp_neg {a b c d : Int} (h0 : d ≠ 0) : nsp (-a) (-b) (-c) (-d) = nsp a b c d := by
  have e : nsT (-a) (-b) (-c) (-d) = -(nsT a b c d) := by
    unfold nsT gd4
    simp only [Int.natAbs_neg]
    split <;> split <;> omega
  unfold nsp
  rw [e, Int.neg_tdiv_neg, Int.neg_tdiv_neg, Int.neg_tdiv_neg, Int.neg_tdiv_neg]
theorem sNsp {a b c d : Int} (ha : a.natAbs ≤ 1000000000) (hb : b.natAbs ≤ 1000000000) (hc : c.natAbs ≤ 1000000000) (hd : d.natAbs ≤ 1000000000) (h0 : d ≠ 0) : ∀ n, 1000000001 ≤ n → Dspec_l5Spot n a b c d = some (nsp a b c d) := by
  intro n hn
  have u : ∀ {x : Int}, x.natAbs ≤ 1000000000 → B 9223372036854775807 x := fun h => by unfold B; omega
  have b1 := gcd_bdC ha hb
  have b2 := gcd_bdC hc hd
  have hl := gd4_le ha hb hc hd
  have t0 : nsT a b c d ≠ 0 := nsT_ne h0
  have hG : Nat.gcd (Nat.gcd a.natAbs b.natAbs) (Nat.gcd c.natAbs d.natAbs) = gd4 a b c d := by unfold gd4; rw [Nat.gcd_assoc (Nat.gcd a.natAbs b.natAbs)]
  have g1 := sGcd n a b (u ha) (u hb) (by omega)
  have g2 := sGcd n c d (u hc) (u hd) (by omega)
  have g3 := sGcd n ((Nat.gcd a.natAbs b.natAbs : Nat) : Int) ((Nat.gcd c.natAbs d.natAbs : Nat) : Int) (by unfold B; omega) (by unfold B; omega) (by omega)
  simp only [Int.natAbs_natCast] at g3
  rw [hG] at g3
  have fin : ∀ t : Int, t = nsT a b c d → Dspec_l5Spot_0 n a b c d t 0 0 0 0 = some (nsp a b c d) := fun t ht => by
    subst ht
    unfold Dspec_l5Spot_0
    rw [qtC t0 ha, Option.bind_some, qtC t0 hb, Option.bind_some, qtC t0 hc, Option.bind_some, qtC t0 hd, Option.bind_some]; rfl
  unfold Dspec_l5Spot
  rw [g1, Option.bind_some, g2, Option.bind_some, g3, Option.bind_some]
  by_cases hneg : d < 0
  · rw [decide_eq_true hneg, frk_t, w64_id (by omega) (by omega)]
    exact fin _ (by unfold nsT; rw [if_pos hneg])
  · rw [decide_eq_false hneg, frk_f]
    exact fin _ (by unfold nsT; rw [if_neg hneg])
/-! three planes -/
theorem det3C {p q r : Pl} (hp : PB p) (hq : PB q) (hr : PB r) : (det3 p q r).natAbs ≤ 1000000000 := by
  obtain ⟨a1, a2, a3, -⟩ := hp
  obtain ⟨b1, b2, b3, -⟩ := hq
  obtain ⟨c1, c2, c3, -⟩ := hr
  have h : B 750000000 (det3 p q r) := (((a1.mul ((b2.mul c3).sub (b3.mul c2))).add (a2.mul ((b3.mul c1).sub (b1.mul c3)))).add (a3.mul ((b1.mul c2).sub (b2.mul c1)))).up (by decide)
  unfold B at h; omega
def plX (p : Pl) : Pl := ⟨0 - p.D, p.B, p.C, 0⟩
def plY (p : Pl) : Pl := ⟨p.A, 0 - p.D, p.C, 0⟩
def plZ (p : Pl) : Pl := ⟨p.A, p.B, 0 - p.D, 0⟩
theorem z500 : B 500 (0 : Int) := B.of (by decide) (by decide)
theorem plX_B {p : Pl} (h : PB p) : PB (plX p) := ⟨h.2.2.2.zsub, h.2.1, h.2.2.1, z500⟩
theorem plY_B {p : Pl} (h : PB p) : PB (plY p) := ⟨h.1, h.2.2.2.zsub, h.2.2.1, z500⟩
theorem plZ_B {p : Pl} (h : PB p) : PB (plZ p) := ⟨h.1, h.2.1, h.2.2.2.zsub, z500⟩
/-- The spot where three planes meet. -/
def mt (p q r : Pl) : Option Spot := if det3 p q r = 0 then none else some (nsp (det3 (plX p) (plX q) (plX r)) (det3 (plY p) (plY q) (plY r)) (det3 (plZ p) (plZ q) (plZ r)) (det3 p q r))
def mtR (o : Option Spot) : Spot × Bool := match o with | some s => (s, true) | none => (⟨0, 0, 0, 0⟩, false)
theorem mt_ok {p q r : Pl} (hp : PB p) (hq : PB q) (hr : PB r) {s : Spot} (h : mt p q r = some s) : SpOk s := by
  unfold mt at h
  split at h
  · cases h
  · rename_i h0
    cases h
    exact nsp_ok (det3C (plX_B hp) (plX_B hq) (plX_B hr)) (det3C (plY_B hp) (plY_B hq) (plY_B hr)) (det3C (plZ_B hp) (plZ_B hq) (plZ_B hr)) (det3C hp hq hr) h0
theorem det3_rev (p q r : Pl) : det3 r q p = -(det3 p q r) := by unfold det3; grind
theorem mt_rev (p q r : Pl) : mt r q p = mt p q r := by
  unfold mt
  rw [det3_rev p q r, det3_rev (plX p), det3_rev (plY p), det3_rev (plZ p)]
  by_cases h : det3 p q r = 0
  · rw [if_pos (by omega), if_pos h]
  · rw [if_neg (by omega), if_neg h, nsp_neg h]
theorem wD {x : Pl} (h : PB x) : w64 (0 - x.D) = 0 - x.D := w64_B h.2.2.2.zsub (by decide)
theorem sMeet {p q r : Pl} (hp : PB p) (hq : PB q) (hr : PB r) : ∀ n, 1000000001 ≤ n → Dspec_l5Meet n p q r = some (mtR (mt p q r)) := by
  intro n hn
  unfold Dspec_l5Meet mt
  rw [sDet3 p q r hp hq hr, Option.bind_some]
  by_cases h0 : det3 p q r = 0
  · rw [show (det3 p q r == 0) = true by simpa using h0, frk_t, if_pos h0]; rfl
  · rw [show (det3 p q r == 0) = false by simpa using h0, frk_f, if_neg h0, wD hp, wD hq, wD hr]
    show ((Dspec_l4Det3 (plX p) (plX q) (plX r)).bind fun v1 => (Dspec_l4Det3 (plY p) (plY q) (plY r)).bind fun v2 => (Dspec_l4Det3 (plZ p) (plZ q) (plZ r)).bind fun v3 => (Dspec_l5Spot n v1 v2 v3 (det3 p q r)).bind fun v4 => some (v4, true)) = _
    rw [sDet3 _ _ _ (plX_B hp) (plX_B hq) (plX_B hr), Option.bind_some, sDet3 _ _ _ (plY_B hp) (plY_B hq) (plY_B hr), Option.bind_some, sDet3 _ _ _ (plZ_B hp) (plZ_B hq) (plZ_B hr), Option.bind_some,
      sNsp (det3C (plX_B hp) (plX_B hq) (plX_B hr)) (det3C (plY_B hp) (plY_B hq) (plY_B hr)) (det3C (plZ_B hp) (plZ_B hq) (plZ_B hr)) (det3C hp hq hr) h0 n hn]
    rfl
theorem iMeet {p q r : Pl} (hp : PB p) (hq : PB q) (hr : PB r) : ∀ n, 1000000001 ≤ n → Dimpl_meet3 n p q r = some (mtR (mt p q r)) := by
  intro n hn
  have x1 := det3C (plX_B hp) (plX_B hq) (plX_B hr)
  have x2 := det3C (plY_B hp) (plY_B hq) (plY_B hr)
  have x3 := det3C (plZ_B hp) (plZ_B hq) (plZ_B hr)
  have x4 := det3C hp hq hr
  have e1 := iDet _ _ _ (plX_B hp) (plX_B hq) (plX_B hr)
  have e2 := iDet _ _ _ (plY_B hp) (plY_B hq) (plY_B hr)
  have e3 := iDet _ _ _ (plZ_B hp) (plZ_B hq) (plZ_B hr)
  have u : ∀ {x : Int}, x.natAbs ≤ 1000000000 → B 9223372036854775807 x := fun h => by unfold B; omega
  unfold Dimpl_meet3 mt
  rw [iDet3 p q r hp hq hr, Option.bind_some]
  by_cases h0 : det3 p q r = 0
  · rw [show (det3 p q r == 0) = true by simpa using h0, frk_t, if_pos h0]; rfl
  · rw [show (det3 p q r == 0) = false by simpa using h0, frk_f, if_neg h0, wD hp, wD hq, wD hr]
    unfold plX at e1; unfold plY at e2; unfold plZ at e3
    rw [e1, Option.bind_some, e2, Option.bind_some, e3, Option.bind_some]
    show ((Dimpl_divisor n [det3 (plX p) (plX q) (plX r), det3 (plY p) (plY q) (plY r), det3 (plZ p) (plZ q) (plZ r), det3 p q r]).bind fun v4 => frk (decide (det3 p q r < 0)) (Dimpl_meet3_0 n (det3 p q r) (det3 (plX p) (plX q) (plX r)) (det3 (plY p) (plY q) (plY r)) (det3 (plZ p) (plZ q) (plZ r)) (w64 (0 - v4)) 0 0 0 0) (Dimpl_meet3_0 n (det3 p q r) (det3 (plX p) (plX q) (plX r)) (det3 (plY p) (plY q) (plY r)) (det3 (plZ p) (plZ q) (plZ r)) v4 0 0 0 0)) = _
    generalize det3 (plX p) (plX q) (plX r) = a at *
    generalize det3 (plY p) (plY q) (plY r) = b at *
    generalize det3 (plZ p) (plZ q) (plZ r) = c at *
    generalize det3 p q r = d at *
    have hl := gd4_le x1 x2 x3 x4
    have t0 : nsT a b c d ≠ 0 := nsT_ne h0
    have fin : ∀ t : Int, t = nsT a b c d → Dimpl_meet3_0 n d a b c t 0 0 0 0 = some (nsp a b c d, true) := fun t ht => by
      subst ht
      unfold Dimpl_meet3_0
      rw [qtC t0 x1, Option.bind_some, qtC t0 x2, Option.bind_some, qtC t0 x3, Option.bind_some, qtC t0 x4, Option.bind_some]; rfl
    rw [iDiv4 n a b c d (u x1) (u x2) (u x3) (u x4) (by omega) (by omega) (by omega) (by omega) (by omega), Option.bind_some]
    show frk (decide (d < 0)) (Dimpl_meet3_0 n d a b c (w64 (0 - ((gd4 a b c d : Nat) : Int))) 0 0 0 0) (Dimpl_meet3_0 n d a b c ((gd4 a b c d : Nat) : Int) 0 0 0 0) = _
    by_cases hneg : d < 0
    · rw [decide_eq_true hneg, frk_t, w64_id (by omega) (by omega)]
      exact fin _ (by unfold nsT; rw [if_pos hneg])
    · rw [decide_eq_false hneg, frk_f]
      exact fin _ (by unfold nsT; rw [if_neg hneg])
end Evl.T

/-! Ezv -/
namespace Evl.T
open Go Evl

def mnv (q : Spot) (t : Int) (l : List Pl) : Int := l.foldl (fun t p => minN t [sgn (at4 p q)]) t
theorem mn_sgn (t x : Int) : minN t [x] = if x < t then x else t := rfl
open Classical in
theorem mnv_val (q : Spot) : ∀ (l : List Pl) (t : Int), -1 ≤ t → t ≤ 1 → mnv q t l = if t < 0 ∨ ∃ r ∈ l, at4 r q < 0 then -1 else if t ≤ 0 ∨ ∃ r ∈ l, at4 r q = 0 then 0 else 1 := by
  intro l
  induction l with
  | nil =>
    intro t h1 h2
    show t = _
    by_cases h : t < 0
    · rw [if_pos (.inl h)]; omega
    · rw [if_neg (by simpa using (by omega : (0 : Int) ≤ t))]
      by_cases h' : t ≤ 0
      · rw [if_pos (.inl h')]; omega
      · rw [if_neg (by simpa using (by omega : (0 : Int) < t))]; omega
  | cons p l ih =>
    intro t h1 h2
    show mnv q (minN t [sgn (at4 p q)]) l = _
    have hs : sgn (at4 p q) = if at4 p q > 0 then 1 else if at4 p q < 0 then -1 else 0 := rfl
    have hm := mn_sgn t (sgn (at4 p q))
    generalize hv : minN t [sgn (at4 p q)] = v at *
    rw [ih v (by rw [hm, hs]; split <;> (try split) <;> (try split) <;> omega) (by rw [hm, hs]; split <;> (try split) <;> (try split) <;> omega)]
    have e1 : v < 0 ↔ t < 0 ∨ at4 p q < 0 := by rw [hm, hs]; split <;> (try split) <;> (try split) <;> omega
    have e2 : v ≤ 0 ↔ t ≤ 0 ∨ at4 p q ≤ 0 := by rw [hm, hs]; split <;> (try split) <;> (try split) <;> omega
    by_cases c1 : t < 0 ∨ ∃ r ∈ p :: l, at4 r q < 0
    · rw [if_pos c1, if_pos]
      rcases c1 with c | ⟨r, hr, c⟩
      · exact .inl (e1.2 (.inl c))
      · rcases List.mem_cons.1 hr with rfl | hr
        · exact .inl (e1.2 (.inr c))
        · exact .inr ⟨r, hr, c⟩
    · have c1' : ¬ (v < 0 ∨ ∃ r ∈ l, at4 r q < 0) := by
        rintro (c | ⟨r, hr, c⟩)
        · rcases e1.1 c with c | c
          · exact c1 (.inl c)
          · exact c1 (.inr ⟨p, List.mem_cons_self, c⟩)
        · exact c1 (.inr ⟨r, List.mem_cons_of_mem _ hr, c⟩)
      have hp : ¬ at4 p q < 0 := fun c => c1 (.inr ⟨p, List.mem_cons_self, c⟩)
      rw [if_neg c1, if_neg c1']
      by_cases c2 : t ≤ 0 ∨ ∃ r ∈ p :: l, at4 r q = 0
      · rw [if_pos c2, if_pos]
        rcases c2 with c | ⟨r, hr, c⟩
        · exact .inl (e2.2 (.inl c))
        · rcases List.mem_cons.1 hr with rfl | hr
          · exact .inl (e2.2 (.inr (by omega)))
          · exact .inr ⟨r, hr, c⟩
      · rw [if_neg c2, if_neg]
        rintro (c | ⟨r, hr, c⟩)
        · rcases e2.1 c with c | c
          · exact c2 (.inl c)
          · exact c2 (.inr ⟨p, List.mem_cons_self, by omega⟩)
        · exact c2 (.inr ⟨r, List.mem_cons_of_mem _ hr, c⟩)
theorem icStep (n : Nat) (l : List Pl) (t9 : Int) (x y z w : Int) (rec0 : (Int × Int) → Option Int) (t i : Int) :
    Dimpl_inCell_0 n l t9 x y z w rec0 (t, i) = frk (decide (i < t9)) ((lget l i).bind fun v0 => (Dimpl_sideAt v0 (Spot.mk x y z w)).bind fun v1 => rec0 (minN t [v1], w64 (i + 1))) (some t) := rfl
theorem icLoop (n : Nat) (l : List Pl) (q : Spot) (hl : ∀ p ∈ l, PB p) (hq : SpOk q) (hb : l.length ≤ big) : ∀ (k i m : Nat) (t : Int), i + k = l.length → k < m →
    loopN (Dimpl_inCell_0 n l (l.length : Int) q.X q.Y q.Z q.W) m (t, (i : Int)) = some (mnv q t (l.drop i)) := by
  intro k
  induction k with
  | zero =>
    intro i m t h hm
    obtain ⟨m, rfl⟩ : ∃ j, m = j + 1 := ⟨m - 1, by omega⟩
    rw [loop_suc, icStep, decide_eq_false (by omega), frk_f, List.drop_eq_nil_of_le (by omega)]; rfl
  | succ k ih =>
    intro i m t h hm
    obtain ⟨m, rfl⟩ : ∃ j, m = j + 1 := ⟨m - 1, by omega⟩
    have hi : i < l.length := by omega
    have hs := iSideR (hl l[i] (List.getElem_mem hi)) hq
    have hs' : Dimpl_sideAt l[i] (Spot.mk q.X q.Y q.Z q.W) = _ := hs
    rw [loop_suc, icStep, decide_eq_true (by omega), frk_t, lget_nat, List.getElem?_eq_getElem hi, Option.bind_some, hs', Option.bind_some, w64_suc (by omega), List.drop_eq_getElem_cons hi]
    exact ih (i + 1) m _ (by omega) (by omega)
end Evl.T

/-! Ezs -/
namespace Evl.T
open Go Evl

/-! loops that gather -/
theorem fold_len {β : Type} {op : List β → β → List β} (hop : ∀ a s, (op a s).length ≤ a.length + 1) : ∀ (L a : List β), (L.foldl op a).length ≤ a.length + L.length
  | [], a => Nat.le_refl _
  | s :: L, a => by
    have h1 := fold_len hop L (op a s)
    have h2 := hop a s
    rw [List.foldl_cons, List.length_cons]; omega
theorem fold_Q {β : Type} {op : List β → β → List β} {P : β → Prop} {Q : List β → Prop} (hQ : ∀ a s, Q a → P s → Q (op a s)) : ∀ (L a : List β), Q a → (∀ s ∈ L, P s) → Q (L.foldl op a)
  | [], a, h, _ => h
  | s :: L, a, h, hp => fold_Q hQ L (op a s) (hQ a s h (hp s List.mem_cons_self)) fun x hx => hp x (List.mem_cons_of_mem _ hx)
theorem loopG {β R : Type} {op : List β → β → List β} {P : β → Prop} {Q : List β → Prop} (hop : ∀ a s, (op a s).length ≤ a.length + 1) (hQ : ∀ a s, Q a → P s → Q (op a s))
    {F : ((Int × List β) → Option R) → (Int × List β) → Option R} {len c K : Nat} {g : Nat → List β} {done : List β → Option R} (hg : ∀ i, i < len → (g i).length ≤ c ∧ ∀ s ∈ g i, P s)
    (hs : ∀ rec i a, i < len → Q a → a.length + c ≤ K → F rec ((i : Int), a) = rec (((i + 1 : Nat) : Int), (g i).foldl op a)) (he : ∀ rec a, Q a → F rec ((len : Int), a) = done a) :
    ∀ (k i m : Nat) (a : List β), i + k = len → k < m → Q a → a.length + k * c ≤ K → loopN F m ((i : Int), a) = done (((List.range' i k).flatMap g).foldl op a) := by
  intro k
  induction k with
  | zero =>
    intro i m a hi hm hq _
    obtain ⟨m, rfl⟩ : ∃ j, m = j + 1 := ⟨m - 1, by omega⟩
    obtain rfl : i = len := by omega
    rw [loop_suc, he _ _ hq]; rfl
  | succ k ih =>
    intro i m a hi hm hq hK
    obtain ⟨m, rfl⟩ : ∃ j, m = j + 1 := ⟨m - 1, by omega⟩
    have hl : i < len := by omega
    rw [Nat.succ_mul] at hK
    have h1 := fold_len hop (g i) a
    have h2 := (hg i hl).1
    rw [loop_suc, hs _ i a hl hq (by omega), ih (i + 1) m _ (by omega) (by omega) (fold_Q hQ _ _ hq (hg i hl).2) (by omega), List.range'_succ, List.flatMap_cons, List.foldl_append]
theorem fold_app {β : Type} : ∀ (L a : List β), L.foldl (fun a s => a ++ [s]) a = a ++ L
  | [], a => by simp
  | s :: L, a => by rw [List.foldl_cons, fold_app L]; simp
theorem flat_le {β : Type} {g : Nat → List β} {c : Nat} : ∀ (k i : Nat), (∀ j, i ≤ j → j < i + k → (g j).length ≤ c) → ((List.range' i k).flatMap g).length ≤ k * c
  | 0, i, _ => by simp
  | k + 1, i, h => by
    have h1 := flat_le k (i + 1) fun j a b => h j (by omega) (by omega)
    have h2 := h i (by omega) (by omega)
    rw [List.range'_succ, List.flatMap_cons, List.length_append, Nat.succ_mul]; omega
theorem mem_flat {β : Type} {g : Nat → List β} {i k : Nat} {s : β} : s ∈ (List.range' i k).flatMap g ↔ ∃ j, i ≤ j ∧ j < i + k ∧ s ∈ g j := by
  rw [List.mem_flatMap]
  constructor
  · rintro ⟨j, hj, h⟩
    obtain ⟨h1, h2⟩ := List.mem_range'_1.1 hj
    exact ⟨j, h1, h2, h⟩
  · rintro ⟨j, h1, h2, h⟩
    exact ⟨j, List.mem_range'_1.2 ⟨h1, h2⟩, h⟩
theorem aC32 {n : Nat} (h : n ≤ 1000000) : apB 32 n = true := by
  unfold apB; simp only [Bool.and_eq_true, decide_eq_true_eq]; omega
/-! a spot in a cell -/
theorem sSideR {p : Pl} {q : Spot} (hp : PB p) (hq : SpOk q) : Dspec_l5Side p q = some (sgn (at4 p q)) := by
  unfold Dspec_l5Side; rw [sSign, Option.bind_some, at_w hp hq]
theorem s7Step (n : Nat) (l : List Pl) (x y z w : Int) (rec0 : (Int × Int) → Option Int) (t i : Int) :
    Dspec_l7In_0 n l x y z w rec0 (t, i) = frk (decide (i < (l.length : Int))) ((lget l i).bind fun v0 => (Dspec_l5Side v0 (Spot.mk x y z w)).bind fun v1 => frk (decide (v1 < t)) (rec0 (v1, w64 (i + 1))) (rec0 (t, w64 (i + 1)))) (some t) := rfl
theorem s7Loop (n : Nat) (l : List Pl) (q : Spot) (hl : ∀ p ∈ l, PB p) (hq : SpOk q) (hb : l.length ≤ big) : ∀ (k i m : Nat) (t : Int), i + k = l.length → k < m →
    loopN (Dspec_l7In_0 n l q.X q.Y q.Z q.W) m (t, (i : Int)) = some (mnv q t (l.drop i)) := by
  intro k
  induction k with
  | zero =>
    intro i m t h hm
    obtain ⟨m, rfl⟩ : ∃ j, m = j + 1 := ⟨m - 1, by omega⟩
    rw [loop_suc, s7Step, decide_eq_false (by omega), frk_f, List.drop_eq_nil_of_le (by omega)]; rfl
  | succ k ih =>
    intro i m t h hm
    obtain ⟨m, rfl⟩ : ∃ j, m = j + 1 := ⟨m - 1, by omega⟩
    have hi : i < l.length := by omega
    have hs := sSideR (hl l[i] (List.getElem_mem hi)) hq
    have hs' : Dspec_l5Side l[i] (Spot.mk q.X q.Y q.Z q.W) = _ := hs
    rw [loop_suc, s7Step, decide_eq_true (by omega), frk_t, lget_nat, List.getElem?_eq_getElem hi, Option.bind_some, hs', Option.bind_some, w64_suc (by omega), List.drop_eq_getElem_cons hi]
    have e : mnv q t (l[i] :: l.drop (i + 1)) = mnv q (minN t [sgn (at4 l[i] q)]) (l.drop (i + 1)) := rfl
    rw [e, mn_sgn]
    by_cases hc : sgn (at4 l[i] q) < t
    · rw [decide_eq_true hc, frk_t, if_pos hc]; exact ih (i + 1) m _ (by omega) (by omega)
    · rw [decide_eq_false hc, frk_f, if_neg hc]; exact ih (i + 1) m _ (by omega) (by omega)
theorem s7In {l : List Pl} {q : Spot} (hl : ∀ p ∈ l, PB p) (hq : SpOk q) (hb : l.length ≤ 1000) : ∀ n, 2000 ≤ n → Dspec_l7In n l q = some (mnv q 1 l) := fun n hn =>
  s7Loop n l q hl hq (by unfold big; omega) l.length 0 n 1 (by omega) (by omega)
theorem i7In {l : List Pl} {q : Spot} (hl : ∀ p ∈ l, PB p) (hq : SpOk q) (hb : l.length ≤ 1000) : ∀ n, 2000 ≤ n → Dimpl_inCell n l q = some (mnv q 1 l) := fun n hn =>
  icLoop n l q hl hq (by unfold big; omega) l.length 0 n 1 (by omega) (by omega)
/-! corners -/
/-- A spot that is a cell's. -/
def cc (l : List Pl) (o : Option Spot) : List Spot := match o with
  | some s => if mnv s 1 l ≥ 0 then [s] else []
  | none => []
theorem cc_len (l : List Pl) (o : Option Spot) : (cc l o).length ≤ 1 := by
  unfold cc; split
  · split <;> simp
  · simp
theorem cc_ok {l : List Pl} {p q r : Pl} (hp : PB p) (hq : PB q) (hr : PB r) : ∀ s ∈ cc l (mt p q r), SpOk s := fun s hs => by
  unfold cc at hs
  split at hs
  · rename_i x hx
    split at hs
    · rw [List.mem_singleton.1 hs]; exact mt_ok hp hq hr hx
    · simp at hs
  · simp at hs
/-! the program's -/
def app1 (a : List Spot) (s : Spot) : List Spot := a ++ [s]
theorem app1_len (a : List Spot) (s : Spot) : (app1 a s).length ≤ a.length + 1 := by unfold app1; simp
def gI3 (l : List Pl) (p q : Pl) (k : Nat) : List Spot := cc l (mt p q (gt l k))
def gI2 (l : List Pl) (p : Pl) (j : Nat) : List Spot := (List.range' 0 j).flatMap (gI3 l p (gt l j))
def gI1 (l : List Pl) (i : Nat) : List Spot := (List.range' 0 i).flatMap (gI2 l (gt l i))
def CI (l : List Pl) : List Spot := (List.range' 0 l.length).flatMap (gI1 l)
theorem ic1Step (n : Nat) (rec1 rec0 : (Int × List Spot) → Option (List Spot)) (t14 : Int) (t21 : List Pl) (t22 : Int) (p : Pl) (t0 t12 : List Pl) (t13 t23 : Int) (t30 : List Pl) (t31 : Int) (q : Pl) (rec2 : (Int × List Spot) → Option (List Spot)) (i : Int) (a : List Spot) :
    Dimpl_corners_1 n rec1 rec0 t14 t21 t22 p.A p.B p.C p.D t0 t12 t13 t23 t30 t31 q.A q.B q.C q.D rec2 (i, a) = frk (decide (i < t31)) ((lget t30 i).bind fun v4 => (Dimpl_meet3 n p q v4).bind fun v5 => frk v5.2 ((Dimpl_inCell n t0 v5.1).bind fun v6 => frk (decide (v6 ≥ 0)) (chk (apB 32 (a.length + 1)) (rec2 (w64 (i + 1), (a ++ [v5.1])))) (rec2 (w64 (i + 1), a))) (rec2 (w64 (i + 1), a))) (rec1 (w64 (t23 + 1), a)) := rfl
theorem ic2Step (n : Nat) (rec0 : (Int × List Spot) → Option (List Spot)) (t0 t12 : List Pl) (t13 t14 : Int) (t21 : List Pl) (t22 : Int) (p : Pl) (rec1 : (Int × List Spot) → Option (List Spot)) (i : Int) (a : List Spot) :
    Dimpl_corners_2 n rec0 t0 t12 t13 t14 t21 t22 p.A p.B p.C p.D rec1 (i, a) = frk (decide (i < t22)) ((lget t21 i).bind fun v2 => (lsl t0 0 i).bind fun v3 => loopN (Dimpl_corners_1 n rec1 rec0 t14 t21 t22 p.A p.B p.C p.D t0 t12 t13 i v3 (v3.length : Int) v2.A v2.B v2.C v2.D) n (0, a)) (rec0 (w64 (t14 + 1), a)) := rfl
theorem ic3Step (n : Nat) (t0 t12 : List Pl) (t13 : Int) (rec0 : (Int × List Spot) → Option (List Spot)) (i : Int) (a : List Spot) :
    Dimpl_corners_5 n t0 t12 t13 rec0 (i, a) = frk (decide (i < t13)) ((lget t12 i).bind fun v0 => (lsl t0 0 i).bind fun v1 => loopN (Dimpl_corners_2 n rec0 t0 t12 t13 i v1 (v1.length : Int) v0.A v0.B v0.C v0.D) n (0, a)) (Dimpl_corners_3 n a) := rfl
theorem gt_takeC {l : List Pl} {j k : Nat} (h : k < j) (hj : j ≤ l.length) : (l.take j)[k]? = some (gt l k) := by
  rw [List.getElem?_take_of_lt h]; exact gt_some (by omega)
theorem iCorners1 {l : List Pl} (hl : ∀ p ∈ l, PB p) (hb : l.length ≤ 24) (n : Nat) (hn : 1000000001 ≤ n) (rec1 rec0 : (Int × List Spot) → Option (List Spot)) (t14 : Int) (t21 : List Pl) (t22 : Int) {p q : Pl} (hp : PB p) (hq : PB q) (t12 : List Pl) (t13 : Int) (j : Nat) (hj : j < l.length) (a : List Spot) (ha : a.length + 24 ≤ 100000) :
    loopN (Dimpl_corners_1 n rec1 rec0 t14 t21 t22 p.A p.B p.C p.D l t12 t13 (j : Int) (l.take j) ((l.take j).length : Int) q.A q.B q.C q.D) n (0, a) = rec1 (((j + 1 : Nat) : Int), ((List.range' 0 j).flatMap (gI3 l p q)).foldl app1 a) := by
  have hlen : (l.take j).length = j := by rw [List.length_take]; omega
  refine loopG (op := app1) (P := fun _ => True) (Q := fun _ => True) (c := 1) (K := 100000) (done := fun a => rec1 (((j + 1 : Nat) : Int), a)) app1_len (fun _ _ _ _ => trivial) (len := j) (g := gI3 l p q) (fun i hi => ⟨cc_len _ _, fun _ _ => trivial⟩) (fun rec i a hi _ hK => ?_) (fun rec a _ => ?_) j 0 n a (by omega) (by omega) trivial (by omega)
  · have hr := hl _ (gt_mem (l := l) (i := i) (by omega))
    rw [ic1Step, hlen, decide_eq_true (by omega), frk_t, lget_nat, gt_takeC hi (by omega), Option.bind_some, iMeet hp hq hr n hn, Option.bind_some, w64_suc (by unfold big; omega)]
    unfold gI3 cc
    cases hm : mt p q (gt l i) with
    | none => rfl
    | some s =>
      have hs := mt_ok hp hq hr hm
      show frk true ((Dimpl_inCell n l s).bind _) _ = _
      rw [frk_t, i7In hl hs (by omega) n (by omega), Option.bind_some]
      dsimp only
      by_cases hc : mnv s 1 l ≥ 0
      · rw [decide_eq_true hc, frk_t, chk_eq (aC32 (by omega)), if_pos hc]; rfl
      · rw [decide_eq_false hc, frk_f, if_neg hc]; rfl
  · rw [ic1Step, hlen, decide_eq_false (by omega), frk_f, w64_suc (by unfold big; omega)]
theorem gI2_len {l : List Pl} {p : Pl} {j : Nat} (hj : j < 24) : (gI2 l p j).length ≤ 24 := by
  have := flat_le (g := gI3 l p (gt l j)) (c := 1) j 0 fun _ _ _ => cc_len _ _
  unfold gI2; omega
theorem iCorners2 {l : List Pl} (hl : ∀ p ∈ l, PB p) (hb : l.length ≤ 24) (n : Nat) (hn : 1000000001 ≤ n) (rec0 : (Int × List Spot) → Option (List Spot)) {p : Pl} (hp : PB p) (t12 : List Pl) (t13 : Int) (i : Nat) (hi : i < l.length) (a : List Spot) (ha : a.length + 576 ≤ 100000) :
    loopN (Dimpl_corners_2 n rec0 l t12 t13 (i : Int) (l.take i) ((l.take i).length : Int) p.A p.B p.C p.D) n (0, a) = rec0 (((i + 1 : Nat) : Int), ((List.range' 0 i).flatMap (gI2 l p)).foldl app1 a) := by
  have hlen : (l.take i).length = i := by rw [List.length_take]; omega
  refine loopG (op := app1) (P := fun _ => True) (Q := fun _ => True) (c := 24) (K := 100000) (done := fun a => rec0 (((i + 1 : Nat) : Int), a)) app1_len (fun _ _ _ _ => trivial) (len := i) (g := gI2 l p) (fun j hj => ⟨gI2_len (by omega), fun _ _ => trivial⟩) (fun rec j a hj _ hK => ?_) (fun rec a _ => ?_) i 0 n a (by omega) (by omega) trivial (by omega)
  · have hr := hl _ (gt_mem (l := l) (i := j) (by omega))
    rw [ic2Step, hlen, decide_eq_true (by omega), frk_t, lget_nat, gt_takeC hj (by omega), Option.bind_some, lsl_take l j (by omega), Option.bind_some]
    exact iCorners1 hl hb n hn rec rec0 _ _ _ hp hr _ _ j (by omega) a (by omega)
  · rw [ic2Step, hlen, decide_eq_false (by omega), frk_f, w64_suc (by unfold big; omega)]
theorem gI1_len {l : List Pl} {i : Nat} (hi : i < 24) : (gI1 l i).length ≤ 576 := by
  have := flat_le (g := gI2 l (gt l i)) (c := 24) i 0 fun j _ h => gI2_len (by omega)
  unfold gI1; omega
theorem iCornersL {l : List Pl} (hl : ∀ p ∈ l, PB p) (hb : l.length ≤ 24) (n : Nat) (hn : 1000000001 ≤ n) : Dimpl_corners n l = Dimpl_corners_3 n (CI l) := by
  unfold Dimpl_corners CI
  have := loopG (F := Dimpl_corners_5 n l l (l.length : Int)) (op := app1) (P := fun _ => True) (Q := fun _ => True) (c := 576) (K := 100000) (done := fun a => Dimpl_corners_3 n a) app1_len (fun _ _ _ _ => trivial) (len := l.length) (g := gI1 l) (fun j hj => ⟨gI1_len (by omega), fun _ _ => trivial⟩) (fun rec i a hi _ hK => by
    have hr := hl _ (gt_mem (l := l) (i := i) hi)
    rw [ic3Step, decide_eq_true (by omega), frk_t, lget_nat, gt_some hi, Option.bind_some, lsl_take l i (by omega), Option.bind_some]
    exact iCorners2 hl hb n hn rec hr _ _ i hi a (by omega)) (fun rec a _ => by rw [ic3Step, decide_eq_false (by omega), frk_f]) l.length 0 n [] (by omega) (by omega) trivial (by simp; omega)
  rw [show (0 : Int) = ((0 : Nat) : Int) from rfl, this]
  congr 1
  exact (fold_app _ []).trans (List.nil_append _)
theorem CI_len {l : List Pl} (hb : l.length ≤ 24) : (CI l).length ≤ 13824 := by
  have := flat_le (g := gI1 l) (c := 576) l.length 0 fun j _ h => gI1_len (by omega)
  unfold CI; omega
/-- A corner: of three planes, in the cell. -/
def Cor (l : List Pl) (s : Spot) : Prop := ∃ i j k, i < j ∧ j < k ∧ k < l.length ∧ s ∈ cc l (mt (gt l i) (gt l j) (gt l k))
theorem mem_CI {l : List Pl} {s : Spot} : s ∈ CI l ↔ Cor l s := by
  unfold CI Cor
  rw [mem_flat]
  constructor
  · rintro ⟨i, -, hi, h⟩
    unfold gI1 at h; rw [mem_flat] at h
    obtain ⟨j, -, hj, h⟩ := h
    unfold gI2 at h; rw [mem_flat] at h
    obtain ⟨k, -, hk, h⟩ := h
    unfold gI3 at h
    exact ⟨k, j, i, by omega, by omega, by omega, by rw [mt_rev]; exact h⟩
  · rintro ⟨k, j, i, h1, h2, h3, h⟩
    refine ⟨i, by omega, by omega, ?_⟩
    unfold gI1; rw [mem_flat]
    refine ⟨j, by omega, by omega, ?_⟩
    unfold gI2; rw [mem_flat]
    exact ⟨k, by omega, by omega, by unfold gI3; rw [mt_rev]; exact h⟩
theorem Cor.ok {l : List Pl} (hl : ∀ p ∈ l, PB p) {s : Spot} (h : Cor l s) : SpOk s := by
  obtain ⟨i, j, k, h1, h2, h3, h⟩ := h
  exact cc_ok (hl _ (gt_mem (by omega))) (hl _ (gt_mem (by omega))) (hl _ (gt_mem (by omega))) s h
end Evl.T

/-! Ezw -/
namespace Evl.T
open Go Evl

/-! what is kept once -/
theorem mem_once {α : Type} [Inhabited α] [DecidableEq α] (l : List α) (x : α) : x ∈ once l ↔ x ∈ l := by
  unfold once Go.Lib.compactUpTo
  rw [List.mem_map]
  have hg : ∀ j, (h : j < l.length) → l.toArray[j]! = l[j] := fun j h => by simp [h]
  constructor
  · rintro ⟨j, hj, rfl⟩
    have hl : j < l.length := List.mem_range.1 (List.mem_filter.1 hj).1
    rw [hg j hl]
    exact List.getElem_mem hl
  · intro hx
    obtain ⟨j, hj, e⟩ := List.getElem_of_mem hx
    have key : ∀ j, (h : j < l.length) → l[j] = x → ∃ i, i ∈ (List.range l.length).filter (Go.Lib.keeps l.toArray) ∧ l.toArray[i]! = x := by
      intro j
      induction j with
      | zero => intro h e; exact ⟨0, List.mem_filter.2 ⟨List.mem_range.2 h, by simp [Go.Lib.keeps]⟩, by rw [hg 0 h, e]⟩
      | succ j ih =>
        intro h e
        by_cases hk : l[j] = x
        · exact ih (by omega) hk
        · refine ⟨j + 1, List.mem_filter.2 ⟨List.mem_range.2 h, ?_⟩, by rw [hg _ h, e]⟩
          unfold Go.Lib.keeps
          rw [decide_eq_true_iff]
          refine .inr ?_
          rw [hg _ h, show j + 1 - 1 = j from rfl, hg j (by omega), e]
          exact fun h => hk h.symm
    exact key j hj e
theorem once_nodup {α : Type} [Inhabited α] [DecidableEq α] {le : α → α → Prop} {l : List α} (ha : ∀ a ∈ l, ∀ b ∈ l, le a b → le b a → a = b) (h : l.Pairwise le) : (once l).Nodup := by
  unfold once Go.Lib.compactUpTo
  have hg : ∀ j, (h : j < l.length) → l.toArray[j]! = l[j] := fun j h => by simp [h]
  rw [List.pairwise_iff_getElem] at h
  rw [List.Nodup, List.pairwise_map]
  refine List.Pairwise.imp_of_mem ?_ (List.pairwise_lt_range.filter (Go.Lib.keeps l.toArray))
  intro i j hi hj hlt e
  have hjl : j < l.length := List.mem_range.1 (List.mem_filter.1 hj).1
  have hil : i < l.length := List.mem_range.1 (List.mem_filter.1 hi).1
  have hk := (List.mem_filter.1 hj).2
  unfold Go.Lib.keeps at hk
  rw [decide_eq_true_iff] at hk
  rcases hk with rfl | hk
  · omega
  · rw [hg j hjl, hg (j - 1) (by omega)] at hk
    rw [hg i hil, hg j hjl] at e
    by_cases h1 : i = j - 1
    · subst h1; exact hk e.symm
    · have e1 := h i (j - 1) hil (by omega) (by omega)
      have e2 := h (j - 1) j (by omega) hjl (by omega)
      rw [← e] at e2
      have := ha _ (List.getElem_mem hil) _ (List.getElem_mem (show j - 1 < l.length by omega)) e1 e2
      exact hk (by rw [← e, this])
end Evl.T

/-! Ezt -/
namespace Evl.T
open Go Evl

theorem spG_of {q : Spot} (h : SpOk q) : SpG q := by
  refine ⟨h.w, h.x, h.y, h.z, ?_⟩
  have := h.g
  rw [Nat.gcd_assoc (Nat.gcd q.X.natAbs q.Y.natAbs)] at this
  exact this
theorem ltS_tr {x y z : Spot} (hx : SpOk x) (hy : SpOk y) (hz : SpOk z) (h1 : ltS x y) (h2 : ltS y z) : ltS x z := ltS_trans (x := ⟨x, spG_of hx⟩) (y := ⟨y, spG_of hy⟩) (z := ⟨z, spG_of hz⟩) h1 h2
theorem ltS_irr {x : Spot} (h : ltS x x) : False := by unfold ltS at h; omega
theorem ltS_tot {x y : Spot} (hx : SpOk x) (hy : SpOk y) (h1 : ¬ ltS x y) (h2 : ¬ ltS y x) : x = y := by
  unfold ltS at h1 h2
  exact sp_same (spG_of hx) (spG_of hy) (by omega) (by omega) (by omega)
/-! the program's: sorted, each once -/
theorem srtS {L : List Spot} (hL : ∀ s ∈ L, SpOk s) (hn : L.length ≤ 1000000) : ∃ M, DsrtSpot L = some M ∧ M.length = L.length ∧ (∀ s, s ∈ M ↔ s ∈ L) ∧ M.Pairwise (fun a b => ¬ ltS b a) := by
  have hG : ∀ s ∈ L, SpG s := fun s hs => spG_of (hL s hs)
  have hl : L.length < lim62 := by unfold lim62; omega
  have e : (L.pmap Subtype.mk hG).map (fun x : Spt => x.1) = L := by rw [List.map_pmap]; simp
  refine ⟨_, dif_pos ⟨hG, hl⟩, by rw [List.length_map, List.length_mergeSort, List.length_pmap], fun s => ?_, ?_⟩
  · have hp := (List.mergeSort_perm (L.pmap Subtype.mk hG) fun x y => !(Go.Proofs.ltOf cmpSt) y x).map (fun x : Spt => x.1)
    rw [e] at hp
    exact hp.mem_iff
  · rw [List.pairwise_map]
    refine (List.pairwise_mergeSort (le := fun x y : Spt => !(Go.Proofs.ltOf cmpSt) y x) (fun a b c h1 h2 => ?_) (fun a b => ?_) _).imp fun {a b} h => ?_
    · simp only [Bool.not_eq_true'] at h1 h2 ⊢
      rw [Bool.eq_false_iff, ne_eq, cmpS_lt, not_ltS] at *
      exact geS_trans h2 h1
    · rw [Bool.or_eq_true, Bool.not_eq_true', Bool.not_eq_true']
      rw [Bool.eq_false_iff, Bool.eq_false_iff, ne_eq, ne_eq, cmpS_lt, cmpS_lt]
      unfold ltS; omega
    · simp only [Bool.not_eq_true'] at h
      rw [Bool.eq_false_iff, ne_eq, cmpS_lt] at h
      exact h
theorem iCorners {l : List Pl} (hl : ∀ p ∈ l, PB p) (hb : l.length ≤ 24) : ∃ M, (∀ s, s ∈ M ↔ Cor l s) ∧ M.Nodup ∧ M.length ≤ 13824 ∧ ∀ n, 1000000001 ≤ n → Dimpl_corners n l = some M := by
  have hok : ∀ s ∈ CI l, SpOk s := fun s hs => (mem_CI.1 hs).ok hl
  have hlen := CI_len hb
  obtain ⟨M, e1, e2, e3, e4⟩ := srtS hok (by omega)
  have hM : ∀ s ∈ M, SpOk s := fun s hs => hok s ((e3 s).1 hs)
  refine ⟨once M, fun s => by rw [mem_once, e3, mem_CI], once_nodup (fun a ha b hb h1 h2 => ltS_tot (hM a ha) (hM b hb) h2 h1) e4, by have := once_len M; omega, fun n hn => ?_⟩
  rw [iCornersL hl hb n hn]
  unfold Dimpl_corners_3 Dimpl_corners_4 DcutSpot
  rw [e1, Option.bind_some, if_pos (by unfold lim62; omega)]; rfl
/-! the reference's: put in order -/
instance decLtS (s t : Spot) : Decidable (ltS s t) := by unfold ltS; exact inferInstance
def spt (l : List Spot) (i : Nat) : Spot := (l[i]?).getD ⟨0, 0, 0, 0⟩
theorem spt_some {l : List Spot} {i : Nat} (h : i < l.length) : l[i]? = some (spt l i) := by unfold spt; rw [List.getElem?_eq_getElem h]; rfl
theorem spt_mem {l : List Spot} {i : Nat} (h : i < l.length) : spt l i ∈ l := by unfold spt; rw [List.getElem?_eq_getElem h]; exact List.getElem_mem h
def insK (l : List Spot) (s : Spot) : Nat → List Spot
  | 0 => (l.take 0 ++ [s]) ++ l.drop 0
  | k + 1 => if ltS (spt l k) s then (l.take (k + 1) ++ [s]) ++ l.drop (k + 1) else if spt l k = s then l else insK l s k
def ins (l : List Spot) (s : Spot) : List Spot := insK l s l.length
structure Srt (l : List Spot) : Prop where
  ok : ∀ s ∈ l, SpOk s
  lt : l.Pairwise ltS
theorem ins_at {l : List Spot} {s : Spot} (h : Srt l) (hs : SpOk s) {k : Nat} (hk : k ≤ l.length) (h1 : ∀ i, i < k → ltS (spt l i) s) (h2 : ∀ i, k ≤ i → i < l.length → ltS s (spt l i)) :
    Srt ((l.take k ++ [s]) ++ l.drop k) ∧ (∀ x, x ∈ (l.take k ++ [s]) ++ l.drop k ↔ x ∈ l ∨ x = s) ∧ ((l.take k ++ [s]) ++ l.drop k).length = l.length + 1 := by
  have hm : ∀ x, x ∈ (l.take k ++ [s]) ++ l.drop k ↔ x ∈ l ∨ x = s := fun x => by
    rw [List.mem_append, List.mem_append, List.mem_singleton]
    have : x ∈ l ↔ x ∈ l.take k ∨ x ∈ l.drop k := by rw [← List.mem_append, List.take_append_drop]
    rw [this]; exact ⟨fun h => by rcases h with (h | h) | h; exact .inl (.inl h); exact .inr h; exact .inl (.inr h), fun h => by rcases h with (h | h) | h; exact .inl (.inl h); exact .inr h; exact .inl (.inr h)⟩
  have ht : ∀ x ∈ l.take k, ltS x s := fun x hx => by
    obtain ⟨i, hi, e⟩ := List.getElem_of_mem hx
    rw [List.length_take] at hi
    have := h1 i (by omega)
    rw [List.getElem_take] at e
    rw [show spt l i = x by unfold spt; rw [List.getElem?_eq_getElem (by omega)]; exact e] at this
    exact this
  have hd : ∀ x ∈ l.drop k, ltS s x := fun x hx => by
    obtain ⟨i, hi, e⟩ := List.getElem_of_mem hx
    rw [List.length_drop] at hi
    have := h2 (k + i) (by omega) (by omega)
    rw [List.getElem_drop] at e
    rw [show spt l (k + i) = x by unfold spt; rw [List.getElem?_eq_getElem (by omega)]; exact e] at this
    exact this
  refine ⟨⟨fun x hx => ?_, ?_⟩, hm, by simp only [List.length_append, List.length_take, List.length_drop, List.length_singleton]; omega⟩
  · rcases (hm x).1 hx with hx | rfl
    · exact h.ok x hx
    · exact hs
  · have hp := h.lt
    rw [← List.take_append_drop k l] at hp
    obtain ⟨p1, p2, p3⟩ := List.pairwise_append.1 hp
    rw [List.pairwise_append, List.pairwise_append]
    refine ⟨⟨p1, List.pairwise_singleton _ _, fun a ha b hb => by rw [List.mem_singleton.1 hb]; exact ht a ha⟩, p2, fun a ha b hb => ?_⟩
    rcases List.mem_append.1 ha with ha | ha
    · exact p3 a ha b hb
    · rw [List.mem_singleton.1 ha]; exact hd b hb
theorem insK_ok {l : List Spot} {s : Spot} (h : Srt l) (hs : SpOk s) : ∀ k, k ≤ l.length → (∀ i, k ≤ i → i < l.length → ltS s (spt l i)) → Srt (insK l s k) ∧ (∀ x, x ∈ insK l s k ↔ x ∈ l ∨ x = s) ∧ (insK l s k).length ≤ l.length + 1 := by
  intro k
  induction k with
  | zero =>
    intro hk h2
    obtain ⟨g1, g2, g3⟩ := ins_at h hs hk (fun i hi => by omega) h2
    exact ⟨g1, g2, Nat.le_of_eq g3⟩
  | succ k ih =>
    intro hk h2
    have hp := List.pairwise_iff_getElem.1 h.lt
    have ge : ∀ i, (hi : i < l.length) → spt l i = l[i] := fun i hi => by unfold spt; rw [List.getElem?_eq_getElem hi]; rfl
    unfold insK
    by_cases hc : ltS (spt l k) s
    · rw [if_pos hc]
      obtain ⟨g1, g2, g3⟩ := ins_at h hs hk (fun i hi => by
        by_cases e : i = k
        · subst e; exact hc
        · refine ltS_tr (h.ok _ (spt_mem (by omega))) (h.ok _ (spt_mem (by omega))) hs ?_ hc
          rw [ge i (by omega), ge k (by omega)]
          exact hp i k (by omega) (by omega) (by omega)) h2
      exact ⟨g1, g2, Nat.le_of_eq g3⟩
    · rw [if_neg hc]
      by_cases he : spt l k = s
      · rw [if_pos he]
        refine ⟨h, fun x => ⟨.inl, fun hx => ?_⟩, Nat.le_succ _⟩
        rcases hx with hx | rfl
        · exact hx
        · rw [← he]; exact spt_mem (by omega)
      · rw [if_neg he]
        refine ih (by omega) fun i hi hl => ?_
        by_cases e : i = k
        · subst e
          apply Classical.byContradiction
          intro hn
          exact he (ltS_tot (h.ok _ (spt_mem (by omega))) hs hc hn)
        · exact h2 i (by omega) hl
theorem ins_ok {l : List Spot} {s : Spot} (h : Srt l) (hs : SpOk s) : Srt (ins l s) ∧ (∀ x, x ∈ ins l s ↔ x ∈ l ∨ x = s) ∧ (ins l s).length ≤ l.length + 1 := insK_ok h hs l.length (Nat.le_refl _) fun i h1 h2 => by omega
theorem ins_len (l : List Spot) (s : Spot) : (ins l s).length ≤ l.length + 1 := by
  have : ∀ k, k ≤ l.length → (insK l s k).length ≤ l.length + 1 := by
    intro k
    induction k with
    | zero => intro _; unfold insK; simp
    | succ k ih =>
      intro hk
      unfold insK
      split
      · simp only [List.length_append, List.length_take, List.length_drop, List.length_singleton]; omega
      · split
        · omega
        · exact ih (by omega)
  exact this _ (Nat.le_refl _)
theorem fold_ins : ∀ (L a : List Spot), Srt a → (∀ s ∈ L, SpOk s) → Srt (L.foldl ins a) ∧ ∀ x, x ∈ L.foldl ins a ↔ x ∈ a ∨ x ∈ L
  | [], a, h, _ => ⟨h, fun x => by simp⟩
  | s :: L, a, h, hL => by
    obtain ⟨g1, g2, -⟩ := ins_ok h (hL s List.mem_cons_self)
    obtain ⟨k1, k2⟩ := fold_ins L (ins a s) g1 fun x hx => hL x (List.mem_cons_of_mem _ hx)
    rw [List.foldl_cons]
    refine ⟨k1, fun x => ?_⟩
    rw [k2, g2, List.mem_cons]
    exact ⟨fun h => by rcases h with (h | h) | h; exact .inl h; exact .inr (.inl h); exact .inr (.inr h), fun h => by rcases h with h | h | h; exact .inl (.inl h); exact .inl (.inr h); exact .inr h⟩
theorem Srt.nodup {l : List Spot} (h : Srt l) : l.Nodup := h.lt.imp fun {a b} hab e => by subst e; exact ltS_irr hab
theorem sIn' {x a b : Int} (h : a ≤ x ∧ x ≤ b) : Dspec_l1In x a b = some true := by
  unfold Dspec_l1In
  rw [decide_eq_true (by omega), frk_t, decide_eq_true (by omega)]
theorem sSpOk {n : Nat} {q : Spot} (h : SpOk q) (hn : 1000000001 ≤ n) : Dspec_SpotOk n q = some true := by
  obtain ⟨hw, hx, hy, hz, hg⟩ := h
  have u : ∀ {x : Int}, x.natAbs ≤ 1000000000 → B 9223372036854775807 x := fun h => by unfold B; omega
  have hxy := gcd_bdC hx hy
  have hzw := gcd_bdC hz (show q.W.natAbs ≤ 1000000000 by omega)
  have g3 := sGcd n ((Nat.gcd q.X.natAbs q.Y.natAbs : Nat) : Int) ((Nat.gcd q.Z.natAbs q.W.natAbs : Nat) : Int) (by unfold B; omega) (by unfold B; omega) (by omega)
  simp only [Int.natAbs_natCast] at g3
  rw [← Nat.gcd_assoc, hg] at g3
  unfold Dspec_SpotOk
  rw [sIn' hw, Option.bind_some, frk_t, sIn' (by omega), Option.bind_some, frk_t, sIn' (by omega), Option.bind_some, frk_t, sIn' (by omega), Option.bind_some, frk_t, sGcd n _ _ (u hx) (u hy) (by omega), Option.bind_some, sGcd n _ _ (u hz) (u (by omega)) (by omega), Option.bind_some, g3]
  rfl
theorem sCmp {n : Nat} {a b : Spot} (ha : SpOk a) (hb : SpOk b) (hn : 1000000001 ≤ n) : ∃ v, Dspec_CmpSpot n a b = some v ∧ (v ≥ 0 ↔ ¬ ltS a b) := by
  have r1 : Dspec_l5Right n a = some a := by unfold Dspec_l5Right; rw [sSpOk ha hn]; rfl
  have r2 : Dspec_l5Right n b = some b := by unfold Dspec_l5Right; rw [sSpOk hb hn]; rfl
  have wa : a.W.natAbs ≤ 1000000000 := by have := ha.w; omega
  have wb : b.W.natAbs ≤ 1000000000 := by have := hb.w; omega
  have ci : ∀ x y : Int, Dspec_l3CmpInt x y = some (cmpI x y) := fun x y => by
    unfold Dspec_l3CmpInt cmpI
    by_cases h1 : x < y
    · rw [decide_eq_true h1, frk_t, if_pos h1]
    · rw [decide_eq_false h1, frk_f, if_neg h1]
      by_cases h2 : x > y
      · rw [decide_eq_true h2, frk_t, if_pos h2]
      · rw [decide_eq_false h2, frk_f, if_neg h2]
  unfold Dspec_CmpSpot ltS
  rw [r1, r2, Option.bind_some, Option.bind_some, w64m ha.x wb, w64m hb.x wa, w64m ha.y wb, w64m hb.y wa, w64m ha.z wb, w64m hb.z wa, ci, ci, ci]
  have cl := cmpI_lt
  by_cases h1 : a.X * b.W = b.X * a.W
  · rw [show (a.X * b.W != b.X * a.W) = false by simpa using h1, frk_f]
    by_cases h2 : a.Y * b.W = b.Y * a.W
    · rw [show (a.Y * b.W != b.Y * a.W) = false by simpa using h2, frk_f]
      by_cases h3 : a.Z * b.W = b.Z * a.W
      · rw [show (a.Z * b.W != b.Z * a.W) = false by simpa using h3, frk_f]
        exact ⟨0, rfl, by omega⟩
      · rw [show (a.Z * b.W != b.Z * a.W) = true by simpa using h3, frk_t]
        exact ⟨_, rfl, by have := cl (a.Z * b.W) (b.Z * a.W); omega⟩
    · rw [show (a.Y * b.W != b.Y * a.W) = true by simpa using h2, frk_t]
      exact ⟨_, rfl, by have := cl (a.Y * b.W) (b.Y * a.W); omega⟩
  · rw [show (a.X * b.W != b.X * a.W) = true by simpa using h1, frk_t]
    exact ⟨_, rfl, by have := cl (a.X * b.W) (b.X * a.W); omega⟩
theorem lsl_drop {α : Type} (l : List α) (k : Nat) (h : k ≤ l.length) : lsl l (k : Int) (l.length : Int) = some (l.drop k) := by
  unfold lsl
  rw [if_pos ⟨by omega, by omega, by omega⟩]
  congr 1
  rw [Int.toNat_natCast, Int.toNat_natCast, List.take_of_length_le (by rw [List.length_drop]; omega)]
theorem sPutStep (n : Nat) (s : Spot) (rec0 : (Int × List Spot) → Option (List Spot)) (k : Int) (l : List Spot) :
    Dspec_l7Puto0_2 n s.X s.Y s.Z s.W rec0 (k, l) = frk (decide (k > 0)) ((lget l (w64 (k - 1))).bind fun v0 => (Dspec_CmpSpot n v0 s).bind fun v1 => frk (decide (v1 ≥ 0)) ((lget l (w64 (k - 1))).bind fun v2 => frk (v2.X == s.X && (v2.Y == s.Y && (v2.Z == s.Z && (v2.W == s.W && true)))) (some l) (rec0 (w64 (k - 1), l))) (Dspec_l7Puto0_1 n k s.X s.Y s.Z s.W l)) (Dspec_l7Puto0_1 n k s.X s.Y s.Z s.W l) := rfl
theorem sPut1 (n : Nat) (s : Spot) (l : List Spot) (hl : l.length ≤ 100000) (k : Nat) (hk : k ≤ l.length) : Dspec_l7Puto0_1 n (k : Int) s.X s.Y s.Z s.W l = some ((l.take k ++ [s]) ++ l.drop k) := by
  unfold Dspec_l7Puto0_1
  rw [lsl_take l k hk, Option.bind_some, chk_eq (aC32 (by rw [List.length_take]; omega)), chk_eq (aC32 (by rw [List.nil_append, List.length_take]; omega)), lsl_drop l k hk, Option.bind_some, chk_eq (aC32 (by simp only [List.nil_append, List.length_append, List.length_take, List.length_drop, List.length_singleton]; omega)), List.nil_append]
theorem sp_eq (a s : Spot) : (a.X == s.X && (a.Y == s.Y && (a.Z == s.Z && (a.W == s.W && true)))) = decide (a = s) := by
  cases a; cases s
  rw [Bool.eq_iff_iff, decide_eq_true_iff]
  simp
theorem sPutL {n : Nat} (hn : 1000000001 ≤ n) {l : List Spot} (h : Srt l) {s : Spot} (hs : SpOk s) (hl : l.length ≤ 100000) : ∀ (k m : Nat), k ≤ l.length → k < m → loopN (Dspec_l7Puto0_2 n s.X s.Y s.Z s.W) m ((k : Int), l) = some (insK l s k) := by
  intro k
  induction k with
  | zero =>
    intro m hk hm
    obtain ⟨m, rfl⟩ : ∃ j, m = j + 1 := ⟨m - 1, by omega⟩
    rw [loop_suc, sPutStep, decide_eq_false (by omega), frk_f, sPut1 n s l hl 0 (by omega)]; rfl
  | succ k ih =>
    intro m hk hm
    obtain ⟨m, rfl⟩ : ∃ j, m = j + 1 := ⟨m - 1, by omega⟩
    have hw : w64 (((k + 1 : Nat) : Int) - 1) = (k : Int) := by rw [w64_id (by omega) (by omega)]; omega
    obtain ⟨v, e1, e2⟩ := sCmp (h.ok _ (spt_mem (l := l) (i := k) (by omega))) hs hn
    rw [loop_suc, sPutStep, decide_eq_true (by omega), frk_t, hw, lget_nat, spt_some (by omega), Option.bind_some, e1, Option.bind_some, Option.bind_some, sp_eq, sPut1 n s l hl (k + 1) hk, ih m (by omega) (by omega), show insK l s (k + 1) = (if ltS (spt l k) s then (l.take (k + 1) ++ [s]) ++ l.drop (k + 1) else if spt l k = s then l else insK l s k) from rfl]
    by_cases hc : ltS (spt l k) s
    · rw [if_pos hc, decide_eq_false (by rw [e2]; exact fun h => h hc), frk_f]
    · rw [if_neg hc, decide_eq_true (by rw [e2]; exact hc), frk_t]
      by_cases he : spt l k = s
      · rw [if_pos he, decide_eq_true he, frk_t]
      · rw [if_neg he, decide_eq_false he, frk_f]
theorem sPut {n : Nat} (hn : 1000000001 ≤ n) {l : List Spot} (h : Srt l) {s : Spot} (hs : SpOk s) (hl : l.length ≤ 100000) : Dspec_l7Puto0 n l s = some (ins l s) := sPutL hn h hs hl l.length n (Nat.le_refl _) (by omega)
def gS3 (l : List Pl) (p q : Pl) (k : Nat) : List Spot := cc l (mt p q (gt l k))
def gS2 (l : List Pl) (p : Pl) (j : Nat) : List Spot := (List.range' (j + 1) (l.length - (j + 1))).flatMap (gS3 l p (gt l j))
def gS1 (l : List Pl) (i : Nat) : List Spot := (List.range' (i + 1) (l.length - (i + 1))).flatMap (gS2 l (gt l i))
def CS (l : List Pl) : List Spot := (List.range' 0 l.length).flatMap (gS1 l)
theorem sc1Step (n : Nat) (rec1 rec0 : (Int × List Spot) → Option (List Spot)) (t5 : Int) (l : List Pl) (t4 t6 : Int) (rec2 : (Int × List Spot) → Option (List Spot)) (i : Int) (a : List Spot) :
    Dspec_l7Corners_1 n rec1 rec0 t5 l t4 t6 rec2 (i, a) = frk (decide (i < t4)) ((lget l t5).bind fun v0 => (lget l t6).bind fun v1 => (lget l i).bind fun v2 => (Dspec_l5Meet n v0 v1 v2).bind fun v3 => frk v3.2 ((Dspec_l7In n l v3.1).bind fun v4 => frk (decide (v4 ≥ 0)) ((Dspec_l7Puto0 n a v3.1).bind fun v5 => rec2 (w64 (i + 1), v5)) (rec2 (w64 (i + 1), a))) (rec2 (w64 (i + 1), a))) (rec1 (w64 (t6 + 1), a)) := rfl
theorem sc2Step (n : Nat) (rec0 : (Int × List Spot) → Option (List Spot)) (l : List Pl) (t4 t5 : Int) (rec1 : (Int × List Spot) → Option (List Spot)) (i : Int) (a : List Spot) :
    Dspec_l7Corners_2 n rec0 l t4 t5 rec1 (i, a) = frk (decide (i < t4)) (loopN (Dspec_l7Corners_1 n rec1 rec0 t5 l t4 i) n (w64 (i + 1), a)) (rec0 (w64 (t5 + 1), a)) := rfl
theorem sc3Step (n : Nat) (l : List Pl) (t4 : Int) (rec0 : (Int × List Spot) → Option (List Spot)) (i : Int) (a : List Spot) :
    Dspec_l7Corners_3 n l t4 rec0 (i, a) = frk (decide (i < t4)) (loopN (Dspec_l7Corners_2 n rec0 l t4 i) n (w64 (i + 1), a)) (some a) := rfl
theorem ins_Q (a : List Spot) (s : Spot) (h : Srt a) (hs : SpOk s) : Srt (ins a s) := (ins_ok h hs).1
theorem sCorners1 {l : List Pl} (hl : ∀ p ∈ l, PB p) (hb : l.length ≤ 24) (n : Nat) (hn : 1000000001 ≤ n) (rec1 rec0 : (Int × List Spot) → Option (List Spot)) (i j : Nat) (hi : i < l.length) (hj : j < l.length) (a : List Spot) (hq : Srt a) (ha : a.length + 24 ≤ 50000) :
    loopN (Dspec_l7Corners_1 n rec1 rec0 (i : Int) l (l.length : Int) (j : Int)) n (((j + 1 : Nat) : Int), a) = rec1 (((j + 1 : Nat) : Int), (gS2 l (gt l i) j).foldl ins a) := by
  have hp := hl _ (gt_mem hi)
  have hq' := hl _ (gt_mem hj)
  refine loopG (op := ins) (P := SpOk) (Q := Srt) (c := 1) (K := 50000) (done := fun a => rec1 (((j + 1 : Nat) : Int), a)) ins_len ins_Q (len := l.length) (g := gS3 l (gt l i) (gt l j)) (fun k hk => ⟨cc_len _ _, cc_ok hp hq' (hl _ (gt_mem hk))⟩) (fun rec k a hk hQ hK => ?_) (fun rec a _ => ?_) (l.length - (j + 1)) (j + 1) n a (by omega) (by omega) hq (by omega)
  · have hr := hl _ (gt_mem hk)
    rw [sc1Step, decide_eq_true (by omega), frk_t, lget_nat, gt_some hi, Option.bind_some, lget_nat, gt_some hj, Option.bind_some, lget_nat, gt_some hk, Option.bind_some, sMeet hp hq' hr n hn, Option.bind_some, w64_suc (by unfold big; omega)]
    unfold gS3 cc
    cases hm : mt (gt l i) (gt l j) (gt l k) with
    | none => rfl
    | some s =>
      have hs := mt_ok hp hq' hr hm
      show frk true ((Dspec_l7In n l s).bind _) _ = _
      rw [frk_t, s7In hl hs (by omega) n (by omega), Option.bind_some]
      dsimp only
      by_cases hc : mnv s 1 l ≥ 0
      · rw [decide_eq_true hc, frk_t, if_pos hc]
        show ((Dspec_l7Puto0 n a s).bind _) = _
        rw [sPut hn hQ hs (by omega)]; rfl
      · rw [decide_eq_false hc, frk_f, if_neg hc]; rfl
  · rw [sc1Step, decide_eq_false (by omega), frk_f, w64_suc (by unfold big; omega)]
theorem gS2_len {l : List Pl} (hb : l.length ≤ 24) {p : Pl} {j : Nat} : (gS2 l p j).length ≤ 24 := by
  have := flat_le (g := gS3 l p (gt l j)) (c := 1) (l.length - (j + 1)) (j + 1) fun _ _ _ => cc_len _ _
  unfold gS2; omega
theorem gS2_ok {l : List Pl} (hl : ∀ p ∈ l, PB p) {p : Pl} (hp : PB p) {j : Nat} (hj : j < l.length) : ∀ s ∈ gS2 l p j, SpOk s := fun s hs => by
  unfold gS2 at hs; rw [mem_flat] at hs
  obtain ⟨k, h1, h2, h⟩ := hs
  exact cc_ok hp (hl _ (gt_mem hj)) (hl _ (gt_mem (show k < l.length by omega))) s h
theorem sCorners2 {l : List Pl} (hl : ∀ p ∈ l, PB p) (hb : l.length ≤ 24) (n : Nat) (hn : 1000000001 ≤ n) (rec0 : (Int × List Spot) → Option (List Spot)) (i : Nat) (hi : i < l.length) (a : List Spot) (hq : Srt a) (ha : a.length + 576 ≤ 50000) :
    loopN (Dspec_l7Corners_2 n rec0 l (l.length : Int) (i : Int)) n (((i + 1 : Nat) : Int), a) = rec0 (((i + 1 : Nat) : Int), (gS1 l i).foldl ins a) := by
  have hp := hl _ (gt_mem hi)
  have hmul : (l.length - (i + 1)) * 24 ≤ 576 := by omega
  refine loopG (op := ins) (P := SpOk) (Q := Srt) (c := 24) (K := 50000) (done := fun a => rec0 (((i + 1 : Nat) : Int), a)) ins_len ins_Q (len := l.length) (g := gS2 l (gt l i)) (fun k hk => ⟨gS2_len hb, gS2_ok hl hp hk⟩) (fun rec k a hk hQ hK => ?_) (fun rec a _ => ?_) (l.length - (i + 1)) (i + 1) n a (by omega) (by omega) hq (by omega)
  · rw [sc2Step, decide_eq_true (by omega), frk_t, w64_suc (by unfold big; omega)]
    exact sCorners1 hl hb n hn rec rec0 i k hi hk a hQ hK
  · rw [sc2Step, decide_eq_false (by omega), frk_f, w64_suc (by unfold big; omega)]
theorem gS1_len {l : List Pl} (hb : l.length ≤ 24) {i : Nat} : (gS1 l i).length ≤ 576 := by
  have := flat_le (g := gS2 l (gt l i)) (c := 24) (l.length - (i + 1)) (i + 1) fun j _ _ => gS2_len hb
  unfold gS1; omega
theorem gS1_ok {l : List Pl} (hl : ∀ p ∈ l, PB p) {i : Nat} (hi : i < l.length) : ∀ s ∈ gS1 l i, SpOk s := fun s hs => by
  unfold gS1 at hs; rw [mem_flat] at hs
  obtain ⟨k, h1, h2, h⟩ := hs
  exact gS2_ok hl (hl _ (gt_mem hi)) (by omega) s h
theorem sCornersL {l : List Pl} (hl : ∀ p ∈ l, PB p) (hb : l.length ≤ 24) (n : Nat) (hn : 1000000001 ≤ n) : Dspec_l7Corners n l = some ((CS l).foldl ins []) := by
  unfold Dspec_l7Corners CS
  rw [show (0 : Int) = ((0 : Nat) : Int) from rfl]
  refine loopG (op := ins) (P := SpOk) (Q := Srt) (c := 576) (K := 50000) (done := fun a => some a) ins_len ins_Q (len := l.length) (g := gS1 l) (fun k hk => ⟨gS1_len hb, gS1_ok hl hk⟩) (fun rec i a hi hQ hK => ?_) (fun rec a _ => ?_) l.length 0 n [] (by omega) (by omega) ⟨by simp, List.Pairwise.nil⟩ (by simp; omega)
  · rw [sc3Step, decide_eq_true (by omega), frk_t, w64_suc (by unfold big; omega)]
    exact sCorners2 hl hb n hn rec i hi a hQ hK
  · rw [sc3Step, decide_eq_false (by omega), frk_f]
theorem mem_CS {l : List Pl} {s : Spot} : s ∈ CS l ↔ Cor l s := by
  unfold CS Cor
  rw [mem_flat]
  constructor
  · rintro ⟨i, -, hi, h⟩
    unfold gS1 at h; rw [mem_flat] at h
    obtain ⟨j, hj1, hj, h⟩ := h
    unfold gS2 at h; rw [mem_flat] at h
    obtain ⟨k, hk1, hk, h⟩ := h
    exact ⟨i, j, k, by omega, by omega, by omega, h⟩
  · rintro ⟨i, j, k, h1, h2, h3, h⟩
    refine ⟨i, by omega, by omega, ?_⟩
    unfold gS1; rw [mem_flat]
    refine ⟨j, by omega, by omega, ?_⟩
    unfold gS2; rw [mem_flat]
    exact ⟨k, by omega, by omega, h⟩
theorem sCorners {l : List Pl} (hl : ∀ p ∈ l, PB p) (hb : l.length ≤ 24) : ∃ M, (∀ s, s ∈ M ↔ Cor l s) ∧ M.Nodup ∧ M.length ≤ 13824 ∧ ∀ n, 1000000001 ≤ n → Dspec_l7Corners n l = some M := by
  have hok : ∀ s ∈ CS l, SpOk s := fun s hs => (mem_CS.1 hs).ok hl
  obtain ⟨h1, h2⟩ := fold_ins (CS l) [] ⟨by simp, List.Pairwise.nil⟩ hok
  refine ⟨_, fun s => by rw [h2, ← mem_CS]; simp, h1.nodup, ?_, fun n hn => sCornersL hl hb n hn⟩
  have a1 := fold_len (op := ins) ins_len (CS l) []
  have a2 := flat_le (g := gS1 l) (c := 576) l.length 0 fun j _ h => gS1_len hb
  unfold CS at a1 ⊢
  simp only [List.length_nil] at a1
  omega
end Evl.T

/-! Ezx -/
namespace Evl.T
open Go Evl

theorem any_gt (l : List Pl) (f : Pl → Bool) : ((List.range' 0 l.length).any fun i => f (gt l i)) = l.any f := by
  rw [Bool.eq_iff_iff, List.any_eq_true, List.any_eq_true]
  constructor
  · rintro ⟨i, hi, h⟩
    have : i < l.length := by simpa using hi
    exact ⟨_, gt_mem this, h⟩
  · rintro ⟨x, hx, h⟩
    obtain ⟨i, hi, e⟩ := List.getElem_of_mem hx
    refine ⟨i, by simpa using hi, ?_⟩
    have := gt_some hi
    rw [List.getElem?_eq_getElem hi] at this
    rw [← Option.some.inj this, e]; exact h
theorem all_any (l : List Pl) (f : Pl → Bool) : l.all f = !l.any fun x => !f x := by
  induction l with
  | nil => rfl
  | cons x l ih => simp only [List.all_cons, List.any_cons, ih, Bool.not_or, Bool.not_not]
theorem all_mem {l : List Pl} (h : l.all pOk = true) : ∀ q ∈ l, pOk q = true := List.all_eq_true.1 h
theorem sRightL (l : List Pl) (hb : l.length ≤ big) : Ev fun n => Dspec_l6Right n l = some (l.all pOk && decide ((l.length : Int) ≤ 24)) := by
  refine (e_ge (l.length + 502)).mono fun n hn => ?_
  have h := search (F := Dspec_l6Right_0 n l) (len := l.length) (b := fun i => !pOk (gt l i)) (hit := some false) (miss := some (decide ((l.length : Int) ≤ 24))) hb ?_ ?_ l.length 0 n (by omega) (by omega)
  · show loopN _ _ _ = _
    rw [show (0 : Int) = ((0 : Nat) : Int) from rfl, h, any_gt l fun x => !pOk x, all_any]
    cases l.any fun x => !pOk x <;> rfl
  · intro rec i hi
    unfold Dspec_l6Right_0
    simp only [lt_dec hi, frk_t, lget_nat, gt_some hi, Option.bind_some, sPlaneOk n _ (by omega)]
    cases pOk (gt l i) <;> rfl
  · intro rec
    unfold Dspec_l6Right_0
    simp only [lt_self, frk_f]
theorem iPlanesOk (l : List Pl) (hb : l.length ≤ big) : Ev fun n => Dimpl_planesOk n l = some (l.all pOk) := by
  refine (e_ge (l.length + 502)).mono fun n hn => ?_
  have h := search (F := Dimpl_planesOk_0 n l (l.length : Int)) (len := l.length) (b := fun i => !pOk (gt l i)) (hit := some false) (miss := some true) hb ?_ ?_ l.length 0 n (by omega) (by omega)
  · show loopN _ _ _ = _
    rw [show (0 : Int) = ((0 : Nat) : Int) from rfl, h, any_gt l fun x => !pOk x, all_any]
    cases l.any fun x => !pOk x <;> rfl
  · intro rec i hi
    unfold Dimpl_planesOk_0
    simp only [lt_dec hi, frk_t, lget_nat, gt_some hi, Option.bind_some, iPlaneOk n _ (by omega)]
    cases pOk (gt l i) <;> rfl
  · intro rec
    unfold Dimpl_planesOk_0
    simp only [lt_self, frk_f]
def opB (l : List Pl) : Bool := !(List.range' 0 l.length).any fun i => wth (l.take i) (gt l i)
theorem sOpenL (l : List Pl) (hl : ∀ q ∈ l, PB q) (hb : l.length ≤ big) : Ev fun n => Dspec_l6Open n l = some (opB l) := by
  refine (e_ge (l.length + 502)).mono fun n hn => ?_
  have e : opB l = !(List.range' 1 (l.length - 1)).any fun i => wth (l.take i) (gt l i) := by
    unfold opB
    cases l with
    | nil => rfl
    | cons x l => simp only [List.length_cons, List.range'_succ, List.any_cons, Nat.add_sub_cancel]; rfl
  have hF : ∀ rec (i : Nat), i < l.length → Dspec_l6Open_0 n l rec (i : Int) = cond (wth (l.take i) (gt l i)) (some false) (rec (w64 ((i : Int) + 1))) := by
    intro rec i hi
    unfold Dspec_l6Open_0
    simp only [lt_dec hi, frk_t, lget_nat, gt_some hi, Option.bind_some, lsl_take l i (by omega)]
    rw [sWith (l.take i) (gt l i) (fun q hq => hl q (List.mem_of_mem_take hq)) (hl _ (gt_mem hi)) (by rw [List.length_take]; omega) n (by rw [List.length_take]; omega), Option.bind_some, frk_cond]
  have hE : ∀ rec, Dspec_l6Open_0 n l rec (l.length : Int) = some true := by
    intro rec
    unfold Dspec_l6Open_0
    simp only [lt_self, frk_f]
  show loopN _ _ _ = _
  cases hc : l with
  | nil =>
    obtain ⟨m, rfl⟩ : ∃ m, n = m + 1 := ⟨n - 1, by omega⟩
    rw [loop_suc]; rfl
  | cons x r =>
    rw [← hc]
    have hlen : l.length = r.length + 1 := by rw [hc]; rfl
    have h := search (F := Dspec_l6Open_0 n l) (len := l.length) (b := fun i => wth (l.take i) (gt l i)) (hit := some false) (miss := some true) hb hF hE (l.length - 1) 1 n (by omega) (by omega)
    rw [show (1 : Int) = ((1 : Nat) : Int) from rfl, h, e]
    cases (List.range' 1 (l.length - 1)).any fun i => wth (l.take i) (gt l i) <;> rfl
theorem iOpenL (l : List Pl) (hl : ∀ q ∈ l, PB q) (hb : l.length ≤ big) : Ev fun n => Dimpl_open n l = some (opB l) := by
  refine (e_ge (l.length + 502)).mono fun n hn => ?_
  have h := search (F := Dimpl_open_0 n l l (l.length : Int)) (len := l.length) (b := fun i => wth (l.take i) (gt l i)) (hit := some false) (miss := some true) hb ?_ ?_ l.length 0 n (by omega) (by omega)
  · show loopN _ _ _ = _
    rw [show (0 : Int) = ((0 : Nat) : Int) from rfl, h]
    unfold opB
    cases (List.range' 0 l.length).any fun i => wth (l.take i) (gt l i) <;> rfl
  · intro rec i hi
    unfold Dimpl_open_0
    simp only [lt_dec hi, frk_t, lget_nat, gt_some hi, Option.bind_some, lsl_take l i (by omega)]
    rw [iRoom (l.take i) (gt l i) (fun q hq => hl q (List.mem_of_mem_take hq)) (hl _ (gt_mem hi)) (by rw [List.length_take]; omega) n (by rw [List.length_take]; omega), Option.bind_some, Bool.not_not, frk_cond]
  · intro rec
    unfold Dimpl_open_0
    simp only [lt_self, frk_f]
end Evl.T

/-! Ezy -/
namespace Evl.T
open Go Evl

/-! lists of planes as arguments -/
theorem toPlC (p : Pl) : Dlaws_toPlane p = some p := by unfold Dlaws_toPlane; rfl
theorem eqPlC (p : Pl) : Dlaws_eqPlane p p = some true := by
  unfold Dlaws_eqPlane
  simp only [beq_self_eq_true, bne_self_eq_false, frk_t, frk_f, Bool.and_self]
theorem toPloopC (n : Nat) (l : List Pl) (hl : l.length ≤ 1048576) :
    ∀ (d k m : Nat), k + d = l.length → d < m → loopN (Dlaws_toPlaneS_0 n l) m ((k : Int), l.take k ++ List.replicate d ⟨0, 0, 0, 0⟩) = some l := by
  intro d
  induction d with
  | zero =>
    intro k m hk hm
    obtain ⟨m, rfl⟩ : ∃ j, m = j + 1 := ⟨m - 1, by omega⟩
    obtain rfl : k = l.length := by omega
    rw [loop_suc]
    unfold Dlaws_toPlaneS_0
    simp only [lt_self, frk_f]; simp
  | succ d ih =>
    intro k m hk hm
    obtain ⟨m, rfl⟩ : ∃ j, m = j + 1 := ⟨m - 1, by omega⟩
    have hkl : k < l.length := by omega
    have ht : (l.take k).length = k := by rw [List.length_take]; omega
    have hz : (l.take k ++ List.replicate (d + 1) (⟨0, 0, 0, 0⟩ : Pl))[k]? = some ⟨0, 0, 0, 0⟩ := by
      rw [List.getElem?_append_right (by omega), ht]; simp [List.replicate_succ]
    rw [loop_suc]
    show frk _ ((lget l (k : Int)).bind _) _ = _
    rw [lt_dec hkl, frk_t, lget_nat, List.getElem?_eq_getElem hkl, Option.bind_some, toPlC, Option.bind_some, lget_nat, hz, Option.bind_some, w64_suc (by unfold big; omega)]
    have e : (l.take k ++ List.replicate (d + 1) (⟨0, 0, 0, 0⟩ : Pl)).set (Int.toNat (k : Int)) l[k] = l.take (k + 1) ++ List.replicate d ⟨0, 0, 0, 0⟩ := by
      rw [Int.toNat_natCast, List.set_append_right _ _ (by omega), ht]
      simp only [Nat.sub_self, List.replicate_succ, List.set_cons_zero]
      rw [List.take_add_one, List.getElem?_eq_getElem hkl, Option.toList_some, List.append_assoc]; rfl
    rw [e]
    exact ih (k + 1) m (by omega) (by omega)
theorem toPC (l : List Pl) (h : l.length ≤ 1048576) : Ev fun n => Dlaws_toPlaneS n l = some l := by
  refine ⟨l.length + 1, fun n hn => ?_⟩
  have := toPloopC n l h l.length 0 n (by omega) (by omega)
  have hm : mkB (l.length : Int) 32 = true := by simp only [mkB, Bool.and_eq_true, decide_eq_true_eq]; omega
  show Dlaws_toPlaneS n l = some l
  unfold Dlaws_toPlaneS
  rw [chk_eq hm, Int.toNat_natCast]
  simpa using this
theorem eqPC (l : List Pl) (h : l.length ≤ 1048576) : Ev fun n => Dlaws_eqPlaneS n l l = some true := by
  refine ⟨l.length + 1, fun n hn => ?_⟩
  have := search (F := Dlaws_eqPlaneS_0 n l l) (len := l.length) (b := fun _ => false) (hit := some false) (miss := some true) (by unfold big; omega) ?_ ?_ l.length 0 n (by omega) (by omega)
  · show Dlaws_eqPlaneS n l l = some true
    unfold Dlaws_eqPlaneS
    rw [bne_self_eq_false, frk_f, show (0 : Int) = ((0 : Nat) : Int) from rfl, this]
    have : (List.range' 0 l.length).any (fun _ => false) = false := by simp
    rw [this]; rfl
  · intro rec j hj
    unfold Dlaws_eqPlaneS_0
    simp only [lt_dec hj, frk_t, lget_nat, gt_some hj, Option.bind_some, eqPlC, Bool.not_true, frk_f]; rfl
  · intro rec
    unfold Dlaws_eqPlaneS_0
    simp only [lt_self, frk_f]
/-! the needed planes -/
theorem pl_eqD (a p : Pl) : (a.A == p.A && (a.B == p.B && (a.C == p.C && (a.D == p.D && true)))) = decide (a = p) := by
  cases a; cases p
  rw [Bool.eq_iff_iff, decide_eq_true_iff]
  simp
/-- Is a plane the first of its kind? -/
def fstP (l : List Pl) (i : Nat) : Bool := (List.range' 0 l.length).all fun k => decide (i ≤ k ∨ gt l k ≠ gt l i)
def oth (l : List Pl) (p : Pl) : List Pl := (List.range' 0 l.length).flatMap fun k => if gt l k = p then [] else [gt l k]
def gN (l : List Pl) (i : Nat) : List Int := if fstP l i && !wth (oth l (gt l i)) (flp (gt l i)) then [(i : Int)] else []
def ND (l : List Pl) : List Int := (List.range' 0 l.length).flatMap (gN l)
theorem gN_len (l : List Pl) (i : Nat) : (gN l i).length ≤ 1 := by unfold gN; split <;> simp
theorem oth_len (l : List Pl) (p : Pl) : (oth l p).length ≤ l.length := by
  have := flat_le (g := fun k => if gt l k = p then [] else [gt l k]) (c := 1) l.length 0 fun j _ _ => by split <;> simp
  unfold oth; omega
theorem oth_B {l : List Pl} (hl : ∀ p ∈ l, PB p) (p : Pl) : ∀ q ∈ oth l p, PB q := fun q hq => by
  unfold oth at hq; rw [mem_flat] at hq
  obtain ⟨j, h1, h2, h⟩ := hq
  split at h
  · simp at h
  · rw [List.mem_singleton.1 h]; exact hl _ (gt_mem (by omega))
def appI (a : List Int) (s : Int) : List Int := a ++ [s]
theorem appI_len (a : List Int) (s : Int) : (appI a s).length ≤ a.length + 1 := by unfold appI; simp
def appP (a : List Pl) (s : Pl) : List Pl := a ++ [s]
theorem appP_len (a : List Pl) (s : Pl) : (appP a s).length ≤ a.length + 1 := by unfold appP; simp
theorem aC8 {n : Nat} (h : n ≤ 1000000) : apB 8 n = true := by
  unfold apB; simp only [Bool.and_eq_true, decide_eq_true_eq]; omega
theorem ixStep (n : Nat) (l : List Pl) (p : Pl) (rec0 : Int → Option Int) (k : Int) : Dslices_Index_0 n l (l.length : Int) p.A p.B p.C p.D rec0 k = frk (decide (k < (l.length : Int))) ((lget l k).bind fun v0 => frk (p.A == v0.A && (p.B == v0.B && (p.C == v0.C && (p.D == v0.D && true)))) (some k) (rec0 (w64 (k + 1)))) (some (-1)) := rfl
theorem ixLoop (n : Nat) {l : List Pl} (hb : l.length ≤ 24) {i : Nat} (hi : i < l.length) : ∀ (d k m : Nat), k + d = i → d < m → (∀ t, t < k → gt l t ≠ gt l i) →
    ∃ j : Nat, loopN (Dslices_Index_0 n l (l.length : Int) (gt l i).A (gt l i).B (gt l i).C (gt l i).D) m (k : Int) = some (j : Int) ∧ j ≤ i ∧ gt l j = gt l i ∧ ∀ t, t < j → gt l t ≠ gt l i := by
  intro d
  induction d with
  | zero =>
    intro k m hk hm h
    obtain ⟨m, rfl⟩ : ∃ j, m = j + 1 := ⟨m - 1, by omega⟩
    obtain rfl : k = i := by omega
    refine ⟨k, ?_, Nat.le_refl _, rfl, h⟩
    rw [loop_suc, ixStep, decide_eq_true (by omega), frk_t, lget_nat, gt_some hi, Option.bind_some, pl_eqD, decide_eq_true rfl, frk_t]
  | succ d ih =>
    intro k m hk hm h
    obtain ⟨m, rfl⟩ : ∃ j, m = j + 1 := ⟨m - 1, by omega⟩
    by_cases he : gt l i = gt l k
    · refine ⟨k, ?_, by omega, he.symm, h⟩
      rw [loop_suc, ixStep, decide_eq_true (by omega), frk_t, lget_nat, gt_some (show k < l.length by omega), Option.bind_some, pl_eqD, decide_eq_true he, frk_t]
    · obtain ⟨j, g1, g2⟩ := ih (k + 1) m (by omega) (by omega) fun t ht => by
        by_cases e : t = k
        · subst e; exact fun e' => he e'.symm
        · exact h t (by omega)
      refine ⟨j, ?_, g2⟩
      rw [loop_suc, ixStep, decide_eq_true (by omega), frk_t, lget_nat, gt_some (show k < l.length by omega), Option.bind_some, pl_eqD, decide_eq_false he, frk_f, w64_suc (by unfold big; omega)]
      exact g1
theorem fstP_iff {l : List Pl} {i : Nat} (hi : i < l.length) : fstP l i = true ↔ ∀ t, t < i → gt l t ≠ gt l i := by
  unfold fstP
  rw [List.all_eq_true]
  constructor
  · intro h t ht
    have := h t (List.mem_range'_1.2 ⟨by omega, by omega⟩)
    rw [decide_eq_true_iff] at this
    rcases this with h | h
    · omega
    · exact h
  · intro h k hk
    rw [decide_eq_true_iff]
    by_cases e : i ≤ k
    · exact .inl e
    · exact .inr (h k (by omega))
theorem index_first (n : Nat) {l : List Pl} (hb : l.length ≤ 24) (hn : 100 ≤ n) {i : Nat} (hi : i < l.length) : ∃ j : Int, Dslices_Index n l (gt l i) = some j ∧ (j != (i : Int)) = !fstP l i := by
  obtain ⟨j, h1, h2, h3, h4⟩ := ixLoop n hb hi i 0 n (by omega) (by omega) fun t ht => by omega
  refine ⟨j, h1, ?_⟩
  have hf := fstP_iff hi
  by_cases e : j = i
  · subst e
    rw [hf.2 h4]; simp
  · have : fstP l i = false := by
      rw [Bool.eq_false_iff]; intro h
      exact hf.1 h j (by omega) h3
    rw [this]; simp; omega
theorem inStep1 (n : Nat) (rec0 : (Int × List Int) → Option (List Int)) (l t9 : List Pl) (t10 t4 t11 t22 : Int) (p : Pl) (a : List Int) (rec1 : (Int × List Pl) → Option (List Int)) (k : Int) (b : List Pl) :
    Dimpl_needed_1 n rec0 l t9 t10 t4 t11 t22 p.A p.B p.C p.D a rec1 (k, b) = frk (decide (k < t22)) ((lget l k).bind fun v2 => frk (!(v2.A == p.A && (v2.B == p.B && (v2.C == p.C && (v2.D == p.D && true))))) (chk (apB 32 (b.length + 1)) (rec1 (w64 (k + 1), (b ++ [v2])))) (rec1 (w64 (k + 1), b))) ((Dimpl_flip p).bind fun v4 => (Dimpl_room n b v4).bind fun v5 => frk v5 (chk (apB 8 (a.length + 1)) (rec0 (w64 (t11 + 1), (a ++ [t4])))) (rec0 (w64 (t11 + 1), a))) := rfl
theorem inStep2 (n : Nat) (l t9 : List Pl) (t10 : Int) (rec0 : (Int × List Int) → Option (List Int)) (i : Int) (a : List Int) :
    Dimpl_needed_2 n l t9 t10 rec0 (i, a) = frk (decide (i < t10)) ((lget t9 i).bind fun v0 => (Dslices_Index n l v0).bind fun v1 => frk (v1 != i) (rec0 (w64 (i + 1), a)) (loopN (Dimpl_needed_1 n rec0 l t9 t10 i i (l.length : Int) v0.A v0.B v0.C v0.D a) n (0, []))) (some a) := rfl
theorem iNeeded {l : List Pl} (hl : ∀ p ∈ l, PB p) (hb : l.length ≤ 24) (n : Nat) (hn : 1000 ≤ n) : Dimpl_needed n l = some (ND l) := by
  unfold Dimpl_needed ND
  have := loopG (F := Dimpl_needed_2 n l l (l.length : Int)) (op := appI) (P := fun _ => True) (Q := fun _ => True) (c := 1) (K := 1000) (done := fun a => some a) appI_len (fun _ _ _ _ => trivial) (len := l.length) (g := gN l) (fun j hj => ⟨gN_len l j, fun _ _ => trivial⟩) (fun rec i a hi _ hK => by
    have hp := hl _ (gt_mem hi)
    obtain ⟨j, e1, e2⟩ := index_first n hb (by omega) hi
    rw [inStep2, decide_eq_true (by omega), frk_t, lget_nat, gt_some hi, Option.bind_some, e1, Option.bind_some, e2, w64_suc (by unfold big; omega)]
    unfold gN
    cases hf : fstP l i with
    | false => rfl
    | true =>
      rw [Bool.not_true, frk_f]
      have L := loopG (F := Dimpl_needed_1 n rec l l (l.length : Int) (i : Int) (i : Int) (l.length : Int) (gt l i).A (gt l i).B (gt l i).C (gt l i).D a) (op := appP) (P := fun _ => True) (Q := fun _ => True) (c := 1) (K := 1000)
        (done := fun b => (Dimpl_flip (gt l i)).bind fun v4 => (Dimpl_room n b v4).bind fun v5 => frk v5 (chk (apB 8 (a.length + 1)) (rec (w64 ((i : Int) + 1), (a ++ [(i : Int)])))) (rec (w64 ((i : Int) + 1), a))) appP_len (fun _ _ _ _ => trivial) (len := l.length) (g := fun k => if gt l k = gt l i then [] else [gt l k]) (fun j hj => ⟨by split <;> simp, fun _ _ => trivial⟩) (fun rec1 k b hk _ hK => by
          rw [inStep1, decide_eq_true (by omega), frk_t, lget_nat, gt_some hk, Option.bind_some, pl_eqD, w64_suc (by unfold big; omega)]
          by_cases he : gt l k = gt l i
          · rw [decide_eq_true he, Bool.not_true, frk_f, if_pos he]; rfl
          · rw [decide_eq_false he, Bool.not_false, frk_t, if_neg he, chk_eq (aC32 (by omega))]; rfl) (fun rec1 b _ => by rw [inStep1, decide_eq_false (by omega), frk_f]) l.length 0 n [] (by omega) (by omega) trivial (by simp; omega)
      rw [show (0 : Int) = ((0 : Nat) : Int) from rfl, L]
      have eo : ((List.range' 0 l.length).flatMap fun k => if gt l k = gt l i then [] else [gt l k]).foldl appP [] = oth l (gt l i) := (fold_app _ []).trans (List.nil_append _)
      have ol := oth_len l (gt l i)
      rw [eo, iFlip _ hp, Option.bind_some, iRoom (oth l (gt l i)) (flp (gt l i)) (oth_B hl _) (flp_PB hp) (by unfold big; omega) n (by omega), Option.bind_some, w64_suc (by unfold big; omega), Bool.true_and, chk_eq (aC8 (by omega))]
      cases wth (oth l (gt l i)) (flp (gt l i)) <;> rfl) (fun rec a _ => by rw [inStep2, decide_eq_false (by omega), frk_f]) l.length 0 n [] (by omega) (by omega) trivial (by simp; omega)
  rw [show (0 : Int) = ((0 : Nat) : Int) from rfl, this]
  congr 1
  exact (fold_app _ []).trans (List.nil_append _)
theorem snStep1 (n : Nat) (rec0 : (Int × List Int) → Option (List Int)) (l : List Pl) (i : Int) (rec1 : (Bool × Int × List Int × List Pl) → Option (List Int)) (b : Bool) (k : Int) (a : List Int) (c : List Pl) :
    Dspec_l7Needed_4 n rec0 l i rec1 (b, k, a, c) = frk (decide (k < (l.length : Int))) (frk (k == i) (frk b (rec1 (decide (k ≥ i), w64 (k + 1), a, c)) (rec1 (false, w64 (k + 1), a, c))) ((lget l k).bind fun v0 => (lget l i).bind fun v1 => frk (v0.A == v1.A && (v0.B == v1.B && (v0.C == v1.C && (v0.D == v1.D && true)))) (frk b (rec1 (decide (k ≥ i), w64 (k + 1), a, c)) (rec1 (false, w64 (k + 1), a, c))) ((lget l k).bind fun v2 => chk (apB 32 (c.length + 1)) (rec1 (b, w64 (k + 1), a, (c ++ [v2])))))) (Dspec_l7Needed_2 n rec0 l i b a c) := rfl
theorem snStep2 (n : Nat) (l : List Pl) (rec0 : (Int × List Int) → Option (List Int)) (i : Int) (a : List Int) :
    Dspec_l7Needed_5 n l rec0 (i, a) = frk (decide (i < (l.length : Int))) (loopN (Dspec_l7Needed_4 n rec0 l i) n (true, 0, a, [])) (some a) := rfl
theorem snEnd (n : Nat) (rec0 : (Int × List Int) → Option (List Int)) (l : List Pl) (i : Int) (b : Bool) (a : List Int) (c : List Pl) :
    Dspec_l7Needed_2 n rec0 l i b a c = frk b ((lget l i).bind fun v4 => (Dspec_l3Flip v4).bind fun v5 => (Dspec_l6With n c v5).bind fun v6 => frk (!v6) (chk (apB 8 (a.length + 1)) (rec0 (w64 (i + 1), (a ++ [i])))) (rec0 (w64 (i + 1), a))) (rec0 (w64 (i + 1), a)) := rfl
theorem snLoop (n : Nat) (rec0 : (Int × List Int) → Option (List Int)) {l : List Pl} (hb : l.length ≤ 24) {i : Nat} (hi : i < l.length) (a : List Int) : ∀ (d k m : Nat) (b : Bool) (c : List Pl), k + d = l.length → d < m → c.length ≤ k →
    loopN (Dspec_l7Needed_4 n rec0 l (i : Int)) m (b, (k : Int), a, c) = Dspec_l7Needed_2 n rec0 l (i : Int) (b && (List.range' k d).all fun t => decide (i ≤ t ∨ gt l t ≠ gt l i)) a (c ++ (List.range' k d).flatMap fun t => if gt l t = gt l i then [] else [gt l t]) := by
  intro d
  induction d with
  | zero =>
    intro k m b c hk hm _
    obtain ⟨m, rfl⟩ : ∃ j, m = j + 1 := ⟨m - 1, by omega⟩
    rw [loop_suc, snStep1, decide_eq_false (by omega), frk_f]
    simp
  | succ d ih =>
    intro k m b c hk hm hc
    obtain ⟨m, rfl⟩ : ∃ j, m = j + 1 := ⟨m - 1, by omega⟩
    have hkl : k < l.length := by omega
    rw [loop_suc, snStep1, decide_eq_true (by omega), frk_t, lget_nat, gt_some hkl, Option.bind_some, lget_nat, gt_some hi, Option.bind_some, pl_eqD, Option.bind_some, w64_suc (by unfold big; omega), List.range'_succ, List.all_cons, List.flatMap_cons]
    by_cases he : gt l k = gt l i
    · have e1 : decide (i ≤ k ∨ gt l k ≠ gt l i) = decide ((k : Int) ≥ (i : Int)) := by
        rw [decide_eq_decide]; constructor
        · rintro (h | h)
          · omega
          · exact absurd he h
        · intro h; exact .inl (by omega)
      rw [if_pos he, List.nil_append, e1, decide_eq_true he]
      have hh : frk ((k : Int) == (i : Int)) (frk b (loopN (Dspec_l7Needed_4 n rec0 l (i : Int)) m (decide ((k : Int) ≥ (i : Int)), ((k + 1 : Nat) : Int), a, c)) (loopN (Dspec_l7Needed_4 n rec0 l (i : Int)) m (false, ((k + 1 : Nat) : Int), a, c))) (frk true (frk b (loopN (Dspec_l7Needed_4 n rec0 l (i : Int)) m (decide ((k : Int) ≥ (i : Int)), ((k + 1 : Nat) : Int), a, c)) (loopN (Dspec_l7Needed_4 n rec0 l (i : Int)) m (false, ((k + 1 : Nat) : Int), a, c))) (chk (apB 32 (c.length + 1)) (loopN (Dspec_l7Needed_4 n rec0 l (i : Int)) m (b, ((k + 1 : Nat) : Int), a, c ++ [gt l k])))) = frk b (loopN (Dspec_l7Needed_4 n rec0 l (i : Int)) m (decide ((k : Int) ≥ (i : Int)), ((k + 1 : Nat) : Int), a, c)) (loopN (Dspec_l7Needed_4 n rec0 l (i : Int)) m (false, ((k + 1 : Nat) : Int), a, c)) := by
        cases (k : Int) == (i : Int) <;> rfl
      rw [hh, ih (k + 1) m _ c (by omega) (by omega) (by omega), ih (k + 1) m _ c (by omega) (by omega) (by omega)]
      cases b
      · rw [frk_f, Bool.false_and, Bool.false_and]
      · rw [frk_t, Bool.true_and]
    · have hki : k ≠ i := fun e => he (by rw [e])
      rw [show ((k : Int) == (i : Int)) = false by rw [beq_eq_false_iff_ne]; omega, frk_f, decide_eq_false he, frk_f, chk_eq (aC32 (by omega)), if_neg he, ih (k + 1) m b _ (by omega) (by omega) (by simp; omega), decide_eq_true (show i ≤ k ∨ gt l k ≠ gt l i from .inr he), Bool.true_and, List.append_assoc]
theorem sNeeded {l : List Pl} (hl : ∀ p ∈ l, PB p) (hb : l.length ≤ 24) (n : Nat) (hn : 1000 ≤ n) : Dspec_l7Needed n l = some (ND l) := by
  unfold Dspec_l7Needed ND
  have := loopG (F := Dspec_l7Needed_5 n l) (op := appI) (P := fun _ => True) (Q := fun _ => True) (c := 1) (K := 1000) (done := fun a => some a) appI_len (fun _ _ _ _ => trivial) (len := l.length) (g := gN l) (fun j hj => ⟨gN_len l j, fun _ _ => trivial⟩) (fun rec i a hi _ hK => by
    have hp := hl _ (gt_mem hi)
    have ol := oth_len l (gt l i)
    have L := snLoop n rec hb hi a l.length 0 n true [] (by omega) (by omega) (by simp)
    rw [snStep2, decide_eq_true (by omega), frk_t, show (0 : Int) = ((0 : Nat) : Int) from rfl, L, snEnd, List.nil_append, Bool.true_and]
    show frk (fstP l i) ((lget l (i : Int)).bind fun v4 => (Dspec_l3Flip v4).bind fun v5 => (Dspec_l6With n (oth l (gt l i)) v5).bind fun v6 => frk (!v6) (chk (apB 8 (a.length + 1)) (rec (w64 ((i : Int) + 1), (a ++ [(i : Int)])))) (rec (w64 ((i : Int) + 1), a))) (rec (w64 ((i : Int) + 1), a)) = _
    rw [lget_nat, gt_some hi, Option.bind_some, sFlip _ hp, Option.bind_some, sWith (oth l (gt l i)) (flp (gt l i)) (oth_B hl _) (flp_PB hp) (by unfold big; omega) n (by omega), Option.bind_some, w64_suc (by unfold big; omega), chk_eq (aC8 (by omega))]
    unfold gN
    cases fstP l i with
    | false => rfl
    | true => cases wth (oth l (gt l i)) (flp (gt l i)) <;> rfl) (fun rec a _ => by rw [snStep2, decide_eq_false (by omega), frk_f]) l.length 0 n [] (by omega) (by omega) trivial (by simp; omega)
  rw [show (0 : Int) = ((0 : Nat) : Int) from rfl, this]
  congr 1
  exact (fold_app _ []).trans (List.nil_append _)
theorem ND_mem {l : List Pl} {x : Int} (h : x ∈ ND l) : ∃ i : Nat, i < l.length ∧ x = i := by
  unfold ND at h; rw [mem_flat] at h
  obtain ⟨i, _, hi, h⟩ := h
  unfold gN at h
  split at h
  · exact ⟨i, by omega, List.mem_singleton.1 h⟩
  · simp at h
theorem ND_len {l : List Pl} : (ND l).length ≤ l.length := by
  have := flat_le (g := gN l) (c := 1) l.length 0 fun j _ _ => gN_len l j
  unfold ND; omega
/-! faces -/
def onP (p : Pl) (s : Spot) : Bool := decide (at4 p s = 0)
theorem sgn_z (x : Int) : (sgn x == 0) = decide (x = 0) := by
  unfold sgn
  rw [Bool.eq_iff_iff, beq_iff_eq, decide_eq_true_iff]
  split
  · omega
  · split <;> omega
def face (l : List Pl) (M : List Spot) (x : Int) : Bool := decide (3 ≤ (M.filter (onP (gt l x.toNat))).length)
theorem take_filt {α : Type} {f : α → Bool} {L : List α} {i : Nat} (h : i < L.length) : ((L.take (i + 1)).filter f).length = ((L.take i).filter f).length + (if f L[i] then 1 else 0) := by
  rw [List.take_add_one, List.getElem?_eq_getElem h, List.filter_append, List.length_append]
  congr 1
  show ([L[i]].filter f).length = _
  rw [List.filter_cons]; split <;> rfl
theorem fi1Step (n : Nat) (rec0 : (Int × Int) → Option Int) (l : List Pl) (M : List Spot) (N : List Int) (t17 t4 x t18 t23 : Int) (rec1 : (Int × Int) → Option Int) (c k : Int) :
    Dimpl_FaceCount_1 n rec0 l M N t17 t4 x t18 t23 rec1 (c, k) = frk (decide (k < t23)) ((lget M k).bind fun v4 => (lget l x).bind fun v5 => (Dimpl_sideAt v5 v4).bind fun v6 => frk (v6 == 0) (rec1 (w64 (c + 1), w64 (k + 1))) (rec1 (c, w64 (k + 1)))) (frk (decide (c ≥ 3)) (rec0 (w64 (t4 + 1), w64 (t18 + 1))) (rec0 (t4, w64 (t18 + 1)))) := rfl
theorem fi2Step (n : Nat) (l : List Pl) (M : List Spot) (N : List Int) (t17 : Int) (rec0 : (Int × Int) → Option Int) (c k : Int) :
    Dimpl_FaceCount_2 n l M N t17 rec0 (c, k) = frk (decide (k < t17)) ((lget N k).bind fun v3 => loopN (Dimpl_FaceCount_1 n rec0 l M N t17 c v3 k (M.length : Int)) n (0, 0)) (some c) := rfl
theorem fi1 (n : Nat) (rec0 : (Int × Int) → Option Int) {l : List Pl} (hl : ∀ p ∈ l, PB p) {M : List Spot} (hM : ∀ s ∈ M, SpOk s) (hb : M.length ≤ 20000) (N : List Int) (t17 t4 t18 : Int) {i : Nat} (hi : i < l.length) : ∀ (d k m : Nat), k + d = M.length → d < m →
    loopN (Dimpl_FaceCount_1 n rec0 l M N t17 t4 (i : Int) t18 (M.length : Int)) m ((((M.take k).filter (onP (gt l i))).length : Int), (k : Int)) = frk (face l M (i : Int)) (rec0 (w64 (t4 + 1), w64 (t18 + 1))) (rec0 (t4, w64 (t18 + 1))) := by
  intro d
  induction d with
  | zero =>
    intro k m hk hm
    obtain ⟨m, rfl⟩ : ∃ j, m = j + 1 := ⟨m - 1, by omega⟩
    rw [loop_suc, fi1Step, decide_eq_false (by omega), frk_f, List.take_of_length_le (by omega)]
    unfold face
    rw [Int.toNat_natCast]
    congr 1
    rw [decide_eq_decide]; omega
  | succ d ih =>
    intro k m hk hm
    obtain ⟨m, rfl⟩ : ∃ j, m = j + 1 := ⟨m - 1, by omega⟩
    have hkl : k < M.length := by omega
    have r := ih (k + 1) m (by omega) (by omega)
    have hle : ((M.take k).filter (onP (gt l i))).length ≤ 20000 := by
      have h1 := List.length_filter_le (onP (gt l i)) (M.take k)
      rw [List.length_take] at h1; omega
    rw [take_filt hkl] at r
    rw [loop_suc, fi1Step, decide_eq_true (by omega), frk_t, lget_nat, List.getElem?_eq_getElem hkl, Option.bind_some, lget_nat, gt_some hi, Option.bind_some, iSideR (hl _ (gt_mem hi)) (hM _ (List.getElem_mem hkl)), Option.bind_some, sgn_z, w64_suc (k := k) (by unfold big; omega)]
    unfold onP at r hle ⊢
    by_cases hc : at4 (gt l i) M[k] = 0
    · rw [decide_eq_true hc, if_pos rfl] at r
      rw [decide_eq_true hc, frk_t, w64_suc (by unfold big; omega)]; exact r
    · rw [decide_eq_false hc, if_neg (by simp)] at r
      rw [decide_eq_false hc, frk_f]; exact r
theorem fi2 (n : Nat) (hn : 20001 ≤ n) {l : List Pl} (hb : l.length ≤ 24) (hl : ∀ p ∈ l, PB p) {M : List Spot} (hM : ∀ s ∈ M, SpOk s) (hm : M.length ≤ 20000) : ∀ (d k m : Nat), k + d = (ND l).length → d < m →
    loopN (Dimpl_FaceCount_2 n l M (ND l) ((ND l).length : Int)) m (((((ND l).take k).filter (face l M)).length : Int), (k : Int)) = some ((((ND l).filter (face l M)).length : Nat) : Int) := by
  intro d
  induction d with
  | zero =>
    intro k m hk hm
    obtain ⟨m, rfl⟩ : ∃ j, m = j + 1 := ⟨m - 1, by omega⟩
    rw [loop_suc, fi2Step, decide_eq_false (by omega), frk_f, List.take_of_length_le (by omega)]
  | succ d ih =>
    intro k m hk hm'
    obtain ⟨m, rfl⟩ : ∃ j, m = j + 1 := ⟨m - 1, by omega⟩
    have hkl : k < (ND l).length := by omega
    have nl := ND_len (l := l)
    obtain ⟨i, hi, e⟩ := ND_mem (List.getElem_mem hkl)
    have r := ih (k + 1) m (by omega) (by omega)
    have hle : (((ND l).take k).filter (face l M)).length ≤ 24 := by
      have h1 := List.length_filter_le (face l M) ((ND l).take k)
      rw [List.length_take] at h1; omega
    have F := fi1 n (loopN (Dimpl_FaceCount_2 n l M (ND l) ((ND l).length : Int)) m) hl hM hm (ND l) ((ND l).length : Int) ((((ND l).take k).filter (face l M)).length : Int) (k : Int) hi M.length 0 n (by omega) (by omega)
    rw [take_filt hkl, e] at r
    rw [loop_suc, fi2Step, decide_eq_true (by omega), frk_t, lget_nat, List.getElem?_eq_getElem hkl, Option.bind_some, e]
    refine F.trans ?_
    rw [w64_suc (k := k) (by unfold big; omega)]
    cases hc : face l M (i : Int) with
    | true => rw [hc, if_pos rfl] at r; rw [frk_t, w64_suc (by unfold big; omega)]; exact r
    | false => rw [hc, if_neg (by simp)] at r; rw [frk_f]; exact r
theorem onStep (n : Nat) (M : List Spot) (p : Pl) (rec0 : (Int × List Spot) → Option (List Spot)) (k : Int) (a : List Spot) :
    Dspec_l15On_0 n M p.A p.B p.C p.D rec0 (k, a) = frk (decide (k < (M.length : Int))) ((lget M k).bind fun v0 => (Dspec_l5Side p v0).bind fun v1 => frk (v1 == 0) ((lget M k).bind fun v2 => chk (apB 32 (a.length + 1)) (rec0 (w64 (k + 1), (a ++ [v2])))) (rec0 (w64 (k + 1), a))) (some a) := rfl
theorem sOn (n : Nat) (hn : 20001 ≤ n) {p : Pl} (hp : PB p) {M : List Spot} (hM : ∀ s ∈ M, SpOk s) (hm : M.length ≤ 20000) : ∃ L, Dspec_l15On n M p = some L ∧ L.length = (M.filter (onP p)).length := by
  have key : ∀ (d k m : Nat) (a : List Spot), k + d = M.length → d < m → a.length ≤ k → ∃ L, loopN (Dspec_l15On_0 n M p.A p.B p.C p.D) m ((k : Int), a) = some L ∧ L.length = a.length + ((M.drop k).filter (onP p)).length := by
    intro d
    induction d with
    | zero =>
      intro k m a hk hm' _
      obtain ⟨m, rfl⟩ : ∃ j, m = j + 1 := ⟨m - 1, by omega⟩
      refine ⟨a, ?_, by rw [List.drop_eq_nil_of_le (by omega)]; rfl⟩
      rw [loop_suc, onStep, decide_eq_false (by omega), frk_f]
    | succ d ih =>
      intro k m a hk hm' ha
      obtain ⟨m, rfl⟩ : ∃ j, m = j + 1 := ⟨m - 1, by omega⟩
      have hkl : k < M.length := by omega
      rw [List.drop_eq_getElem_cons hkl, List.filter_cons, loop_suc, onStep, decide_eq_true (by omega), frk_t, lget_nat, List.getElem?_eq_getElem hkl, Option.bind_some, sSideR hp (hM _ (List.getElem_mem hkl)), Option.bind_some, sgn_z, Option.bind_some, w64_suc (k := k) (by unfold big; omega)]
      by_cases hc : at4 p M[k] = 0
      · obtain ⟨L, g1, g2⟩ := ih (k + 1) m (a ++ [M[k]]) (by omega) (by omega) (by simp; omega)
        refine ⟨L, ?_, ?_⟩
        · rw [decide_eq_true hc, frk_t, chk_eq (aC32 (by omega))]; exact g1
        · rw [show onP p M[k] = true from decide_eq_true hc, if_pos rfl, g2]; simp only [List.length_append, List.length_cons, List.length_nil]; omega
      · obtain ⟨L, g1, g2⟩ := ih (k + 1) m a (by omega) (by omega) (by omega)
        refine ⟨L, ?_, ?_⟩
        · rw [decide_eq_false hc, frk_f]; exact g1
        · rw [show onP p M[k] = false from decide_eq_false hc, if_neg (by simp), g2]
  obtain ⟨L, g1, g2⟩ := key M.length 0 n [] (by omega) (by omega) (by simp)
  exact ⟨L, g1, by rw [g2]; simp⟩
theorem fsStep (n : Nat) (l : List Pl) (N : List Int) (M : List Spot) (rec0 : (Int × Int) → Option Int) (c k : Int) :
    Dspec_FaceCount_0 n l N M rec0 (c, k) = frk (decide (k < (N.length : Int))) ((lget N k).bind fun v3 => (lget l v3).bind fun v4 => (Dspec_l15On n M v4).bind fun v5 => frk (decide ((v5.length : Int) > 2)) (rec0 (w64 (c + 1), w64 (k + 1))) (rec0 (c, w64 (k + 1)))) (some c) := rfl
theorem fs2 (n : Nat) (hn : 20001 ≤ n) {l : List Pl} (hb : l.length ≤ 24) (hl : ∀ p ∈ l, PB p) {M : List Spot} (hM : ∀ s ∈ M, SpOk s) (hm : M.length ≤ 20000) : ∀ (d k m : Nat), k + d = (ND l).length → d < m →
    loopN (Dspec_FaceCount_0 n l (ND l) M) m (((((ND l).take k).filter (face l M)).length : Int), (k : Int)) = some ((((ND l).filter (face l M)).length : Nat) : Int) := by
  intro d
  induction d with
  | zero =>
    intro k m hk hm
    obtain ⟨m, rfl⟩ : ∃ j, m = j + 1 := ⟨m - 1, by omega⟩
    rw [loop_suc, fsStep, decide_eq_false (by omega), frk_f, List.take_of_length_le (by omega)]
  | succ d ih =>
    intro k m hk hm'
    obtain ⟨m, rfl⟩ : ∃ j, m = j + 1 := ⟨m - 1, by omega⟩
    have hkl : k < (ND l).length := by omega
    have nl := ND_len (l := l)
    obtain ⟨i, hi, e⟩ := ND_mem (List.getElem_mem hkl)
    have r := ih (k + 1) m (by omega) (by omega)
    have hle : (((ND l).take k).filter (face l M)).length ≤ 24 := by
      have h1 := List.length_filter_le (face l M) ((ND l).take k)
      rw [List.length_take] at h1; omega
    obtain ⟨L, e1, e2⟩ := sOn n hn (hl _ (gt_mem hi)) hM hm
    rw [take_filt hkl, e] at r
    rw [loop_suc, fsStep, decide_eq_true (by omega), frk_t, lget_nat, List.getElem?_eq_getElem hkl, Option.bind_some, e, lget_nat, gt_some hi, Option.bind_some, e1, Option.bind_some, e2, w64_suc (k := k) (by unfold big; omega)]
    have ef : decide ((((M.filter (onP (gt l i))).length : Nat) : Int) > 2) = face l M (i : Int) := by
      unfold face; rw [Int.toNat_natCast, decide_eq_decide]; omega
    rw [ef]
    cases hc : face l M (i : Int) with
    | true => rw [hc, if_pos rfl] at r; rw [frk_t, w64_suc (by unfold big; omega)]; exact r
    | false => rw [hc, if_neg (by simp)] at r; rw [frk_f]; exact r
theorem faceEq (l : List Pl) (hB : l.length ≤ big) : ∃ v : Int, Ev fun n => Dspec_FaceCount n l = some v ∧ Dimpl_FaceCount n l = some v := by
  have e1 := sRightL l hB
  have e2 := iPlanesOk l hB
  by_cases hr : (l.all pOk && decide ((l.length : Int) ≤ 24)) = true
  · obtain ⟨ha, hlen⟩ := Bool.and_eq_true_iff.1 hr
    rw [decide_eq_true_iff] at hlen
    have hb : l.length ≤ 24 := by omega
    have hl : ∀ p ∈ l, PB p := fun p hp => pOk_PB (all_mem ha p hp)
    have e3 := sOpenL l hl hB
    have e4 := iOpenL l hl hB
    have hO : Ev fun n => Dspec_Open n l = some (opB l) ∧ Dimpl_Open n l = some (opB l) := (e1.and (e2.and (e3.and e4))).mono fun n ⟨h1, h2, h3, h4⟩ => by
      unfold Dspec_Open Dimpl_Open
      rw [h1, Option.bind_some, hr, frk_t, h3, h2, ha, h4, decide_eq_true hlen]; exact ⟨rfl, rfl⟩
    cases ho : opB l with
    | false =>
      refine ⟨0, hO.mono fun n ⟨h1, h2⟩ => ?_⟩
      unfold Dspec_FaceCount Dimpl_FaceCount
      rw [h1, h2, ho]; exact ⟨rfl, rfl⟩
    | true =>
      obtain ⟨M1, a1, a2, a3, a4⟩ := sCorners hl hb
      obtain ⟨M2, b1, b2, b3, b4⟩ := iCorners hl hb
      have hM1 : ∀ s ∈ M1, SpOk s := fun s hs => ((a1 s).1 hs).ok hl
      have hM2 : ∀ s ∈ M2, SpOk s := fun s hs => ((b1 s).1 hs).ok hl
      have hp : M1.Perm M2 := (List.perm_ext_iff_of_nodup a2 b2).2 fun s => by rw [a1, b1]
      have hf : face l M1 = face l M2 := by
        funext x; unfold face; rw [(hp.filter _).length_eq]
      refine ⟨(((ND l).filter (face l M1)).length : Nat), (hO.and (e_ge 1000000001)).mono fun n ⟨⟨h1, h2⟩, hn⟩ => ?_⟩
      have nl := ND_len (l := l)
      have F1 := fs2 n (by omega) hb hl hM1 (by omega) (ND l).length 0 n (by omega) (by omega)
      have F2 := fi2 n (by omega) hb hl hM2 (by omega) (ND l).length 0 n (by omega) (by omega)
      rw [← hf] at F2
      unfold Dspec_FaceCount Dimpl_FaceCount
      rw [h1, h2, ho, Option.bind_some, Option.bind_some, sNeeded hl hb n (by omega), a4 n hn, b4 n hn, iNeeded hl hb n (by omega)]
      exact ⟨F1, by rw [hf] at F2 ⊢; exact F2⟩
  · refine ⟨0, (e1.and e2).mono fun n ⟨h1, h2⟩ => ?_⟩
    have hr' : (l.all pOk && decide ((l.length : Int) ≤ 24)) = false := by simpa using hr
    unfold Dspec_FaceCount Dimpl_FaceCount Dspec_Open Dimpl_Open
    rw [h1, hr', h2]
    refine ⟨rfl, ?_⟩
    by_cases hlen : (l.length : Int) ≤ 24
    · rw [decide_eq_true hlen, Bool.and_true] at hr'
      rw [hr', decide_eq_true hlen]; rfl
    · rw [decide_eq_false hlen]; rfl
theorem plain_FaceCount {F : Pl → Prop} (l : List Pl) (gl : l.length ≤ maxLen ∧ ∀ x ∈ l, F x) : ∃ n, Dlaws_FnExactFaceCount n l = some true := by
  have hB : l.length ≤ big := by have := gl.1; unfold maxLen at this; unfold big; omega
  have hw : w64 (1048576 - (l.length : Int)) = 1048576 - l.length := by unfold big at hB; exact w64_id (by omega) (by omega)
  by_cases h : l.length ≤ 1048576
  · obtain ⟨v, hv⟩ := faceEq l hB
    obtain ⟨n, hN⟩ := hv.and ((toPC l h).and (eqPC l h))
    obtain ⟨⟨h1, h2⟩, h3, h4⟩ := hN n (Nat.le_refl n)
    refine ⟨n, ?_⟩
    unfold Dlaws_FnExactFaceCount Dlaws_szPlaneS
    rw [hw, decide_eq_false (show ¬ (1048576 - (l.length : Int)) < 0 by omega), frk_f, Option.bind_some, decide_eq_false (show ¬ (1048576 - (l.length : Int)) < 0 by omega), frk_f, h3, Option.bind_some, h1, Option.bind_some, Option.bind_some, h2, Option.bind_some, bne_self_eq_false, frk_f, Option.bind_some, h4]; rfl
  · refine ⟨0, ?_⟩
    unfold Dlaws_FnExactFaceCount Dlaws_szPlaneS
    rw [hw, decide_eq_true (show (1048576 - (l.length : Int)) < 0 by omega), frk_t]; rfl
end Evl.T
