/- Texts that belong together, joined. No condition. -/
import Derived.Test.YtgaenniknmphcaaGreatJp
/-! Etp -/
namespace Evl.T
open Go Evl

structure SpOk (q : Spot) : Prop where
  w : 1 ≤ q.W ∧ q.W ≤ 1000000000
  x : q.X.natAbs ≤ 1000000000
  y : q.Y.natAbs ≤ 1000000000
  z : q.Z.natAbs ≤ 1000000000
  g : Nat.gcd (Nat.gcd (Nat.gcd q.X.natAbs q.Y.natAbs) q.Z.natAbs) q.W.natAbs = 1
end Evl.T

/-! Ezu -/
namespace Evl.T
open Go Evl

def at4 (p : Pl) (q : Spot) : Int := p.A * q.X + p.B * q.Y + p.C * q.Z + p.D * q.W
theorem at_flp (p : Pl) (q : Spot) : at4 (flp p) q = 0 - at4 p q := by unfold at4 flp; simp only; grind
theorem at_w {p : Pl} {q : Spot} (hp : PB p) (hq : SpOk q) : w64 ((w64 ((w64 ((w64 (p.A * q.X)) + (w64 (p.B * q.Y)))) + (w64 (p.C * q.Z)))) + (w64 (p.D * q.W))) = at4 p q := by
  obtain ⟨a1, a2, a3, a4⟩ := hp
  have bx : B 1000000000 q.X := hq.x
  have by' : B 1000000000 q.Y := hq.y
  have bz : B 1000000000 q.Z := hq.z
  have bw : B 1000000000 q.W := by have := hq.w; unfold B; omega
  simp only [w64_add_l, w64_add_r]
  rw [w64_B ((((a1.mul bx).add (a2.mul by')).add (a3.mul bz)).add (a4.mul bw)) rfl]
  rfl
theorem iSideR {p : Pl} {q : Spot} (hp : PB p) (hq : SpOk q) : Dimpl_sideAt p q = some (sgn (at4 p q)) := by
  unfold Dimpl_sideAt; rw [iSign, Option.bind_some, at_w hp hq]
theorem sgn_ge (x : Int) : sgn x ≥ 0 ↔ 0 ≤ x := by unfold sgn; split <;> (try split) <;> omega
theorem sgn_le (x : Int) : sgn x ≤ 0 ↔ x ≤ 0 := by unfold sgn; split <;> (try split) <;> omega
end Evl.T

/-! Ezr -/
namespace Evl.T
open Go Evl

theorem gcd_bdC {a b k : Nat} (ha : a ≤ k) (hb : b ≤ k) : Nat.gcd a b ≤ k := by
  by_cases h : b = 0
  · subst h; rw [Nat.gcd_zero_right]; exact ha
  · exact Nat.le_trans (Nat.gcd_le_right a (by omega)) hb
theorem qtC {a b : Int} (hb : b ≠ 0) (ha : a.natAbs ≤ 1000000000) : qt .i64 a b = some (a.tdiv b) := by
  unfold qt
  rw [if_neg hb]
  have : (a.tdiv b).natAbs ≤ a.natAbs := by rw [Int.natAbs_tdiv]; exact Nat.div_le_self _ _
  have e : IntKind.i64.wrap (a.tdiv b) = a.tdiv b := w64_id (by omega) (by omega)
  rw [e]
def gd4 (a b c d : Int) : Nat := Nat.gcd (Nat.gcd (Nat.gcd a.natAbs b.natAbs) c.natAbs) d.natAbs
/-- What a spot's numbers are divided by. -/
def nsT (a b c d : Int) : Int := if d < 0 then 0 - (gd4 a b c d : Int) else (gd4 a b c d : Int)
def nsp (a b c d : Int) : Spot := ⟨a.tdiv (nsT a b c d), b.tdiv (nsT a b c d), c.tdiv (nsT a b c d), d.tdiv (nsT a b c d)⟩
theorem gd4_pos {a b c d : Int} (h0 : d ≠ 0) : 0 < gd4 a b c d := by
  unfold gd4
  apply Nat.pos_of_ne_zero
  intro e
  have := (Nat.gcd_eq_zero_iff.1 e).2
  omega
theorem gd4_le {a b c d : Int} (ha : a.natAbs ≤ 1000000000) (hb : b.natAbs ≤ 1000000000) (hc : c.natAbs ≤ 1000000000) (hd : d.natAbs ≤ 1000000000) : gd4 a b c d ≤ 1000000000 :=
  gcd_bdC (gcd_bdC (gcd_bdC ha hb) hc) hd
theorem nsT_ne {a b c d : Int} (h0 : d ≠ 0) : nsT a b c d ≠ 0 := by
  have := gd4_pos (a := a) (b := b) (c := c) h0
  unfold nsT; split <;> omega
theorem nsp_ok {a b c d : Int} (ha : a.natAbs ≤ 1000000000) (hb : b.natAbs ≤ 1000000000) (hc : c.natAbs ≤ 1000000000) (hd : d.natAbs ≤ 1000000000) (h0 : d ≠ 0) : SpOk (nsp a b c d) := by
  have hp := gd4_pos (a := a) (b := b) (c := c) h0
  have t0 : nsT a b c d ≠ 0 := nsT_ne h0
  have hgd : gd4 a b c d ∣ Nat.gcd (Nat.gcd a.natAbs b.natAbs) c.natAbs := Nat.gcd_dvd_left _ _
  have hdd : gd4 a b c d ∣ d.natAbs := Nat.gcd_dvd_right _ _
  have hcd := Nat.dvd_trans hgd (Nat.gcd_dvd_right _ _)
  have hab := Nat.dvd_trans hgd (Nat.gcd_dvd_left _ _)
  have had := Nat.dvd_trans hab (Nat.gcd_dvd_left _ _)
  have hbd := Nat.dvd_trans hab (Nat.gcd_dvd_right _ _)
  have ht : (nsT a b c d).natAbs = gd4 a b c d := by unfold nsT; split <;> omega
  have na : ∀ x : Int, (x.tdiv (nsT a b c d)).natAbs = x.natAbs / gd4 a b c d := fun x => by rw [Int.natAbs_tdiv, ht]; rfl
  have le : ∀ {x : Int}, x.natAbs ≤ 1000000000 → (x.tdiv (nsT a b c d)).natAbs ≤ 1000000000 := fun {x} h => by rw [na]; exact Nat.le_trans (Nat.div_le_self _ _) h
  refine ⟨?_, le ha, le hb, le hc, ?_⟩
  · have h1 := le hd
    have hpos : 0 < (d.tdiv (nsT a b c d)).natAbs := by rw [na]; exact Nat.div_pos (Nat.le_of_dvd (by omega) hdd) hp
    have hnn : 0 ≤ d.tdiv (nsT a b c d) := by
      rcases Int.lt_or_gt_of_ne h0 with h | h
      · have : nsT a b c d < 0 := by unfold nsT; rw [if_pos h]; omega
        have e : d.tdiv (nsT a b c d) = (-d).tdiv (-(nsT a b c d)) := by rw [Int.neg_tdiv_neg]
        rw [e]; exact Int.tdiv_nonneg (by omega) (by omega)
      · have : 0 < nsT a b c d := by unfold nsT; rw [if_neg (by omega)]; omega
        exact Int.tdiv_nonneg (by omega) (by omega)
    show 1 ≤ d.tdiv (nsT a b c d) ∧ d.tdiv (nsT a b c d) ≤ 1000000000
    omega
  · show Nat.gcd (Nat.gcd (Nat.gcd (a.tdiv (nsT a b c d)).natAbs (b.tdiv (nsT a b c d)).natAbs) (c.tdiv (nsT a b c d)).natAbs) (d.tdiv (nsT a b c d)).natAbs = 1
    rw [na, na, na, na, Nat.gcd_div had hbd]
    have q1 : gd4 a b c d ∣ Nat.gcd a.natAbs b.natAbs := Nat.dvd_gcd had hbd
    rw [Nat.gcd_div q1 hcd, Nat.gcd_div hgd hdd]
    exact Nat.div_self hp
theorem nsp_neg {a b c d : Int} (h0 : d ≠ 0) : nsp (-a) (-b) (-c) (-d) = nsp a b c d := by
  have e : nsT (-a) (-b) (-c) (-d) = -(nsT a b c d) := by
    unfold nsT gd4
    simp only [Int.natAbs_neg]
    split <;> split <;> omega
  unfold nsp
  rw [e, Int.neg_tdiv_neg, Int.neg_tdiv_neg, Int.neg_tdiv_neg, Int.neg_tdiv_neg]
theorem sNsp {a b c d : Int} (ha : a.natAbs ≤ 1000000000) (hb : b.natAbs ≤ 1000000000) (hc : c.natAbs ≤ 1000000000) (hd : d.natAbs ≤ 1000000000) (h0 : d ≠ 0) : ∀ n, 1000000001 ≤ n → Dspec_l5Spot n a b c d = some (nsp a b c d) := by
  intro n hn
  have u : ∀ {x : Int}, x.natAbs ≤ 1000000000 → B 9223372036854775807 x := fun h => by unfold B; omega
  have b1 := gcd_bdC ha hb
  have b2 := gcd_bdC hc hd
  have hl := gd4_le ha hb hc hd
  have t0 : nsT a b c d ≠ 0 := nsT_ne h0
  have hG : Nat.gcd (Nat.gcd a.natAbs b.natAbs) (Nat.gcd c.natAbs d.natAbs) = gd4 a b c d := by unfold gd4; rw [Nat.gcd_assoc (Nat.gcd a.natAbs b.natAbs)]
  have g1 := sGcd n a b (u ha) (u hb) (by omega)
  have g2 := sGcd n c d (u hc) (u hd) (by omega)
  have g3 := sGcd n ((Nat.gcd a.natAbs b.natAbs : Nat) : Int) ((Nat.gcd c.natAbs d.natAbs : Nat) : Int) (by unfold B; omega) (by unfold B; omega) (by omega)
  simp only [Int.natAbs_natCast] at g3
  rw [hG] at g3
  have fin : ∀ t : Int, t = nsT a b c d → Dspec_l5Spot_0 n a b c d t 0 0 0 0 = some (nsp a b c d) := fun t ht => by
    subst ht
    unfold Dspec_l5Spot_0
    rw [qtC t0 ha, Option.bind_some, qtC t0 hb, Option.bind_some, qtC t0 hc, Option.bind_some, qtC t0 hd, Option.bind_some]; rfl
  unfold Dspec_l5Spot
  rw [g1, Option.bind_some, g2, Option.bind_some, g3, Option.bind_some]
  by_cases hneg : d < 0
  · rw [decide_eq_true hneg, frk_t, w64_id (by omega) (by omega)]
    exact fin _ (by unfold nsT; rw [if_pos hneg])
  · rw [decide_eq_false hneg, frk_f]
    exact fin _ (by unfold nsT; rw [if_neg hneg])
/-! three planes -/
theorem det3C {p q r : Pl} (hp : PB p) (hq : PB q) (hr : PB r) : (det3 p q r).natAbs ≤ 1000000000 := by
  obtain ⟨a1, a2, a3, -⟩ := hp
  obtain ⟨b1, b2, b3, -⟩ := hq
  obtain ⟨c1, c2, c3, -⟩ := hr
  have h : B 750000000 (det3 p q r) := (((a1.mul ((b2.mul c3).sub (b3.mul c2))).add (a2.mul ((b3.mul c1).sub (b1.mul c3)))).add (a3.mul ((b1.mul c2).sub (b2.mul c1)))).up (by decide)
  unfold B at h; omega
def plX (p : Pl) : Pl := ⟨0 - p.D, p.B, p.C, 0⟩
def plY (p : Pl) : Pl := ⟨p.A, 0 - p.D, p.C, 0⟩
def plZ (p : Pl) : Pl := ⟨p.A, p.B, 0 - p.D, 0⟩
theorem z500 : B 500 (0 : Int) := B.of (by decide) (by decide)
theorem plX_B {p : Pl} (h : PB p) : PB (plX p) := ⟨h.2.2.2.zsub, h.2.1, h.2.2.1, z500⟩
theorem plY_B {p : Pl} (h : PB p) : PB (plY p) := ⟨h.1, h.2.2.2.zsub, h.2.2.1, z500⟩
theorem plZ_B {p : Pl} (h : PB p) : PB (plZ p) := ⟨h.1, h.2.1, h.2.2.2.zsub, z500⟩
/-- The spot where three planes meet. -/
def mt (p q r : Pl) : Option Spot := if det3 p q r = 0 then none else some (nsp (det3 (plX p) (plX q) (plX r)) (det3 (plY p) (plY q) (plY r)) (det3 (plZ p) (plZ q) (plZ r)) (det3 p q r))
def mtR (o : Option Spot) : Spot × Bool := match o with | some s => (s, true) | none => (⟨0, 0, 0, 0⟩, false)
theorem mt_ok {p q r : Pl} (hp : PB p) (hq : PB q) (hr : PB r) {s : Spot} (h : mt p q r = some s) : SpOk s := by
  unfold mt at h
  split at h
  · cases h
  · rename_i h0
    cases h
    exact nsp_ok (det3C (plX_B hp) (plX_B hq) (plX_B hr)) (det3C (plY_B hp) (plY_B hq) (plY_B hr)) (det3C (plZ_B hp) (plZ_B hq) (plZ_B hr)) (det3C hp hq hr) h0
theorem det3_rev (p q r : Pl) : det3 r q p = -(det3 p q r) := by unfold det3; grind
theorem mt_rev (p q r : Pl) : mt r q p = mt p q r := by
  unfold mt
  rw [det3_rev p q r, det3_rev (plX p), det3_rev (plY p), det3_rev (plZ p)]
  by_cases h : det3 p q r = 0
  · rw [if_pos (by omega), if_pos h]
  · rw [if_neg (by omega), if_neg h, nsp_neg h]
theorem wD {x : Pl} (h : PB x) : w64 (0 - x.D) = 0 - x.D := w64_B h.2.2.2.zsub (by decide)
theorem sMeet {p q r : Pl} (hp : PB p) (hq : PB q) (hr : PB r) : ∀ n, 1000000001 ≤ n → Dspec_l5Meet n p q r = some (mtR (mt p q r)) := by
  intro n hn
  unfold Dspec_l5Meet mt
  rw [sDet3 p q r hp hq hr, Option.bind_some]
  by_cases h0 : det3 p q r = 0
  · rw [show (det3 p q r == 0) = true by simpa using h0, frk_t, if_pos h0]; rfl
  · rw [show (det3 p q r == 0) = false by simpa using h0, frk_f, if_neg h0, wD hp, wD hq, wD hr]
    show ((Dspec_l4Det3 (plX p) (plX q) (plX r)).bind fun v1 => (Dspec_l4Det3 (plY p) (plY q) (plY r)).bind fun v2 => (Dspec_l4Det3 (plZ p) (plZ q) (plZ r)).bind fun v3 => (Dspec_l5Spot n v1 v2 v3 (det3 p q r)).bind fun v4 => some (v4, true)) = _
    rw [sDet3 _ _ _ (plX_B hp) (plX_B hq) (plX_B hr), Option.bind_some, sDet3 _ _ _ (plY_B hp) (plY_B hq) (plY_B hr), Option.bind_some, sDet3 _ _ _ (plZ_B hp) (plZ_B hq) (plZ_B hr), Option.bind_some,
      sNsp (det3C (plX_B hp) (plX_B hq) (plX_B hr)) (det3C (plY_B hp) (plY_B hq) (plY_B hr)) (det3C (plZ_B hp) (plZ_B hq) (plZ_B hr)) (det3C hp hq hr) h0 n hn]
    rfl
theorem iMeet {p q r : Pl} (hp : PB p) (hq : PB q) (hr : PB r) : ∀ n, 1000000001 ≤ n → Dimpl_meet3 n p q r = some (mtR (mt p q r)) := by
  intro n hn
  have x1 := det3C (plX_B hp) (plX_B hq) (plX_B hr)
  have x2 := det3C (plY_B hp) (plY_B hq) (plY_B hr)
  have x3 := det3C (plZ_B hp) (plZ_B hq) (plZ_B hr)
  have x4 := det3C hp hq hr
  have e1 := iDet _ _ _ (plX_B hp) (plX_B hq) (plX_B hr)
  have e2 := iDet _ _ _ (plY_B hp) (plY_B hq) (plY_B hr)
  have e3 := iDet _ _ _ (plZ_B hp) (plZ_B hq) (plZ_B hr)
  have u : ∀ {x : Int}, x.natAbs ≤ 1000000000 → B 9223372036854775807 x := fun h => by unfold B; omega
  unfold Dimpl_meet3 mt
  rw [iDet3 p q r hp hq hr, Option.bind_some]
  by_cases h0 : det3 p q r = 0
  · rw [show (det3 p q r == 0) = true by simpa using h0, frk_t, if_pos h0]; rfl
  · rw [show (det3 p q r == 0) = false by simpa using h0, frk_f, if_neg h0, wD hp, wD hq, wD hr]
    unfold plX at e1; unfold plY at e2; unfold plZ at e3
    rw [e1, Option.bind_some, e2, Option.bind_some, e3, Option.bind_some]
    show ((Dimpl_divisor n [det3 (plX p) (plX q) (plX r), det3 (plY p) (plY q) (plY r), det3 (plZ p) (plZ q) (plZ r), det3 p q r]).bind fun v4 => frk (decide (det3 p q r < 0)) (Dimpl_meet3_0 n (det3 p q r) (det3 (plX p) (plX q) (plX r)) (det3 (plY p) (plY q) (plY r)) (det3 (plZ p) (plZ q) (plZ r)) (w64 (0 - v4)) 0 0 0 0) (Dimpl_meet3_0 n (det3 p q r) (det3 (plX p) (plX q) (plX r)) (det3 (plY p) (plY q) (plY r)) (det3 (plZ p) (plZ q) (plZ r)) v4 0 0 0 0)) = _
    generalize det3 (plX p) (plX q) (plX r) = a at *
    generalize det3 (plY p) (plY q) (plY r) = b at *
    generalize det3 (plZ p) (plZ q) (plZ r) = c at *
    generalize det3 p q r = d at *
    have hl := gd4_le x1 x2 x3 x4
    have t0 : nsT a b c d ≠ 0 := nsT_ne h0
    have fin : ∀ t : Int, t = nsT a b c d → Dimpl_meet3_0 n d a b c t 0 0 0 0 = some (nsp a b c d, true) := fun t ht => by
      subst ht
      unfold Dimpl_meet3_0
      rw [qtC t0 x1, Option.bind_some, qtC t0 x2, Option.bind_some, qtC t0 x3, Option.bind_some, qtC t0 x4, Option.bind_some]; rfl
    rw [iDiv4 n a b c d (u x1) (u x2) (u x3) (u x4) (by omega) (by omega) (by omega) (by omega) (by omega), Option.bind_some]
    show frk (decide (d < 0)) (Dimpl_meet3_0 n d a b c (w64 (0 - ((gd4 a b c d : Nat) : Int))) 0 0 0 0) (Dimpl_meet3_0 n d a b c ((gd4 a b c d : Nat) : Int) 0 0 0 0) = _
    by_cases hneg : d < 0
    · rw [decide_eq_true hneg, frk_t, w64_id (by omega) (by omega)]
      exact fin _ (by unfold nsT; rw [if_pos hneg])
    · rw [decide_eq_false hneg, frk_f]
      exact fin _ (by unfold nsT; rw [if_neg hneg])
end Evl.T

/-! Ezv -/
namespace Evl.T
open Go Evl

def mnv (q : Spot) (t : Int) (l : List Pl) : Int := l.foldl (fun t p => minN t [sgn (at4 p q)]) t
theorem mn_sgn (t x : Int) : minN t [x] = if x < t then x else t := rfl
open Classical in
theorem mnv_val (q : Spot) : ∀ (l : List Pl) (t : Int), -1 ≤ t → t ≤ 1 → mnv q t l = if t < 0 ∨ ∃ r ∈ l, at4 r q < 0 then -1 else if t ≤ 0 ∨ ∃ r ∈ l, at4 r q = 0 then 0 else 1 := by
  intro l
  induction l with
  | nil =>
    intro t h1 h2
    show t = _
    by_cases h : t < 0
    · rw [if_pos (.inl h)]; omega
    · rw [if_neg (by simpa using (by omega : (0 : Int) ≤ t))]
      by_cases h' : t ≤ 0
      · rw [if_pos (.inl h')]; omega
      · rw [if_neg (by simpa using (by omega : (0 : Int) < t))]; omega
  | cons p l ih =>
    intro t h1 h2
    show mnv q (minN t [sgn (at4 p q)]) l = _
    have hs : sgn (at4 p q) = if at4 p q > 0 then 1 else if at4 p q < 0 then -1 else 0 := rfl
    have hm := mn_sgn t (sgn (at4 p q))
    generalize hv : minN t [sgn (at4 p q)] = v at *
    rw [ih v (by rw [hm, hs]; split <;> (try split) <;> (try split) <;> omega) (by rw [hm, hs]; split <;> (try split) <;> (try split) <;> omega)]
    have e1 : v < 0 ↔ t < 0 ∨ at4 p q < 0 := by rw [hm, hs]; split <;> (try split) <;> (try split) <;> omega
    have e2 : v ≤ 0 ↔ t ≤ 0 ∨ at4 p q ≤ 0 := by rw [hm, hs]; split <;> (try split) <;> (try split) <;> omega
    by_cases c1 : t < 0 ∨ ∃ r ∈ p :: l, at4 r q < 0
    · rw [if_pos c1, if_pos]
      rcases c1 with c | ⟨r, hr, c⟩
      · exact .inl (e1.2 (.inl c))
      · rcases List.mem_cons.1 hr with rfl | hr
        · exact .inl (e1.2 (.inr c))
        · exact .inr ⟨r, hr, c⟩
    · have c1' : ¬ (v < 0 ∨ ∃ r ∈ l, at4 r q < 0) := by
        rintro (c | ⟨r, hr, c⟩)
        · rcases e1.1 c with c | c
          · exact c1 (.inl c)
          · exact c1 (.inr ⟨p, List.mem_cons_self, c⟩)
        · exact c1 (.inr ⟨r, List.mem_cons_of_mem _ hr, c⟩)
      have hp : ¬ at4 p q < 0 := fun c => c1 (.inr ⟨p, List.mem_cons_self, c⟩)
      rw [if_neg c1, if_neg c1']
      by_cases c2 : t ≤ 0 ∨ ∃ r ∈ p :: l, at4 r q = 0
      · rw [if_pos c2, if_pos]
        rcases c2 with c | ⟨r, hr, c⟩
        · exact .inl (e2.2 (.inl c))
        · rcases List.mem_cons.1 hr with rfl | hr
          · exact .inl (e2.2 (.inr (by omega)))
          · exact .inr ⟨r, hr, c⟩
      · rw [if_neg c2, if_neg]
        rintro (c | ⟨r, hr, c⟩)
        · rcases e2.1 c with c | c
          · exact c2 (.inl c)
          · exact c2 (.inr ⟨p, List.mem_cons_self, by omega⟩)
        · exact c2 (.inr ⟨r, List.mem_cons_of_mem _ hr, c⟩)
theorem icStep (n : Nat) (l : List Pl) (t9 : Int) (x y z w : Int) (rec0 : (Int × Int) → Option Int) (t i : Int) :
    Dimpl_inCell_0 n l t9 x y z w rec0 (t, i) = frk (decide (i < t9)) ((lget l i).bind fun v0 => (Dimpl_sideAt v0 (Spot.mk x y z w)).bind fun v1 => rec0 (minN t [v1], w64 (i + 1))) (some t) := rfl
theorem icLoop (n : Nat) (l : List Pl) (q : Spot) (hl : ∀ p ∈ l, PB p) (hq : SpOk q) (hb : l.length ≤ big) : ∀ (k i m : Nat) (t : Int), i + k = l.length → k < m →
    loopN (Dimpl_inCell_0 n l (l.length : Int) q.X q.Y q.Z q.W) m (t, (i : Int)) = some (mnv q t (l.drop i)) := by
  intro k
  induction k with
  | zero =>
    intro i m t h hm
    obtain ⟨m, rfl⟩ : ∃ j, m = j + 1 := ⟨m - 1, by omega⟩
    rw [loop_suc, icStep, decide_eq_false (by omega), frk_f, List.drop_eq_nil_of_le (by omega)]; rfl
  | succ k ih =>
    intro i m t h hm
    obtain ⟨m, rfl⟩ : ∃ j, m = j + 1 := ⟨m - 1, by omega⟩
    have hi : i < l.length := by omega
    have hs := iSideR (hl l[i] (List.getElem_mem hi)) hq
    have hs' : Dimpl_sideAt l[i] (Spot.mk q.X q.Y q.Z q.W) = _ := hs
    rw [loop_suc, icStep, decide_eq_true (by omega), frk_t, lget_nat, List.getElem?_eq_getElem hi, Option.bind_some, hs', Option.bind_some, w64_suc (by omega), List.drop_eq_getElem_cons hi]
    exact ih (i + 1) m _ (by omega) (by omega)
end Evl.T

/-! Ezs -/
namespace Evl.T
open Go Evl

/-! loops that gather -/
theorem fold_len {β : Type} {op : List β → β → List β} (hop : ∀ a s, (op a s).length ≤ a.length + 1) : ∀ (L a : List β), (L.foldl op a).length ≤ a.length + L.length
  | [], a => Nat.le_refl _
  | s :: L, a => by
    have h1 := fold_len hop L (op a s)
    have h2 := hop a s
    rw [List.foldl_cons, List.length_cons]; omega
theorem fold_Q {β : Type} {op : List β → β → List β} {P : β → Prop} {Q : List β → Prop} (hQ : ∀ a s, Q a → P s → Q (op a s)) : ∀ (L a : List β), Q a → (∀ s ∈ L, P s) → Q (L.foldl op a)
  | [], a, h, _ => h
  | s :: L, a, h, hp => fold_Q hQ L (op a s) (hQ a s h (hp s List.mem_cons_self)) fun x hx => hp x (List.mem_cons_of_mem _ hx)
theorem loopG {β R : Type} {op : List β → β → List β} {P : β → Prop} {Q : List β → Prop} (hop : ∀ a s, (op a s).length ≤ a.length + 1) (hQ : ∀ a s, Q a → P s → Q (op a s))
    {F : ((Int × List β) → Option R) → (Int × List β) → Option R} {len c K : Nat} {g : Nat → List β} {done : List β → Option R} (hg : ∀ i, i < len → (g i).length ≤ c ∧ ∀ s ∈ g i, P s)
    (hs : ∀ rec i a, i < len → Q a → a.length + c ≤ K → F rec ((i : Int), a) = rec (((i + 1 : Nat) : Int), (g i).foldl op a)) (he : ∀ rec a, Q a → F rec ((len : Int), a) = done a) :
    ∀ (k i m : Nat) (a : List β), i + k = len → k < m → Q a → a.length + k * c ≤ K → loopN F m ((i : Int), a) = done (((List.range' i k).flatMap g).foldl op a) := by
  intro k
  induction k with
  | zero =>
    intro i m a hi hm hq _
    obtain ⟨m, rfl⟩ : ∃ j, m = j + 1 := ⟨m - 1, by omega⟩
    obtain rfl : i = len := by omega
    rw [loop_suc, he _ _ hq]; rfl
  | succ k ih =>
    intro i m a hi hm hq hK
    obtain ⟨m, rfl⟩ : ∃ j, m = j + 1 := ⟨m - 1, by omega⟩
    have hl : i < len := by omega
    rw [Nat.succ_mul] at hK
    have h1 := fold_len hop (g i) a
    have h2 := (hg i hl).1
    rw [loop_suc, hs _ i a hl hq (by omega), ih (i + 1) m _ (by omega) (by omega) (fold_Q hQ _ _ hq (hg i hl).2) (by omega), List.range'_succ, List.flatMap_cons, List.foldl_append]
theorem fold_app {β : Type} : ∀ (L a : List β), L.foldl (fun a s => a ++ [s]) a = a ++ L
  | [], a => by simp
  | s :: L, a => by rw [List.foldl_cons, fold_app L]; simp
theorem flat_le {β : Type} {g : Nat → List β} {c : Nat} : ∀ (k i : Nat), (∀ j, i ≤ j → j < i + k → (g j).length ≤ c) → ((List.range' i k).flatMap g).length ≤ k * c
  | 0, i, _ => by simp
  | k + 1, i, h => by
    have h1 := flat_le k (i + 1) fun j a b => h j (by omega) (by omega)
    have h2 := h i (by omega) (by omega)
    rw [List.range'_succ, List.flatMap_cons, List.length_append, Nat.succ_mul]; omega
theorem mem_flat {β : Type} {g : Nat → List β} {i k : Nat} {s : β} : s ∈ (List.range' i k).flatMap g ↔ ∃ j, i ≤ j ∧ j < i + k ∧ s ∈ g j := by
  rw [List.mem_flatMap]
  constructor
  · rintro ⟨j, hj, h⟩
    obtain ⟨h1, h2⟩ := List.mem_range'_1.1 hj
    exact ⟨j, h1, h2, h⟩
  · rintro ⟨j, h1, h2, h⟩
    exact ⟨j, List.mem_range'_1.2 ⟨h1, h2⟩, h⟩
theorem aC32 {n : Nat} (h : n ≤ 1000000) : apB 32 n = true := by
  unfold apB; simp only [Bool.and_eq_true, decide_eq_true_eq]; omega
/-! a spot in a cell -/
theorem sSideR {p : Pl} {q : Spot} (hp : PB p) (hq : SpOk q) : Dspec_l5Side p q = some (sgn (at4 p q)) := by
  unfold Dspec_l5Side; rw [sSign, Option.bind_some, at_w hp hq]
theorem s7Step (n : Nat) (l : List Pl) (x y z w : Int) (rec0 : (Int × Int) → Option Int) (t i : Int) :
    Dspec_l7In_0 n l x y z w rec0 (t, i) = frk (decide (i < (l.length : Int))) ((lget l i).bind fun v0 => (Dspec_l5Side v0 (Spot.mk x y z w)).bind fun v1 => frk (decide (v1 < t)) (rec0 (v1, w64 (i + 1))) (rec0 (t, w64 (i + 1)))) (some t) := rfl
theorem s7Loop (n : Nat) (l : List Pl) (q : Spot) (hl : ∀ p ∈ l, PB p) (hq : SpOk q) (hb : l.length ≤ big) : ∀ (k i m : Nat) (t : Int), i + k = l.length → k < m →
    loopN (Dspec_l7In_0 n l q.X q.Y q.Z q.W) m (t, (i : Int)) = some (mnv q t (l.drop i)) := by
  intro k
  induction k with
  | zero =>
    intro i m t h hm
    obtain ⟨m, rfl⟩ : ∃ j, m = j + 1 := ⟨m - 1, by omega⟩
    rw [loop_suc, s7Step, decide_eq_false (by omega), frk_f, List.drop_eq_nil_of_le (by omega)]; rfl
  | succ k ih =>
    intro i m t h hm
    obtain ⟨m, rfl⟩ : ∃ j, m = j + 1 := ⟨m - 1, by omega⟩
    have hi : i < l.length := by omega
    have hs := sSideR (hl l[i] (List.getElem_mem hi)) hq
    have hs' : Dspec_l5Side l[i] (Spot.mk q.X q.Y q.Z q.W) = _ := hs
    rw [loop_suc, s7Step, decide_eq_true (by omega), frk_t, lget_nat, List.getElem?_eq_getElem hi, Option.bind_some, hs', Option.bind_some, w64_suc (by omega), List.drop_eq_getElem_cons hi]
    have e : mnv q t (l[i] :: l.drop (i + 1)) = mnv q (minN t [sgn (at4 l[i] q)]) (l.drop (i + 1)) := rfl
    rw [e, mn_sgn]
    by_cases hc : sgn (at4 l[i] q) < t
    · rw [decide_eq_true hc, frk_t, if_pos hc]; exact ih (i + 1) m _ (by omega) (by omega)
    · rw [decide_eq_false hc, frk_f, if_neg hc]; exact ih (i + 1) m _ (by omega) (by omega)
theorem s7In {l : List Pl} {q : Spot} (hl : ∀ p ∈ l, PB p) (hq : SpOk q) (hb : l.length ≤ 1000) : ∀ n, 2000 ≤ n → Dspec_l7In n l q = some (mnv q 1 l) := fun n hn =>
  s7Loop n l q hl hq (by unfold big; omega) l.length 0 n 1 (by omega) (by omega)
theorem i7In {l : List Pl} {q : Spot} (hl : ∀ p ∈ l, PB p) (hq : SpOk q) (hb : l.length ≤ 1000) : ∀ n, 2000 ≤ n → Dimpl_inCell n l q = some (mnv q 1 l) := fun n hn =>
  icLoop n l q hl hq (by unfold big; omega) l.length 0 n 1 (by omega) (by omega)
/-! corners -/
/-- A spot that is a cell's. -/
def cc (l : List Pl) (o : Option Spot) : List Spot := match o with
  | some s => if mnv s 1 l ≥ 0 then [s] else []
  | none => []
theorem cc_len (l : List Pl) (o : Option Spot) : (cc l o).length ≤ 1 := by
  unfold cc; split
  · split <;> simp
  · simp
theorem cc_ok {l : List Pl} {p q r : Pl} (hp : PB p) (hq : PB q) (hr : PB r) : ∀ s ∈ cc l (mt p q r), SpOk s := fun s hs => by
  unfold cc at hs
  split at hs
  · rename_i x hx
    split at hs
    · rw [List.mem_singleton.1 hs]; exact mt_ok hp hq hr hx
    · simp at hs
  · simp at hs
/-! the program's -/
def app1 (a : List Spot) (s : Spot) : List Spot := a ++ [s]
theorem app1_len (a : List Spot) (s : Spot) : (app1 a s).length ≤ a.length + 1 := by unfold app1; simp
def gI3 (l : List Pl) (p q : Pl) (k : Nat) : List Spot := cc l (mt p q (gt l k))
def gI2 (l : List Pl) (p : Pl) (j : Nat) : List Spot := (List.range' 0 j).flatMap (gI3 l p (gt l j))
def gI1 (l : List Pl) (i : Nat) : List Spot := (List.range' 0 i).flatMap (gI2 l (gt l i))
def CI (l : List Pl) : List Spot := (List.range' 0 l.length).flatMap (gI1 l)
theorem ic1Step (n : Nat) (rec1 rec0 : (Int × List Spot) → Option (List Spot)) (t14 : Int) (t21 : List Pl) (t22 : Int) (p : Pl) (t0 t12 : List Pl) (t13 t23 : Int) (t30 : List Pl) (t31 : Int) (q : Pl) (rec2 : (Int × List Spot) → Option (List Spot)) (i : Int) (a : List Spot) :
    Dimpl_corners_1 n rec1 rec0 t14 t21 t22 p.A p.B p.C p.D t0 t12 t13 t23 t30 t31 q.A q.B q.C q.D rec2 (i, a) = frk (decide (i < t31)) ((lget t30 i).bind fun v4 => (Dimpl_meet3 n p q v4).bind fun v5 => frk v5.2 ((Dimpl_inCell n t0 v5.1).bind fun v6 => frk (decide (v6 ≥ 0)) (chk (apB 32 (a.length + 1)) (rec2 (w64 (i + 1), (a ++ [v5.1])))) (rec2 (w64 (i + 1), a))) (rec2 (w64 (i + 1), a))) (rec1 (w64 (t23 + 1), a)) := rfl
theorem ic2Step (n : Nat) (rec0 : (Int × List Spot) → Option (List Spot)) (t0 t12 : List Pl) (t13 t14 : Int) (t21 : List Pl) (t22 : Int) (p : Pl) (rec1 : (Int × List Spot) → Option (List Spot)) (i : Int) (a : List Spot) :
    Dimpl_corners_2 n rec0 t0 t12 t13 t14 t21 t22 p.A p.B p.C p.D rec1 (i, a) = frk (decide (i < t22)) ((lget t21 i).bind fun v2 => (lsl t0 0 i).bind fun v3 => loopN (Dimpl_corners_1 n rec1 rec0 t14 t21 t22 p.A p.B p.C p.D t0 t12 t13 i v3 (v3.length : Int) v2.A v2.B v2.C v2.D) n (0, a)) (rec0 (w64 (t14 + 1), a)) := rfl
theorem ic3Step (n : Nat) (t0 t12 : List Pl) (t13 : Int) (rec0 : (Int × List Spot) → Option (List Spot)) (i : Int) (a : List Spot) :
    Dimpl_corners_5 n t0 t12 t13 rec0 (i, a) = frk (decide (i < t13)) ((lget t12 i).bind fun v0 => (lsl t0 0 i).bind fun v1 => loopN (Dimpl_corners_2 n rec0 t0 t12 t13 i v1 (v1.length : Int) v0.A v0.B v0.C v0.D) n (0, a)) (Dimpl_corners_3 n a) := rfl
theorem gt_takeC {l : List Pl} {j k : Nat} (h : k < j) (hj : j ≤ l.length) : (l.take j)[k]? = some (gt l k) := by
  rw [List.getElem?_take_of_lt h]; exact gt_some (by omega)
theorem iCorners1 {l : List Pl} (hl : ∀ p ∈ l, PB p) (hb : l.length ≤ 24) (n : Nat) (hn : 1000000001 ≤ n) (rec1 rec0 : (Int × List Spot) → Option (List Spot)) (t14 : Int) (t21 : List Pl) (t22 : Int) {p q : Pl} (hp : PB p) (hq : PB q) (t12 : List Pl) (t13 : Int) (j : Nat) (hj : j < l.length) (a : List Spot) (ha : a.length + 24 ≤ 100000) :
    loopN (Dimpl_corners_1 n rec1 rec0 t14 t21 t22 p.A p.B p.C p.D l t12 t13 (j : Int) (l.take j) ((l.take j).length : Int) q.A q.B q.C q.D) n (0, a) = rec1 (((j + 1 : Nat) : Int), ((List.range' 0 j).flatMap (gI3 l p q)).foldl app1 a) := by
  have hlen : (l.take j).length = j := by rw [List.length_take]; omega
  refine loopG (op := app1) (P := fun _ => True) (Q := fun _ => True) (c := 1) (K := 100000) (done := fun a => rec1 (((j + 1 : Nat) : Int), a)) app1_len (fun _ _ _ _ => trivial) (len := j) (g := gI3 l p q) (fun i hi => ⟨cc_len _ _, fun _ _ => trivial⟩) (fun rec i a hi _ hK => ?_) (fun rec a _ => ?_) j 0 n a (by omega) (by omega) trivial (by omega)
  · have hr := hl _ (gt_mem (l := l) (i := i) (by omega))
    rw [ic1Step, hlen, decide_eq_true (by omega), frk_t, lget_nat, gt_takeC hi (by omega), Option.bind_some, iMeet hp hq hr n hn, Option.bind_some, w64_suc (by unfold big; omega)]
    unfold gI3 cc
    cases hm : mt p q (gt l i) with
    | none => rfl
    | some s =>
      have hs := mt_ok hp hq hr hm
      show frk true ((Dimpl_inCell n l s).bind _) _ = _
      rw [frk_t, i7In hl hs (by omega) n (by omega), Option.bind_some]
      dsimp only
      by_cases hc : mnv s 1 l ≥ 0
      · rw [decide_eq_true hc, frk_t, chk_eq (aC32 (by omega)), if_pos hc]; rfl
      · rw [decide_eq_false hc, frk_f, if_neg hc]; rfl
  · rw [ic1Step, hlen, decide_eq_false (by omega), frk_f, w64_suc (by unfold big; omega)]
theorem gI2_len {l : List Pl} {p : Pl} {j : Nat} (hj : j < 24) : (gI2 l p j).length ≤ 24 := by
  have := flat_le (g := gI3 l p (gt l j)) (c := 1) j 0 fun _ _ _ => cc_len _ _
  unfold gI2; omega
theorem iCorners2 {l : List Pl} (hl : ∀ p ∈ l, PB p) (hb : l.length ≤ 24) (n : Nat) (hn : 1000000001 ≤ n) (rec0 : (Int × List Spot) → Option (List Spot)) {p : Pl} (hp : PB p) (t12 : List Pl) (t13 : Int) (i : Nat) (hi : i < l.length) (a : List Spot) (ha : a.length + 576 ≤ 100000) :
    loopN (Dimpl_corners_2 n rec0 l t12 t13 (i : Int) (l.take i) ((l.take i).length : Int) p.A p.B p.C p.D) n (0, a) = rec0 (((i + 1 : Nat) : Int), ((List.range' 0 i).flatMap (gI2 l p)).foldl app1 a) := by
  have hlen : (l.take i).length = i := by rw [List.length_take]; omega
  refine loopG (op := app1) (P := fun _ => True) (Q := fun _ => True) (c := 24) (K := 100000) (done := fun a => rec0 (((i + 1 : Nat) : Int), a)) app1_len (fun _ _ _ _ => trivial) (len := i) (g := gI2 l p) (fun j hj => ⟨gI2_len (by omega), fun _ _ => trivial⟩) (fun rec j a hj _ hK => ?_) (fun rec a _ => ?_) i 0 n a (by omega) (by omega) trivial (by omega)
  · have hr := hl _ (gt_mem (l := l) (i := j) (by omega))
    rw [ic2Step, hlen, decide_eq_true (by omega), frk_t, lget_nat, gt_takeC hj (by omega), Option.bind_some, lsl_take l j (by omega), Option.bind_some]
    exact iCorners1 hl hb n hn rec rec0 _ _ _ hp hr _ _ j (by omega) a (by omega)
  · rw [ic2Step, hlen, decide_eq_false (by omega), frk_f, w64_suc (by unfold big; omega)]
theorem gI1_len {l : List Pl} {i : Nat} (hi : i < 24) : (gI1 l i).length ≤ 576 := by
  have := flat_le (g := gI2 l (gt l i)) (c := 24) i 0 fun j _ h => gI2_len (by omega)
  unfold gI1; omega
theorem iCornersL {l : List Pl} (hl : ∀ p ∈ l, PB p) (hb : l.length ≤ 24) (n : Nat) (hn : 1000000001 ≤ n) : Dimpl_corners n l = Dimpl_corners_3 n (CI l) := by
  unfold Dimpl_corners CI
  have := loopG (F := Dimpl_corners_5 n l l (l.length : Int)) (op := app1) (P := fun _ => True) (Q := fun _ => True) (c := 576) (K := 100000) (done := fun a => Dimpl_corners_3 n a) app1_len (fun _ _ _ _ => trivial) (len := l.length) (g := gI1 l) (fun j hj => ⟨gI1_len (by omega), fun _ _ => trivial⟩) (fun rec i a hi _ hK => by
    have hr := hl _ (gt_mem (l := l) (i := i) hi)
    rw [ic3Step, decide_eq_true (by omega), frk_t, lget_nat, gt_some hi, Option.bind_some, lsl_take l i (by omega), Option.bind_some]
    exact iCorners2 hl hb n hn rec hr _ _ i hi a (by omega)) (fun rec a _ => by rw [ic3Step, decide_eq_false (by omega), frk_f]) l.length 0 n [] (by omega) (by omega) trivial (by simp; omega)
  rw [show (0 : Int) = ((0 : Nat) : Int) from rfl, this]
  congr 1
  exact (fold_app _ []).trans (List.nil_append _)
theorem CI_len {l : List Pl} (hb : l.length ≤ 24) : (CI l).length ≤ 13824 := by
  have := flat_le (g := gI1 l) (c := 576) l.length 0 fun j _ h => gI1_len (by omega)
  unfold CI; omega
/-- A corner: of three planes, in the cell. -/
def Cor (l : List Pl) (s : Spot) : Prop := ∃ i j k, i < j ∧ j < k ∧ k < l.length ∧ s ∈ cc l (mt (gt l i) (gt l j) (gt l k))
theorem mem_CI {l : List Pl} {s : Spot} : s ∈ CI l ↔ Cor l s := by
  unfold CI Cor
  rw [mem_flat]
  constructor
  · rintro ⟨i, -, hi, h⟩
    unfold gI1 at h; rw [mem_flat] at h
    obtain ⟨j, -, hj, h⟩ := h
    unfold gI2 at h; rw [mem_flat] at h
    obtain ⟨k, -, hk, h⟩ := h
    unfold gI3 at h
    exact ⟨k, j, i, by omega, by omega, by omega, by rw [mt_rev]; exact h⟩
  · rintro ⟨k, j, i, h1, h2, h3, h⟩
    refine ⟨i, by omega, by omega, ?_⟩
    unfold gI1; rw [mem_flat]
    refine ⟨j, by omega, by omega, ?_⟩
    unfold gI2; rw [mem_flat]
    exact ⟨k, by omega, by omega, by unfold gI3; rw [mt_rev]; exact h⟩
theorem Cor.ok {l : List Pl} (hl : ∀ p ∈ l, PB p) {s : Spot} (h : Cor l s) : SpOk s := by
  obtain ⟨i, j, k, h1, h2, h3, h⟩ := h
  exact cc_ok (hl _ (gt_mem (by omega))) (hl _ (gt_mem (by omega))) (hl _ (gt_mem (by omega))) s h
end Evl.T

/-! Ezw -/
namespace Evl.T
open Go Evl

/-! what is kept once -/
theorem mem_once {α : Type} [Inhabited α] [DecidableEq α] (l : List α) (x : α) : x ∈ once l ↔ x ∈ l := by
  unfold once Go.Lib.compactUpTo
  rw [List.mem_map]
  have hg : ∀ j, (h : j < l.length) → l.toArray[j]! = l[j] := fun j h => by simp [h]
  constructor
  · rintro ⟨j, hj, rfl⟩
    have hl : j < l.length := List.mem_range.1 (List.mem_filter.1 hj).1
    rw [hg j hl]
    exact List.getElem_mem hl
  · intro hx
    obtain ⟨j, hj, e⟩ := List.getElem_of_mem hx
    have key : ∀ j, (h : j < l.length) → l[j] = x → ∃ i, i ∈ (List.range l.length).filter (Go.Lib.keeps l.toArray) ∧ l.toArray[i]! = x := by
      intro j
      induction j with
      | zero => intro h e; exact ⟨0, List.mem_filter.2 ⟨List.mem_range.2 h, by simp [Go.Lib.keeps]⟩, by rw [hg 0 h, e]⟩
      | succ j ih =>
        intro h e
        by_cases hk : l[j] = x
        · exact ih (by omega) hk
        · refine ⟨j + 1, List.mem_filter.2 ⟨List.mem_range.2 h, ?_⟩, by rw [hg _ h, e]⟩
          unfold Go.Lib.keeps
          rw [decide_eq_true_iff]
          refine .inr ?_
          rw [hg _ h, show j + 1 - 1 = j from rfl, hg j (by omega), e]
          exact fun h => hk h.symm
    exact key j hj e
theorem once_nodup {α : Type} [Inhabited α] [DecidableEq α] {le : α → α → Prop} {l : List α} (ha : ∀ a ∈ l, ∀ b ∈ l, le a b → le b a → a = b) (h : l.Pairwise le) : (once l).Nodup := by
  unfold once Go.Lib.compactUpTo
  have hg : ∀ j, (h : j < l.length) → l.toArray[j]! = l[j] := fun j h => by simp [h]
  rw [List.pairwise_iff_getElem] at h
  rw [List.Nodup, List.pairwise_map]
  refine List.Pairwise.imp_of_mem ?_ (List.pairwise_lt_range.filter (Go.Lib.keeps l.toArray))
  intro i j hi hj hlt e
  have hjl : j < l.length := List.mem_range.1 (List.mem_filter.1 hj).1
  have hil : i < l.length := List.mem_range.1 (List.mem_filter.1 hi).1
  have hk := (List.mem_filter.1 hj).2
  unfold Go.Lib.keeps at hk
  rw [decide_eq_true_iff] at hk
  rcases hk with rfl | hk
  · omega
  · rw [hg j hjl, hg (j - 1) (by omega)] at hk
    rw [hg i hil, hg j hjl] at e
    by_cases h1 : i = j - 1
    · subst h1; exact hk e.symm
    · have e1 := h i (j - 1) hil (by omega) (by omega)
      have e2 := h (j - 1) j (by omega) hjl (by omega)
      rw [← e] at e2
      have := ha _ (List.getElem_mem hil) _ (List.getElem_mem (show j - 1 < l.length by omega)) e1 e2
      exact hk (by rw [← e, this])
end Evl.T

/-! Ezt -/
namespace Evl.T
open Go Evl

theorem spG_of {q : Spot} (h : SpOk q) : SpG q := by
  refine ⟨h.w, h.x, h.y, h.z, ?_⟩
  have := h.g
  rw [Nat.gcd_assoc (Nat.gcd q.X.natAbs q.Y.natAbs)] at this
  exact this
theorem ltS_tr {x y z : Spot} (hx : SpOk x) (hy : SpOk y) (hz : SpOk z) (h1 : ltS x y) (h2 : ltS y z) : ltS x z := ltS_trans (x := ⟨x, spG_of hx⟩) (y := ⟨y, spG_of hy⟩) (z := ⟨z, spG_of hz⟩) h1 h2
theorem ltS_irr {x : Spot} (h : ltS x x) : False := by unfold ltS at h; omega
theorem ltS_tot {x y : Spot} (hx : SpOk x) (hy : SpOk y) (h1 : ¬ ltS x y) (h2 : ¬ ltS y x) : x = y := by
  unfold ltS at h1 h2
  exact sp_same (spG_of hx) (spG_of hy) (by omega) (by omega) (by omega)
/-! the program's: sorted, each once -/
theorem srtS {L : List Spot} (hL : ∀ s ∈ L, SpOk s) (hn : L.length ≤ 1000000) : ∃ M, DsrtSpot L = some M ∧ M.length = L.length ∧ (∀ s, s ∈ M ↔ s ∈ L) ∧ M.Pairwise (fun a b => ¬ ltS b a) := by
  have hG : ∀ s ∈ L, SpG s := fun s hs => spG_of (hL s hs)
  have hl : L.length < lim62 := by unfold lim62; omega
  have e : (L.pmap Subtype.mk hG).map (fun x : Spt => x.1) = L := by rw [List.map_pmap]; simp
  refine ⟨_, dif_pos ⟨hG, hl⟩, by rw [List.length_map, List.length_mergeSort, List.length_pmap], fun s => ?_, ?_⟩
  · have hp := (List.mergeSort_perm (L.pmap Subtype.mk hG) fun x y => !(Go.Proofs.ltOf cmpSt) y x).map (fun x : Spt => x.1)
    rw [e] at hp
    exact hp.mem_iff
  · rw [List.pairwise_map]
    refine (List.pairwise_mergeSort (le := fun x y : Spt => !(Go.Proofs.ltOf cmpSt) y x) (fun a b c h1 h2 => ?_) (fun a b => ?_) _).imp fun {a b} h => ?_
    · simp only [Bool.not_eq_true'] at h1 h2 ⊢
      rw [Bool.eq_false_iff, ne_eq, cmpS_lt, not_ltS] at *
      exact geS_trans h2 h1
    · rw [Bool.or_eq_true, Bool.not_eq_true', Bool.not_eq_true']
      rw [Bool.eq_false_iff, Bool.eq_false_iff, ne_eq, ne_eq, cmpS_lt, cmpS_lt]
      unfold ltS; omega
    · simp only [Bool.not_eq_true'] at h
      rw [Bool.eq_false_iff, ne_eq, cmpS_lt] at h
      exact h
theorem iCorners {l : List Pl} (hl : ∀ p ∈ l, PB p) (hb : l.length ≤ 24) : ∃ M, (∀ s, s ∈ M ↔ Cor l s) ∧ M.Nodup ∧ M.length ≤ 13824 ∧ ∀ n, 1000000001 ≤ n → Dimpl_corners n l = some M := by
  have hok : ∀ s ∈ CI l, SpOk s := fun s hs => (mem_CI.1 hs).ok hl
  have hlen := CI_len hb
  obtain ⟨M, e1, e2, e3, e4⟩ := srtS hok (by omega)
  have hM : ∀ s ∈ M, SpOk s := fun s hs => hok s ((e3 s).1 hs)
  refine ⟨once M, fun s => by rw [mem_once, e3, mem_CI], once_nodup (fun a ha b hb h1 h2 => ltS_tot (hM a ha) (hM b hb) h2 h1) e4, by have := once_len M; omega, fun n hn => ?_⟩
  rw [iCornersL hl hb n hn]
  unfold Dimpl_corners_3 Dimpl_corners_4 DcutSpot
  rw [e1, Option.bind_some, if_pos (by unfold lim62; omega)]; rfl
/-! the reference's: put in order -/
instance decLtS (s t : Spot) : Decidable (ltS s t) := by unfold ltS; exact inferInstance
def spt (l : List Spot) (i : Nat) : Spot := (l[i]?).getD ⟨0, 0, 0, 0⟩
theorem spt_some {l : List Spot} {i : Nat} (h : i < l.length) : l[i]? = some (spt l i) := by unfold spt; rw [List.getElem?_eq_getElem h]; rfl
theorem spt_mem {l : List Spot} {i : Nat} (h : i < l.length) : spt l i ∈ l := by unfold spt; rw [List.getElem?_eq_getElem h]; exact List.getElem_mem h
def insK (l : List Spot) (s : Spot) : Nat → List Spot
  | 0 => (l.take 0 ++ [s]) ++ l.drop 0
  | k + 1 => if ltS (spt l k) s then (l.take (k + 1) ++ [s]) ++ l.drop (k + 1) else if spt l k = s then l else insK l s k
def ins (l : List Spot) (s : Spot) : List Spot := insK l s l.length
structure Srt (l : List Spot) : Prop where
  ok : ∀ s ∈ l, SpOk s
  lt : l.Pairwise ltS
theorem ins_at {l : List Spot} {s : Spot} (h : Srt l) (hs : SpOk s) {k : Nat} (hk : k ≤ l.length) (h1 : ∀ i, i < k → ltS (spt l i) s) (h2 : ∀ i, k ≤ i → i < l.length → ltS s (spt l i)) :
    Srt ((l.take k ++ [s]) ++ l.drop k) ∧ (∀ x, x ∈ (l.take k ++ [s]) ++ l.drop k ↔ x ∈ l ∨ x = s) ∧ ((l.take k ++ [s]) ++ l.drop k).length = l.length + 1 := by
  have hm : ∀ x, x ∈ (l.take k ++ [s]) ++ l.drop k ↔ x ∈ l ∨ x = s := fun x => by
    rw [List.mem_append, List.mem_append, List.mem_singleton]
    have : x ∈ l ↔ x ∈ l.take k ∨ x ∈ l.drop k := by rw [← List.mem_append, List.take_append_drop]
    rw [this]; exact ⟨fun h => by rcases h with (h | h) | h; exact .inl (.inl h); exact .inr h; exact .inl (.inr h), fun h => by rcases h with (h | h) | h; exact .inl (.inl h); exact .inr h; exact .inl (.inr h)⟩
  have ht : ∀ x ∈ l.take k, ltS x s := fun x hx => by
    obtain ⟨i, hi, e⟩ := List.getElem_of_mem hx
    rw [List.length_take] at hi
    have := h1 i (by omega)
    rw [List.getElem_take] at e
    rw [show spt l i = x by unfold spt; rw [List.getElem?_eq_getElem (by omega)]; exact e] at this
    exact this
  have hd : ∀ x ∈ l.drop k, ltS s x := fun x hx => by
    obtain ⟨i, hi, e⟩ := List.getElem_of_mem hx
    rw [List.length_drop] at hi
    have := h2 (k + i) (by omega) (by omega)
    rw [List.getElem_drop] at e
    rw [show spt l (k + i) = x by unfold spt; rw [List.getElem?_eq_getElem (by omega)]; exact e] at this
    exact this
  refine ⟨⟨fun x hx => ?_, ?_⟩, hm, by simp only [List.length_append, List.length_take, List.length_drop, List.length_singleton]; omega⟩
  · rcases (hm x).1 hx with hx | rfl
    · exact h.ok x hx
    · exact hs
  · have hp := h.lt
    rw [← List.take_append_drop k l] at hp
    obtain ⟨p1, p2, p3⟩ := List.pairwise_append.1 hp
    rw [List.pairwise_append, List.pairwise_append]
    refine ⟨⟨p1, List.pairwise_singleton _ _, fun a ha b hb => by rw [List.mem_singleton.1 hb]; exact ht a ha⟩, p2, fun a ha b hb => ?_⟩
    rcases List.mem_append.1 ha with ha | ha
    · exact p3 a ha b hb
    · rw [List.mem_singleton.1 ha]; exact hd b hb
theorem insK_ok {l : List Spot} {s : Spot} (h : Srt l) (hs : SpOk s) : ∀ k, k ≤ l.length → (∀ i, k ≤ i → i < l.length → ltS s (spt l i)) → Srt (insK l s k) ∧ (∀ x, x ∈ insK l s k ↔ x ∈ l ∨ x = s) ∧ (insK l s k).length ≤ l.length + 1 := by
  intro k
  induction k with
  | zero =>
    intro hk h2
    obtain ⟨g1, g2, g3⟩ := ins_at h hs hk (fun i hi => by omega) h2
    exact ⟨g1, g2, Nat.le_of_eq g3⟩
  | succ k ih =>
    intro hk h2
    have hp := List.pairwise_iff_getElem.1 h.lt
    have ge : ∀ i, (hi : i < l.length) → spt l i = l[i] := fun i hi => by unfold spt; rw [List.getElem?_eq_getElem hi]; rfl
    unfold insK
    by_cases hc : ltS (spt l k) s
    · rw [if_pos hc]
      obtain ⟨g1, g2, g3⟩ := ins_at h hs hk (fun i hi => by
        by_cases e : i = k
        · subst e; exact hc
        · refine ltS_tr (h.ok _ (spt_mem (by omega))) (h.ok _ (spt_mem (by omega))) hs ?_ hc
          rw [ge i (by omega), ge k (by omega)]
          exact hp i k (by omega) (by omega) (by omega)) h2
      exact ⟨g1, g2, Nat.le_of_eq g3⟩
    · rw [if_neg hc]
      by_cases he : spt l k = s
      · rw [if_pos he]
        refine ⟨h, fun x => ⟨.inl, fun hx => ?_⟩, Nat.le_succ _⟩
        rcases hx with hx | rfl
        · exact hx
        · rw [← he]; exact spt_mem (by omega)
      · rw [if_neg he]
        refine ih (by omega) fun i hi hl => ?_
        by_cases e : i = k
        · subst e
          apply Classical.byContradiction
          intro hn
          exact he (ltS_tot (h.ok _ (spt_mem (by omega))) hs hc hn)
        · exact h2 i (by omega) hl
theorem ins_ok {l : List Spot} {s : Spot} (h : Srt l) (hs : SpOk s) : Srt (ins l s) ∧ (∀ x, x ∈ ins l s ↔ x ∈ l ∨ x = s) ∧ (ins l s).length ≤ l.length + 1 := insK_ok h hs l.length (Nat.le_refl _) fun i h1 h2 => by omega
theorem ins_len (l : List Spot) (s : Spot) : (ins l s).length ≤ l.length + 1 := by
  have : ∀ k, k ≤ l.length → (insK l s k).length ≤ l.length + 1 := by
    intro k
    induction k with
    | zero => intro _; unfold insK; simp
    | succ k ih =>
      intro hk
      unfold insK
      split
      · simp only [List.length_append, List.length_take, List.length_drop, List.length_singleton]; omega
      · split
        · omega
        · exact ih (by omega)
  exact this _ (Nat.le_refl _)
theorem fold_ins : ∀ (L a : List Spot), Srt a → (∀ s ∈ L, SpOk s) → Srt (L.foldl ins a) ∧ ∀ x, x ∈ L.foldl ins a ↔ x ∈ a ∨ x ∈ L
  | [], a, h, _ => ⟨h, fun x => by simp⟩
  | s :: L, a, h, hL => by
    obtain ⟨g1, g2, -⟩ := ins_ok h (hL s List.mem_cons_self)
    obtain ⟨k1, k2⟩ := fold_ins L (ins a s) g1 fun x hx => hL x (List.mem_cons_of_mem _ hx)
    rw [List.foldl_cons]
    refine ⟨k1, fun x => ?_⟩
    rw [k2, g2, List.mem_cons]
    exact ⟨fun h => by rcases h with (h | h) | h; exact .inl h; exact .inr (.inl h); exact .inr (.inr h), fun h => by rcases h with h | h | h; exact .inl (.inl h); exact .inl (.inr h); exact .inr h⟩
theorem Srt.nodup {l : List Spot} (h : Srt l) : l.Nodup := h.lt.imp fun {a b} hab e => by subst e; exact ltS_irr hab
theorem sIn' {x a b : Int} (h : a ≤ x ∧ x ≤ b) : Dspec_l1In x a b = some true := by
  unfold Dspec_l1In
  rw [decide_eq_true (by omega), frk_t, decide_eq_true (by omega)]
theorem sSpOk {n : Nat} {q : Spot} (h : SpOk q) (hn : 1000000001 ≤ n) : Dspec_SpotOk n q = some true := by
  obtain ⟨hw, hx, hy, hz, hg⟩ := h
  have u : ∀ {x : Int}, x.natAbs ≤ 1000000000 → B 9223372036854775807 x := fun h => by unfold B; omega
  have hxy := gcd_bdC hx hy
  have hzw := gcd_bdC hz (show q.W.natAbs ≤ 1000000000 by omega)
  have g3 := sGcd n ((Nat.gcd q.X.natAbs q.Y.natAbs : Nat) : Int) ((Nat.gcd q.Z.natAbs q.W.natAbs : Nat) : Int) (by unfold B; omega) (by unfold B; omega) (by omega)
  simp only [Int.natAbs_natCast] at g3
  rw [← Nat.gcd_assoc, hg] at g3
  unfold Dspec_SpotOk
  rw [sIn' hw, Option.bind_some, frk_t, sIn' (by omega), Option.bind_some, frk_t, sIn' (by omega), Option.bind_some, frk_t, sIn' (by omega), Option.bind_some, frk_t, sGcd n _ _ (u hx) (u hy) (by omega), Option.bind_some, sGcd n _ _ (u hz) (u (by omega)) (by omega), Option.bind_some, g3]
  rfl
theorem sCmp {n : Nat} {a b : Spot} (ha : SpOk a) (hb : SpOk b) (hn : 1000000001 ≤ n) : ∃ v, Dspec_CmpSpot n a b = some v ∧ (v ≥ 0 ↔ ¬ ltS a b) := by
  have r1 : Dspec_l5Right n a = some a := by unfold Dspec_l5Right; rw [sSpOk ha hn]; rfl
  have r2 : Dspec_l5Right n b = some b := by unfold Dspec_l5Right; rw [sSpOk hb hn]; rfl
  have wa : a.W.natAbs ≤ 1000000000 := by have := ha.w; omega
  have wb : b.W.natAbs ≤ 1000000000 := by have := hb.w; omega
  have ci : ∀ x y : Int, Dspec_l3CmpInt x y = some (cmpI x y) := fun x y => by
    unfold Dspec_l3CmpInt cmpI
    by_cases h1 : x < y
    · rw [decide_eq_true h1, frk_t, if_pos h1]
    · rw [decide_eq_false h1, frk_f, if_neg h1]
      by_cases h2 : x > y
      · rw [decide_eq_true h2, frk_t, if_pos h2]
      · rw [decide_eq_false h2, frk_f, if_neg h2]
  unfold Dspec_CmpSpot ltS
  rw [r1, r2, Option.bind_some, Option.bind_some, w64m ha.x wb, w64m hb.x wa, w64m ha.y wb, w64m hb.y wa, w64m ha.z wb, w64m hb.z wa, ci, ci, ci]
  have cl := cmpI_lt
  by_cases h1 : a.X * b.W = b.X * a.W
  · rw [show (a.X * b.W != b.X * a.W) = false by simpa using h1, frk_f]
    by_cases h2 : a.Y * b.W = b.Y * a.W
    · rw [show (a.Y * b.W != b.Y * a.W) = false by simpa using h2, frk_f]
      by_cases h3 : a.Z * b.W = b.Z * a.W
      · rw [show (a.Z * b.W != b.Z * a.W) = false by simpa using h3, frk_f]
        exact ⟨0, rfl, by omega⟩
      · rw [show (a.Z * b.W != b.Z * a.W) = true by simpa using h3, frk_t]
        exact ⟨_, rfl, by have := cl (a.Z * b.W) (b.Z * a.W); omega⟩
    · rw [show (a.Y * b.W != b.Y * a.W) = true by simpa using h2, frk_t]
      exact ⟨_, rfl, by have := cl (a.Y * b.W) (b.Y * a.W); omega⟩
  · rw [show (a.X * b.W != b.X * a.W) = true by simpa using h1, frk_t]
    exact ⟨_, rfl, by have := cl (a.X * b.W) (b.X * a.W); omega⟩
theorem lsl_drop {α : Type} (l : List α) (k : Nat) (h : k ≤ l.length) : lsl l (k : Int) (l.length : Int) = some (l.drop k) := by
  unfold lsl
  rw [if_pos ⟨by omega, by omega, by omega⟩]
  congr 1
  rw [Int.toNat_natCast, Int.toNat_natCast, List.take_of_length_le (by rw [List.length_drop]; omega)]
theorem sPutStep (n : Nat) (s : Spot) (rec0 : (Int × List Spot) → Option (List Spot)) (k : Int) (l : List Spot) :
    Dspec_l7Puto0_2 n s.X s.Y s.Z s.W rec0 (k, l) = frk (decide (k > 0)) ((lget l (w64 (k - 1))).bind fun v0 => (Dspec_CmpSpot n v0 s).bind fun v1 => frk (decide (v1 ≥ 0)) ((lget l (w64 (k - 1))).bind fun v2 => frk (v2.X == s.X && (v2.Y == s.Y && (v2.Z == s.Z && (v2.W == s.W && true)))) (some l) (rec0 (w64 (k - 1), l))) (Dspec_l7Puto0_1 n k s.X s.Y s.Z s.W l)) (Dspec_l7Puto0_1 n k s.X s.Y s.Z s.W l) := rfl
theorem sPut1 (n : Nat) (s : Spot) (l : List Spot) (hl : l.length ≤ 100000) (k : Nat) (hk : k ≤ l.length) : Dspec_l7Puto0_1 n (k : Int) s.X s.Y s.Z s.W l = some ((l.take k ++ [s]) ++ l.drop k) := by
  unfold Dspec_l7Puto0_1
  rw [lsl_take l k hk, Option.bind_some, chk_eq (aC32 (by rw [List.length_take]; omega)), chk_eq (aC32 (by rw [List.nil_append, List.length_take]; omega)), lsl_drop l k hk, Option.bind_some, chk_eq (aC32 (by simp only [List.nil_append, List.length_append, List.length_take, List.length_drop, List.length_singleton]; omega)), List.nil_append]
theorem sp_eq (a s : Spot) : (a.X == s.X && (a.Y == s.Y && (a.Z == s.Z && (a.W == s.W && true)))) = decide (a = s) := by
  cases a; cases s
  rw [Bool.eq_iff_iff, decide_eq_true_iff]
  simp
theorem sPutL {n : Nat} (hn : 1000000001 ≤ n) {l : List Spot} (h : Srt l) {s : Spot} (hs : SpOk s) (hl : l.length ≤ 100000) : ∀ (k m : Nat), k ≤ l.length → k < m → loopN (Dspec_l7Puto0_2 n s.X s.Y s.Z s.W) m ((k : Int), l) = some (insK l s k) := by
  intro k
  induction k with
  | zero =>
    intro m hk hm
    obtain ⟨m, rfl⟩ : ∃ j, m = j + 1 := ⟨m - 1, by omega⟩
    rw [loop_suc, sPutStep, decide_eq_false (by omega), frk_f, sPut1 n s l hl 0 (by omega)]; rfl
  | succ k ih =>
    intro m hk hm
    obtain ⟨m, rfl⟩ : ∃ j, m = j + 1 := ⟨m - 1, by omega⟩
    have hw : w64 (((k + 1 : Nat) : Int) - 1) = (k : Int) := by rw [w64_id (by omega) (by omega)]; omega
    obtain ⟨v, e1, e2⟩ := sCmp (h.ok _ (spt_mem (l := l) (i := k) (by omega))) hs hn
    rw [loop_suc, sPutStep, decide_eq_true (by omega), frk_t, hw, lget_nat, spt_some (by omega), Option.bind_some, e1, Option.bind_some, Option.bind_some, sp_eq, sPut1 n s l hl (k + 1) hk, ih m (by omega) (by omega), show insK l s (k + 1) = (if ltS (spt l k) s then (l.take (k + 1) ++ [s]) ++ l.drop (k + 1) else if spt l k = s then l else insK l s k) from rfl]
    by_cases hc : ltS (spt l k) s
    · rw [if_pos hc, decide_eq_false (by rw [e2]; exact fun h => h hc), frk_f]
    · rw [if_neg hc, decide_eq_true (by rw [e2]; exact hc), frk_t]
      by_cases he : spt l k = s
      · rw [if_pos he, decide_eq_true he, frk_t]
      · rw [if_neg he, decide_eq_false he, frk_f]
theorem sPut {n : Nat} (hn : 1000000001 ≤ n) {l : List Spot} (h : Srt l) {s : Spot} (hs : SpOk s) (hl : l.length ≤ 100000) : Dspec_l7Puto0 n l s = some (ins l s) := sPutL hn h hs hl l.length n (Nat.le_refl _) (by omega)
def gS3 (l : List Pl) (p q : Pl) (k : Nat) : List Spot := cc l (mt p q (gt l k))
def gS2 (l : List Pl) (p : Pl) (j : Nat) : List Spot := (List.range' (j + 1) (l.length - (j + 1))).flatMap (gS3 l p (gt l j))
def gS1 (l : List Pl) (i : Nat) : List Spot := (List.range' (i + 1) (l.length - (i + 1))).flatMap (gS2 l (gt l i))
def CS (l : List Pl) : List Spot := (List.range' 0 l.length).flatMap (gS1 l)
theorem sc1Step (n : Nat) (rec1 rec0 : (Int × List Spot) → Option (List Spot)) (t5 : Int) (l : List Pl) (t4 t6 : Int) (rec2 : (Int × List Spot) → Option (List Spot)) (i : Int) (a : List Spot) :
    Dspec_l7Corners_1 n rec1 rec0 t5 l t4 t6 rec2 (i, a) = frk (decide (i < t4)) ((lget l t5).bind fun v0 => (lget l t6).bind fun v1 => (lget l i).bind fun v2 => (Dspec_l5Meet n v0 v1 v2).bind fun v3 => frk v3.2 ((Dspec_l7In n l v3.1).bind fun v4 => frk (decide (v4 ≥ 0)) ((Dspec_l7Puto0 n a v3.1).bind fun v5 => rec2 (w64 (i + 1), v5)) (rec2 (w64 (i + 1), a))) (rec2 (w64 (i + 1), a))) (rec1 (w64 (t6 + 1), a)) := rfl
theorem sc2Step (n : Nat) (rec0 : (Int × List Spot) → Option (List Spot)) (l : List Pl) (t4 t5 : Int) (rec1 : (Int × List Spot) → Option (List Spot)) (i : Int) (a : List Spot) :
    Dspec_l7Corners_2 n rec0 l t4 t5 rec1 (i, a) = frk (decide (i < t4)) (loopN (Dspec_l7Corners_1 n rec1 rec0 t5 l t4 i) n (w64 (i + 1), a)) (rec0 (w64 (t5 + 1), a)) := rfl
theorem sc3Step (n : Nat) (l : List Pl) (t4 : Int) (rec0 : (Int × List Spot) → Option (List Spot)) (i : Int) (a : List Spot) :
    Dspec_l7Corners_3 n l t4 rec0 (i, a) = frk (decide (i < t4)) (loopN (Dspec_l7Corners_2 n rec0 l t4 i) n (w64 (i + 1), a)) (some a) := rfl
theorem ins_Q (a : List Spot) (s : Spot) (h : Srt a) (hs : SpOk s) : Srt (ins a s) := (ins_ok h hs).1
theorem sCorners1 {l : List Pl} (hl : ∀ p ∈ l, PB p) (hb : l.length ≤ 24) (n : Nat) (hn : 1000000001 ≤ n) (rec1 rec0 : (Int × List Spot) → Option (List Spot)) (i j : Nat) (hi : i < l.length) (hj : j < l.length) (a : List Spot) (hq : Srt a) (ha : a.length + 24 ≤ 50000) :
    loopN (Dspec_l7Corners_1 n rec1 rec0 (i : Int) l (l.length : Int) (j : Int)) n (((j + 1 : Nat) : Int), a) = rec1 (((j + 1 : Nat) : Int), (gS2 l (gt l i) j).foldl ins a) := by
  have hp := hl _ (gt_mem hi)
  have hq' := hl _ (gt_mem hj)
  refine loopG (op := ins) (P := SpOk) (Q := Srt) (c := 1) (K := 50000) (done := fun a => rec1 (((j + 1 : Nat) : Int), a)) ins_len ins_Q (len := l.length) (g := gS3 l (gt l i) (gt l j)) (fun k hk => ⟨cc_len _ _, cc_ok hp hq' (hl _ (gt_mem hk))⟩) (fun rec k a hk hQ hK => ?_) (fun rec a _ => ?_) (l.length - (j + 1)) (j + 1) n a (by omega) (by omega) hq (by omega)
  · have hr := hl _ (gt_mem hk)
    rw [sc1Step, decide_eq_true (by omega), frk_t, lget_nat, gt_some hi, Option.bind_some, lget_nat, gt_some hj, Option.bind_some, lget_nat, gt_some hk, Option.bind_some, sMeet hp hq' hr n hn, Option.bind_some, w64_suc (by unfold big; omega)]
    unfold gS3 cc
    cases hm : mt (gt l i) (gt l j) (gt l k) with
    | none => rfl
    | some s =>
      have hs := mt_ok hp hq' hr hm
      show frk true ((Dspec_l7In n l s).bind _) _ = _
      rw [frk_t, s7In hl hs (by omega) n (by omega), Option.bind_some]
      dsimp only
      by_cases hc : mnv s 1 l ≥ 0
      · rw [decide_eq_true hc, frk_t, if_pos hc]
        show ((Dspec_l7Puto0 n a s).bind _) = _
        rw [sPut hn hQ hs (by omega)]; rfl
      · rw [decide_eq_false hc, frk_f, if_neg hc]; rfl
  · rw [sc1Step, decide_eq_false (by omega), frk_f, w64_suc (by unfold big; omega)]
theorem gS2_len {l : List Pl} (hb : l.length ≤ 24) {p : Pl} {j : Nat} : (gS2 l p j).length ≤ 24 := by
  have := flat_le (g := gS3 l p (gt l j)) (c := 1) (l.length - (j + 1)) (j + 1) fun _ _ _ => cc_len _ _
  unfold gS2; omega
theorem gS2_ok {l : List Pl} (hl : ∀ p ∈ l, PB p) {p : Pl} (hp : PB p) {j : Nat} (hj : j < l.length) : ∀ s ∈ gS2 l p j, SpOk s := fun s hs => by
  unfold gS2 at hs; rw [mem_flat] at hs
  obtain ⟨k, h1, h2, h⟩ := hs
  exact cc_ok hp (hl _ (gt_mem hj)) (hl _ (gt_mem (show k < l.length by omega))) s h
theorem sCorners2 {l : List Pl} (hl : ∀ p ∈ l, PB p) (hb : l.length ≤ 24) (n : Nat) (hn : 1000000001 ≤ n) (rec0 : (Int × List Spot) → Option (List Spot)) (i : Nat) (hi : i < l.length) (a : List Spot) (hq : Srt a) (ha : a.length + 576 ≤ 50000) :
    loopN (Dspec_l7Corners_2 n rec0 l (l.length : Int) (i : Int)) n (((i + 1 : Nat) : Int), a) = rec0 (((i + 1 : Nat) : Int), (gS1 l i).foldl ins a) := by
  have hp := hl _ (gt_mem hi)
  have hmul : (l.length - (i + 1)) * 24 ≤ 576 := by omega
  refine loopG (op := ins) (P := SpOk) (Q := Srt) (c := 24) (K := 50000) (done := fun a => rec0 (((i + 1 : Nat) : Int), a)) ins_len ins_Q (len := l.length) (g := gS2 l (gt l i)) (fun k hk => ⟨gS2_len hb, gS2_ok hl hp hk⟩) (fun rec k a hk hQ hK => ?_) (fun rec a _ => ?_) (l.length - (i + 1)) (i + 1) n a (by omega) (by omega) hq (by omega)
  · rw [sc2Step, decide_eq_true (by omega), frk_t, w64_suc (by unfold big; omega)]
    exact sCorners1 hl hb n hn rec rec0 i k hi hk a hQ hK
  · rw [sc2Step, decide_eq_false (by omega), frk_f, w64_suc (by unfold big; omega)]
theorem gS1_len {l : List Pl} (hb : l.length ≤ 24) {i : Nat} : (gS1 l i).length ≤ 576 := by
  have := flat_le (g := gS2 l (gt l i)) (c := 24) (l.length - (i + 1)) (i + 1) fun j _ _ => gS2_len hb
  unfold gS1; omega
theorem gS1_ok {l : List Pl} (hl : ∀ p ∈ l, PB p) {i : Nat} (hi : i < l.length) : ∀ s ∈ gS1 l i, SpOk s := fun s hs => by
  unfold gS1 at hs; rw [mem_flat] at hs
  obtain ⟨k, h1, h2, h⟩ := hs
  exact gS2_ok hl (hl _ (gt_mem hi)) (by omega) s h
theorem sCornersL {l : List Pl} (hl : ∀ p ∈ l, PB p) (hb : l.length ≤ 24) (n : Nat) (hn : 1000000001 ≤ n) : Dspec_l7Corners n l = some ((CS l).foldl ins []) := by
  unfold Dspec_l7Corners CS
  rw [show (0 : Int) = ((0 : Nat) : Int) from rfl]
  refine loopG (op := ins) (P := SpOk) (Q := Srt) (c := 576) (K := 50000) (done := fun a => some a) ins_len ins_Q (len := l.length) (g := gS1 l) (fun k hk => ⟨gS1_len hb, gS1_ok hl hk⟩) (fun rec i a hi hQ hK => ?_) (fun rec a _ => ?_) l.length 0 n [] (by omega) (by omega) ⟨by simp, List.Pairwise.nil⟩ (by simp; omega)
  · rw [sc3Step, decide_eq_true (by omega), frk_t, w64_suc (by unfold big; omega)]
    exact sCorners2 hl hb n hn rec i hi a hQ hK
  · rw [sc3Step, decide_eq_false (by omega), frk_f]
theorem mem_CS {l : List Pl} {s : Spot} : s ∈ CS l ↔ Cor l s := by
  unfold CS Cor
  rw [mem_flat]
  constructor
  · rintro ⟨i, -, hi, h⟩
    unfold gS1 at h; rw [mem_flat] at h
    obtain ⟨j, hj1, hj, h⟩ := h
    unfold gS2 at h; rw [mem_flat] at h
    obtain ⟨k, hk1, hk, h⟩ := h
    exact ⟨i, j, k, by omega, by omega, by omega, h⟩
  · rintro ⟨i, j, k, h1, h2, h3, h⟩
    refine ⟨i, by omega, by omega, ?_⟩
    unfold gS1; rw [mem_flat]
    refine ⟨j, by omega, by omega, ?_⟩
    unfold gS2; rw [mem_flat]
    exact ⟨k, by omega, by omega, h⟩
theorem sCorners {l : List Pl} (hl : ∀ p ∈ l, PB p) (hb : l.length ≤ 24) : ∃ M, (∀ s, s ∈ M ↔ Cor l s) ∧ M.Nodup ∧ M.length ≤ 13824 ∧ ∀ n, 1000000001 ≤ n → Dspec_l7Corners n l = some M := by
  have hok : ∀ s ∈ CS l, SpOk s := fun s hs => (mem_CS.1 hs).ok hl
  obtain ⟨h1, h2⟩ := fold_ins (CS l) [] ⟨by simp, List.Pairwise.nil⟩ hok
  refine ⟨_, fun s => by rw [h2, ← mem_CS]; simp, h1.nodup, ?_, fun n hn => sCornersL hl hb n hn⟩
  have a1 := fold_len (op := ins) ins_len (CS l) []
  have a2 := flat_le (g := gS1 l) (c := 576) l.length 0 fun j _ h => gS1_len hb
  unfold CS at a1 ⊢
  simp only [List.length_nil] at a1
  omega
end Evl.T

/-! Eea -/
namespace Evl.T
open Go Evl

def NzC (p : Pl) : Prop := p.A ≠ 0 ∨ p.B ≠ 0 ∨ p.C ≠ 0
theorem pOk_NzC {p : Pl} (h : pOk p = true) : NzC p := by
  unfold pOk at h
  simp only [Bool.and_eq_true, decide_eq_true_eq] at h
  exact h.2.2.2.2.1
def dotv (p : Pl) (v : Int × Int × Int) : Int := p.A * v.1 + p.B * v.2.1 + p.C * v.2.2
def way (l : List Pl) (v : Int × Int × Int) : Bool := !(List.range' 0 l.length).any fun i => decide (dotv (gt l i) v < 0)
def ngv (v : Int × Int × Int) : Int × Int × Int := (0 - v.1, 0 - v.2.1, 0 - v.2.2)
structure VB (v : Int × Int × Int) : Prop where
  a : B 500000 v.1
  b : B 500000 v.2.1
  c : B 500000 v.2.2
theorem VB.ng {v : Int × Int × Int} (h : VB v) : VB (ngv v) := ⟨h.a.zsub, h.b.zsub, h.c.zsub⟩
theorem dot_B {p : Pl} (hp : PB p) {v : Int × Int × Int} (hv : VB v) : B 750000000 (dotv p v) := (((hp.1.mul hv.a).add (hp.2.1.mul hv.b)).add (hp.2.2.1.mul hv.c)).up (by decide)
theorem dot_ng (p : Pl) (v : Int × Int × Int) : dotv p (ngv v) = 0 - dotv p v := by unfold dotv ngv; simp only; grind
theorem dot_w {p : Pl} (hp : PB p) {v : Int × Int × Int} (hv : VB v) : w64 ((w64 ((w64 (p.A * v.1)) + (w64 (p.B * v.2.1)))) + (w64 (p.C * v.2.2))) = dotv p v := by
  simp only [w64_add_l, w64_add_r]
  exact w64_B (dot_B hp hv) (by decide)
theorem swStep (n : Nat) (l : List Pl) (t : Int) (v : Int × Int × Int) (rec0 : Int → Option Bool) (k : Int) :
    Dspec_l7Way_0 n l t v.1 v.2.1 v.2.2 rec0 k = frk (decide (k < (l.length : Int))) ((lget l k).bind fun v0 => (lget l k).bind fun v1 => (lget l k).bind fun v2 => frk (decide ((w64 (t * (w64 ((w64 ((w64 (v0.A * v.1)) + (w64 (v1.B * v.2.1)))) + (w64 (v2.C * v.2.2)))))) < 0)) (some false) (rec0 (w64 (k + 1)))) (some true) := rfl
theorem sWay {l : List Pl} (hl : ∀ p ∈ l, PB p) (hb : l.length ≤ 24) {v : Int × Int × Int} (hv : VB v) (n : Nat) (hn : 100 ≤ n) : Dspec_l7Way n l v 1 = some (way l v) ∧ Dspec_l7Way n l v (-1) = some (way l (ngv v)) := by
  constructor
  · have h := search (F := Dspec_l7Way_0 n l 1 v.1 v.2.1 v.2.2) (len := l.length) (b := fun i => decide (dotv (gt l i) v < 0)) (hit := some false) (miss := some true) (by unfold big; omega) (fun rec i hi => by
      have hp := hl _ (gt_mem hi)
      have hd := dot_B hp hv
      rw [swStep, lt_dec hi, frk_t, lget_nat, gt_some hi, Option.bind_some, Option.bind_some, Option.bind_some, dot_w hp hv, Int.one_mul, w64_B hd (by decide), frk_cond]) (fun rec => by rw [swStep, lt_self, frk_f]) l.length 0 n (by omega) (by omega)
    refine h.trans ?_
    unfold way
    cases (List.range' 0 l.length).any fun i => decide (dotv (gt l i) v < 0) <;> rfl
  · have h := search (F := Dspec_l7Way_0 n l (-1) v.1 v.2.1 v.2.2) (len := l.length) (b := fun i => decide (dotv (gt l i) (ngv v) < 0)) (hit := some false) (miss := some true) (by unfold big; omega) (fun rec i hi => by
      have hp := hl _ (gt_mem hi)
      have hd := dot_B hp hv.ng
      rw [swStep, lt_dec hi, frk_t, lget_nat, gt_some hi, Option.bind_some, Option.bind_some, Option.bind_some, dot_w hp hv, show (-1 : Int) * dotv (gt l i) v = dotv (gt l i) (ngv v) by rw [dot_ng]; omega, w64_B hd (by decide), frk_cond]) (fun rec => by rw [swStep, lt_self, frk_f]) l.length 0 n (by omega) (by omega)
    refine h.trans ?_
    unfold way
    cases (List.range' 0 l.length).any fun i => decide (dotv (gt l i) (ngv v) < 0) <;> rfl
theorem iwStep (n : Nat) (l : List Pl) (v : Int × Int × Int) (rec0 : Int → Option Bool) (k : Int) :
    Dimpl_goesOn_0 n l (l.length : Int) v.1 v.2.1 v.2.2 rec0 k = frk (decide (k < (l.length : Int))) ((lget l k).bind fun v0 => frk (decide ((w64 ((w64 ((w64 (v0.A * v.1)) + (w64 (v0.B * v.2.1)))) + (w64 (v0.C * v.2.2)))) < 0)) (some false) (rec0 (w64 (k + 1)))) (some true) := by
  unfold Dimpl_goesOn_0
  simp only [Dimpl_normal, Dimpl_dot, Option.bind_some]
theorem iWay {l : List Pl} (hl : ∀ p ∈ l, PB p) (hb : l.length ≤ 24) {v : Int × Int × Int} (hv : VB v) (n : Nat) (hn : 100 ≤ n) : Dimpl_goesOn n l v = some (way l v) := by
  have h := search (F := Dimpl_goesOn_0 n l (l.length : Int) v.1 v.2.1 v.2.2) (len := l.length) (b := fun i => decide (dotv (gt l i) v < 0)) (hit := some false) (miss := some true) (by unfold big; omega) (fun rec i hi => by
    rw [iwStep, lt_dec hi, frk_t, lget_nat, gt_some hi, Option.bind_some, dot_w (hl _ (gt_mem hi)) hv, frk_cond]) (fun rec => by rw [iwStep, lt_self, frk_f]) l.length 0 n (by omega) (by omega)
  refine h.trans ?_
  unfold way
  cases (List.range' 0 l.length).any fun i => decide (dotv (gt l i) v < 0) <;> rfl
/-! pairs -/
def crv (p q : Pl) : Int × Int × Int := (cr0 p q, cr1 p q, cr2 p q)
theorem crv_B {p q : Pl} (hp : PB p) (hq : PB q) : VB (crv p q) := by
  obtain ⟨a1, a2, a3, -⟩ := hp
  obtain ⟨b1, b2, b3, -⟩ := hq
  exact ⟨((a2.mul b3).sub (a3.mul b2)).up (by decide), ((a3.mul b1).sub (a1.mul b3)).up (by decide), ((a1.mul b2).sub (a2.mul b1)).up (by decide)⟩
theorem crv_rev (p q : Pl) : crv q p = ngv (crv p q) := by
  unfold crv ngv cr0 cr1 cr2
  simp only [Prod.mk.injEq]
  refine ⟨?_, ?_, ?_⟩ <;> grind
theorem ngv_ngv (v : Int × Int × Int) : ngv (ngv v) = v := by
  obtain ⟨a, b, c⟩ := v
  unfold ngv
  simp
def zv (v : Int × Int × Int) : Bool := v.1 == 0 && (v.2.1 == 0 && (v.2.2 == 0 && true))
theorem zv_ng (v : Int × Int × Int) : zv (ngv v) = zv v := by
  obtain ⟨a, b, c⟩ := v
  unfold zv ngv
  rw [Bool.eq_iff_iff]
  simp only [Bool.and_eq_true, beq_iff_eq, and_true]
  omega
/-- Does a cell go on along where two of its planes meet? -/
def bad (l : List Pl) (p q : Pl) : Bool := !zv (crv p q) && (way l (crv p q) || way l (ngv (crv p q)))
theorem bad_rev (l : List Pl) (p q : Pl) : bad l q p = bad l p q := by
  unfold bad
  rw [crv_rev p q, zv_ng, ngv_ngv, Bool.or_comm]
theorem sCrossV {p q : Pl} (hp : PB p) (hq : PB q) : Dspec_l4Cross p q = some (crv p q) := sCross p q hp hq
theorem sb1Step (n : Nat) (rec0 : Int → Option Bool) (l : List Pl) (i : Int) (rec1 : Int → Option Bool) (k : Int) :
    Dspec_l7Bounded_1 n rec0 l i rec1 k = frk (decide (k < (l.length : Int))) ((lget l i).bind fun v1 => (lget l k).bind fun v2 => (Dspec_l4Cross v1 v2).bind fun v3 => frk (!zv v3) ((Dspec_l7Way n l v3 1).bind fun v4 => frk v4 (some false) ((Dspec_l7Way n l v3 (-1)).bind fun v5 => frk v5 (some false) (rec1 (w64 (k + 1))))) (rec1 (w64 (k + 1)))) (rec0 (w64 (i + 1))) := rfl
theorem sb2Step (n : Nat) (l : List Pl) (rec0 : Int → Option Bool) (i : Int) :
    Dspec_l7Bounded_2 n l rec0 i = frk (decide (i < (l.length : Int))) (loopN (Dspec_l7Bounded_1 n rec0 l i) n (w64 (i + 1))) (some true) := rfl
def badS (l : List Pl) (i : Nat) : Bool := (List.range' (i + 1) (l.length - (i + 1))).any fun k => bad l (gt l i) (gt l k)
def badI (l : List Pl) (i : Nat) : Bool := (List.range' 0 i).any fun k => bad l (gt l i) (gt l k)
theorem sBnd {l : List Pl} (hl : ∀ p ∈ l, PB p) (hb : l.length ≤ 24) (n : Nat) (hn : 100 ≤ n) : loopN (Dspec_l7Bounded_2 n l) n 0 = some (!(List.range' 0 l.length).any (badS l)) := by
  have h := search (F := Dspec_l7Bounded_2 n l) (len := l.length) (b := badS l) (hit := some false) (miss := some true) (by unfold big; omega) (fun rec i hi => by
    rw [sb2Step, lt_dec hi, frk_t, w64_suc (by unfold big; omega)]
    have h := search (F := Dspec_l7Bounded_1 n rec l (i : Int)) (len := l.length) (b := fun k => bad l (gt l i) (gt l k)) (hit := some false) (miss := rec (w64 ((i : Int) + 1))) (by unfold big; omega) (fun rec1 k hk => by
      have hp := hl _ (gt_mem hi)
      have hq := hl _ (gt_mem hk)
      obtain ⟨w1, w2⟩ := sWay hl hb (crv_B hp hq) n hn
      rw [sb1Step, lt_dec hk, frk_t, lget_nat, gt_some hi, Option.bind_some, lget_nat, gt_some hk, Option.bind_some, sCrossV hp hq, Option.bind_some, w1, Option.bind_some, w2, Option.bind_some]
      unfold bad
      cases zv (crv (gt l i) (gt l k)) <;> cases way l (crv (gt l i) (gt l k)) <;> cases way l (ngv (crv (gt l i) (gt l k))) <;> rfl) (fun rec1 => by rw [sb1Step, lt_self, frk_f]) (l.length - (i + 1)) (i + 1) n (by omega) (by omega)
    rw [h, w64_suc (by unfold big; omega)]; rfl) (fun rec => by rw [sb2Step, lt_self, frk_f]) l.length 0 n (by omega) (by omega)
  rw [show (0 : Int) = ((0 : Nat) : Int) from rfl, h]
  cases (List.range' 0 l.length).any (badS l) <;> rfl
theorem ib1Step (n : Nat) (rec0 : Int → Option Bool) (l t11 : List Pl) (t12 i : Int) (t20 : List Pl) (t21 : Int) (p : Pl) (rec1 : Int → Option Bool) (k : Int) :
    Dimpl_bounded_1 n rec0 l t11 t12 i t20 t21 p.A p.B p.C p.D rec1 k = frk (decide (k < t21)) ((lget t20 k).bind fun v3 => (Dspec_l4Cross p v3).bind fun v6 => frk (zv v6) (rec1 (w64 (k + 1))) ((Dimpl_goesOn n l v6).bind fun v7 => frk v7 (some false) ((Dimpl_goesOn n l (w64 (0 - v6.1), w64 (0 - v6.2.1), w64 (0 - v6.2.2))).bind fun v8 => frk v8 (some false) (rec1 (w64 (k + 1)))))) (rec0 (w64 (i + 1))) := rfl
theorem ib2Step (n : Nat) (l t11 : List Pl) (t12 : Int) (rec0 : Int → Option Bool) (i : Int) :
    Dimpl_bounded_2 n l t11 t12 rec0 i = frk (decide (i < t12)) ((lget t11 i).bind fun v1 => (lsl l 0 i).bind fun v2 => loopN (Dimpl_bounded_1 n rec0 l t11 t12 i v2 (v2.length : Int) v1.A v1.B v1.C v1.D) n 0) (some true) := rfl
theorem ngv_w {v : Int × Int × Int} (hv : VB v) : (w64 (0 - v.1), w64 (0 - v.2.1), w64 (0 - v.2.2)) = ngv v := by
  rw [w64_B hv.a.zsub (by decide), w64_B hv.b.zsub (by decide), w64_B hv.c.zsub (by decide)]; rfl
theorem gt_tk {l : List Pl} {j k : Nat} (h : k < j) (hj : j ≤ l.length) : (l.take j)[k]? = some (gt l k) := by
  rw [List.getElem?_take_of_lt h]; exact gt_some (by omega)
theorem iBnd {l : List Pl} (hl : ∀ p ∈ l, PB p) (hb : l.length ≤ 24) (n : Nat) (hn : 100 ≤ n) : loopN (Dimpl_bounded_2 n l l (l.length : Int)) n 0 = some (!(List.range' 0 l.length).any (badI l)) := by
  have h := search (F := Dimpl_bounded_2 n l l (l.length : Int)) (len := l.length) (b := badI l) (hit := some false) (miss := some true) (by unfold big; omega) (fun rec i hi => by
    have hlen : (l.take i).length = i := by rw [List.length_take]; omega
    rw [ib2Step, lt_dec hi, frk_t, lget_nat, gt_some hi, Option.bind_some, lsl_take l i (by omega), Option.bind_some, hlen]
    have h := search (F := Dimpl_bounded_1 n rec l l (l.length : Int) (i : Int) (l.take i) (i : Int) (gt l i).A (gt l i).B (gt l i).C (gt l i).D) (len := i) (b := fun k => bad l (gt l i) (gt l k)) (hit := some false) (miss := rec (w64 ((i : Int) + 1))) (by unfold big; omega) (fun rec1 k hk => by
      have hp := hl _ (gt_mem hi)
      have hq := hl _ (gt_mem (show k < l.length by omega))
      have hv := crv_B hp hq
      rw [ib1Step, lt_dec hk, frk_t, lget_nat, gt_tk hk (by omega), Option.bind_some, sCrossV hp hq, Option.bind_some, ngv_w hv, iWay hl hb hv n hn, Option.bind_some, iWay hl hb hv.ng n hn, Option.bind_some]
      unfold bad
      cases zv (crv (gt l i) (gt l k)) <;> cases way l (crv (gt l i) (gt l k)) <;> cases way l (ngv (crv (gt l i) (gt l k))) <;> rfl) (fun rec1 => by rw [ib1Step, lt_self, frk_f]) i 0 n (by omega) (by omega)
    refine h.trans ?_
    rfl) (fun rec => by rw [ib2Step, lt_self, frk_f]) l.length 0 n (by omega) (by omega)
  rw [show (0 : Int) = ((0 : Nat) : Int) from rfl, h]
  cases (List.range' 0 l.length).any (badI l) <;> rfl
theorem badSI (l : List Pl) : (List.range' 0 l.length).any (badI l) = (List.range' 0 l.length).any (badS l) := by
  rw [Bool.eq_iff_iff, List.any_eq_true, List.any_eq_true]
  constructor
  · rintro ⟨i, hi, h⟩
    unfold badI at h
    rw [List.any_eq_true] at h
    obtain ⟨k, hk, h⟩ := h
    rw [List.mem_range'_1] at hi hk
    refine ⟨k, List.mem_range'_1.2 (by omega), ?_⟩
    unfold badS
    rw [List.any_eq_true]
    exact ⟨i, List.mem_range'_1.2 (by omega), by rw [bad_rev]; exact h⟩
  · rintro ⟨i, hi, h⟩
    unfold badS at h
    rw [List.any_eq_true] at h
    obtain ⟨k, hk, h⟩ := h
    rw [List.mem_range'_1] at hi hk
    refine ⟨k, List.mem_range'_1.2 (by omega), ?_⟩
    unfold badI
    rw [List.any_eq_true]
    exact ⟨i, List.mem_range'_1.2 (by omega), by rw [bad_rev]; exact h⟩
/-! rank -/
/-- Three planes that meet in one spot. -/
def T3 (l : List Pl) : Prop := ∃ i j k, i < j ∧ j < k ∧ k < l.length ∧ det3 (gt l i) (gt l j) (gt l k) ≠ 0
theorem det_cr (p q r : Pl) : det3 p q r = cr0 p q * r.A + cr1 p q * r.B + cr2 p q * r.C := by unfold det3 cr0 cr1 cr2; grind
theorem det_of_zv {p q : Pl} (h : zv (crv p q) = true) (r : Pl) : det3 p q r = 0 := by
  unfold zv crv at h
  simp only [Bool.and_eq_true, beq_iff_eq, and_true] at h
  rw [det_cr, h.1, h.2.1, h.2.2]; simp
theorem det_norm (p q r : Pl) (x y z : Int) (hp : p.A * x + p.B * y + p.C * z = 0) (hq : q.A * x + q.B * y + q.C * z = 0) (hr : r.A * x + r.B * y + r.C * z = 0) (hn : ¬ (x = 0 ∧ y = 0 ∧ z = 0)) : det3 p q r = 0 := by
  have e0 : x * det3 p q r = (p.A * x + p.B * y + p.C * z) * cr0 q r + (q.A * x + q.B * y + q.C * z) * cr0 r p + (r.A * x + r.B * y + r.C * z) * cr0 p q := by unfold det3 cr0; grind
  have e1 : y * det3 p q r = (p.A * x + p.B * y + p.C * z) * cr1 q r + (q.A * x + q.B * y + q.C * z) * cr1 r p + (r.A * x + r.B * y + r.C * z) * cr1 p q := by unfold det3 cr1; grind
  have e2 : z * det3 p q r = (p.A * x + p.B * y + p.C * z) * cr2 q r + (q.A * x + q.B * y + q.C * z) * cr2 r p + (r.A * x + r.B * y + r.C * z) * cr2 p q := by unfold det3 cr2; grind
  rw [hp, hq, hr] at e0 e1 e2
  simp only [Int.zero_mul, Int.add_zero] at e0 e1 e2
  rcases Int.mul_eq_zero.1 e0 with h | h
  · rcases Int.mul_eq_zero.1 e1 with h1 | h1
    · rcases Int.mul_eq_zero.1 e2 with h2 | h2
      · exact absurd ⟨h, h1, h2⟩ hn
      · exact h2
    · exact h1
  · exact h
theorem no3_line {l : List Pl} {p : Pl} (hp : NzC p) (h : ∀ t, t < l.length → zv (crv p (gt l t)) = true) : ¬ T3 l := by
  rintro ⟨i, j, k, h1, h2, h3, hd⟩
  have c : ∀ t, t < l.length → cr0 p (gt l t) = 0 ∧ cr1 p (gt l t) = 0 ∧ cr2 p (gt l t) = 0 := fun t ht => by
    have := h t ht
    unfold zv crv at this
    simpa only [Bool.and_eq_true, beq_iff_eq, and_true] using this
  have ci := c i (by omega)
  have cj := c j (by omega)
  have ck := c k (by omega)
  unfold cr0 cr1 cr2 at ci cj ck
  apply hd
  by_cases hz : p.A = 0 ∧ p.B = 0
  · refine det_norm _ _ _ (-p.C) 0 p.A ?_ ?_ ?_ ?_
    · grind
    · grind
    · grind
    · unfold NzC at hp; omega
  · refine det_norm _ _ _ (-p.B) p.A 0 ?_ ?_ ?_ ?_
    · grind
    · grind
    · grind
    · omega
theorem no3_plane {l : List Pl} {p q : Pl} (hc : zv (crv p q) = false) (h : ∀ t, t < l.length → det3 p q (gt l t) = 0) : ¬ T3 l := by
  rintro ⟨i, j, k, h1, h2, h3, hd⟩
  have c : ∀ t, t < l.length → (gt l t).A * cr0 p q + (gt l t).B * cr1 p q + (gt l t).C * cr2 p q = 0 := fun t ht => by
    have := h t ht
    rw [det_cr] at this
    rw [Int.mul_comm _ (cr0 p q), Int.mul_comm _ (cr1 p q), Int.mul_comm _ (cr2 p q)]; exact this
  refine hd (det_norm _ _ _ (cr0 p q) (cr1 p q) (cr2 p q) (c i (by omega)) (c j (by omega)) (c k (by omega)) ?_)
  rintro ⟨g1, g2, g3⟩
  unfold zv crv at hc
  simp [g1, g2, g3] at hc
theorem sr3Step (n : Nat) (rec1 rec0 : (Int × Int) → Option Int) (i : Int) (l : List Pl) (t3 j : Int) (rec2 : Int → Option Int) (k : Int) :
    Dspec_l4Rank_3 n rec1 rec0 i l t3 j rec2 k = frk (decide (k < (l.length : Int))) ((lget l i).bind fun v4 => (lget l j).bind fun v5 => (lget l k).bind fun v6 => (Dspec_l4Det3 v4 v5 v6).bind fun v7 => frk (v7 != 0) (some 3) (rec2 (w64 (k + 1)))) (rec1 (t3, w64 (j + 1))) := rfl
theorem sr4Step (n : Nat) (rec0 : (Int × Int) → Option Int) (l : List Pl) (i : Int) (rec1 : (Int × Int) → Option Int) (t3 j : Int) :
    Dspec_l4Rank_4 n rec0 l i rec1 (t3, j) = frk (decide (j < (l.length : Int))) ((lget l i).bind fun v1 => (lget l j).bind fun v2 => (Dspec_l4Cross v1 v2).bind fun v3 => frk (zv v3) (rec1 (t3, w64 (j + 1))) (frk (decide (t3 < 2)) (loopN (Dspec_l4Rank_3 n rec1 rec0 i l 2 j) n (w64 (j + 1))) (loopN (Dspec_l4Rank_3 n rec1 rec0 i l t3 j) n (w64 (j + 1))))) (rec0 (t3, w64 (i + 1))) := rfl
theorem sr5Step (n : Nat) (l : List Pl) (rec0 : (Int × Int) → Option Int) (t3 i : Int) :
    Dspec_l4Rank_5 n l rec0 (t3, i) = frk (decide (i < (l.length : Int))) (frk (t3 == 0) ((lget l i).bind fun v0 => frk (!(v0.A == 0 && (v0.B == 0 && (v0.C == 0 && (v0.D == 0 && true))))) (loopN (Dspec_l4Rank_4 n rec0 l i) n (1, w64 (i + 1))) (loopN (Dspec_l4Rank_4 n rec0 l i) n (t3, w64 (i + 1)))) (loopN (Dspec_l4Rank_4 n rec0 l i) n (t3, w64 (i + 1)))) (some t3) := rfl
theorem sRank3 {l : List Pl} (hl : ∀ p ∈ l, PB p) (hb : l.length ≤ 24) (n : Nat) (hn : 100 ≤ n) (rec1 rec0 : (Int × Int) → Option Int) (t3 : Int) {i j : Nat} (hi : i < l.length) (hj : j < l.length) :
    ((∃ k, j < k ∧ k < l.length ∧ det3 (gt l i) (gt l j) (gt l k) ≠ 0) → loopN (Dspec_l4Rank_3 n rec1 rec0 (i : Int) l t3 (j : Int)) n (((j + 1 : Nat) : Int)) = some 3) ∧
    (¬ (∃ k, j < k ∧ k < l.length ∧ det3 (gt l i) (gt l j) (gt l k) ≠ 0) → loopN (Dspec_l4Rank_3 n rec1 rec0 (i : Int) l t3 (j : Int)) n (((j + 1 : Nat) : Int)) = rec1 (t3, ((j + 1 : Nat) : Int))) := by
  have h := search (F := Dspec_l4Rank_3 n rec1 rec0 (i : Int) l t3 (j : Int)) (len := l.length) (b := fun k => det3 (gt l i) (gt l j) (gt l k) != 0) (hit := some 3) (miss := rec1 (t3, ((j + 1 : Nat) : Int))) (by unfold big; omega) (fun rec k hk => by
    rw [sr3Step, lt_dec hk, frk_t, lget_nat, gt_some hi, Option.bind_some, lget_nat, gt_some hj, Option.bind_some, lget_nat, gt_some hk, Option.bind_some, sDet3 _ _ _ (hl _ (gt_mem hi)) (hl _ (gt_mem hj)) (hl _ (gt_mem hk)), Option.bind_some]
    cases det3 (gt l i) (gt l j) (gt l k) != 0 <;> rfl) (fun rec => by rw [sr3Step, lt_self, frk_f, w64_suc (by unfold big; omega)]) (l.length - (j + 1)) (j + 1) n (by omega) (by omega)
  rw [h]
  have e : ((List.range' (j + 1) (l.length - (j + 1))).any fun k => det3 (gt l i) (gt l j) (gt l k) != 0) = true ↔ ∃ k, j < k ∧ k < l.length ∧ det3 (gt l i) (gt l j) (gt l k) ≠ 0 := by
    rw [List.any_eq_true]
    constructor
    · rintro ⟨k, hk, h⟩
      rw [List.mem_range'_1] at hk
      exact ⟨k, by omega, by omega, by simpa using h⟩
    · rintro ⟨k, h1, h2, h⟩
      exact ⟨k, List.mem_range'_1.2 (by omega), by simpa using h⟩
  constructor
  · intro hx; rw [e.2 hx]; rfl
  · intro hx
    rw [show ((List.range' (j + 1) (l.length - (j + 1))).any fun k => det3 (gt l i) (gt l j) (gt l k) != 0) = false by rw [Bool.eq_false_iff]; exact fun h => hx (e.1 h)]; rfl
theorem sRank4 {l : List Pl} (hl : ∀ p ∈ l, PB p) (hb : l.length ≤ 24) (n : Nat) (hn : 100 ≤ n) (rec0 : (Int × Int) → Option Int) {i : Nat} (hi : i < l.length) : ∀ (d j m : Nat) (t3 : Int), j + d = l.length → d < m → t3 ≤ 2 →
    ((∃ j' k, j ≤ j' ∧ j' < k ∧ k < l.length ∧ det3 (gt l i) (gt l j') (gt l k) ≠ 0) → loopN (Dspec_l4Rank_4 n rec0 l (i : Int)) m (t3, (j : Int)) = some 3) ∧
    (¬ (∃ j' k, j ≤ j' ∧ j' < k ∧ k < l.length ∧ det3 (gt l i) (gt l j') (gt l k) ≠ 0) → ∃ t, t ≤ 2 ∧ loopN (Dspec_l4Rank_4 n rec0 l (i : Int)) m (t3, (j : Int)) = rec0 (t, ((i + 1 : Nat) : Int))) := by
  intro d
  induction d with
  | zero =>
    intro j m t3 hj hm ht
    obtain ⟨m, rfl⟩ : ∃ x, m = x + 1 := ⟨m - 1, by omega⟩
    refine ⟨fun ⟨j', k, h1, h2, h3, _⟩ => by omega, fun _ => ⟨t3, ht, ?_⟩⟩
    rw [loop_suc, sr4Step, decide_eq_false (by omega), frk_f, w64_suc (by unfold big; omega)]
  | succ d ih =>
    intro j m t3 hj hm ht
    obtain ⟨m, rfl⟩ : ∃ x, m = x + 1 := ⟨m - 1, by omega⟩
    have hjl : j < l.length := by omega
    have step : loopN (Dspec_l4Rank_4 n rec0 l (i : Int)) (m + 1) (t3, (j : Int)) = frk (zv (crv (gt l i) (gt l j))) (loopN (Dspec_l4Rank_4 n rec0 l (i : Int)) m (t3, ((j + 1 : Nat) : Int))) (frk (decide (t3 < 2)) (loopN (Dspec_l4Rank_3 n (loopN (Dspec_l4Rank_4 n rec0 l (i : Int)) m) rec0 (i : Int) l 2 (j : Int)) n ((j + 1 : Nat) : Int)) (loopN (Dspec_l4Rank_3 n (loopN (Dspec_l4Rank_4 n rec0 l (i : Int)) m) rec0 (i : Int) l t3 (j : Int)) n ((j + 1 : Nat) : Int))) := by
      rw [loop_suc, sr4Step, decide_eq_true (by omega), frk_t, lget_nat, gt_some hi, Option.bind_some, lget_nat, gt_some hjl, Option.bind_some, sCrossV (hl _ (gt_mem hi)) (hl _ (gt_mem hjl)), Option.bind_some, w64_suc (by unfold big; omega)]
    have hsplit : (∃ j' k, j ≤ j' ∧ j' < k ∧ k < l.length ∧ det3 (gt l i) (gt l j') (gt l k) ≠ 0) ↔ (∃ k, j < k ∧ k < l.length ∧ det3 (gt l i) (gt l j) (gt l k) ≠ 0) ∨ (∃ j' k, j + 1 ≤ j' ∧ j' < k ∧ k < l.length ∧ det3 (gt l i) (gt l j') (gt l k) ≠ 0) := by
      constructor
      · rintro ⟨j', k, h1, h2, h3, h4⟩
        by_cases e : j' = j
        · subst e; exact .inl ⟨k, h2, h3, h4⟩
        · exact .inr ⟨j', k, by omega, h2, h3, h4⟩
      · rintro (⟨k, h2, h3, h4⟩ | ⟨j', k, h1, h2, h3, h4⟩)
        · exact ⟨j, k, Nat.le_refl _, h2, h3, h4⟩
        · exact ⟨j', k, by omega, h2, h3, h4⟩
    rw [step, hsplit]
    cases hz : zv (crv (gt l i) (gt l j)) with
    | true =>
      have hno : ¬ ∃ k, j < k ∧ k < l.length ∧ det3 (gt l i) (gt l j) (gt l k) ≠ 0 := fun ⟨k, _, _, h⟩ => h (det_of_zv hz _)
      obtain ⟨g1, g2⟩ := ih (j + 1) m t3 (by omega) (by omega) ht
      rw [frk_t]
      exact ⟨fun h => h.elim (fun h => absurd h hno) g1, fun h => g2 fun h' => h (.inr h')⟩
    | false =>
      rw [frk_f]
      have key : ∀ t, t ≤ 2 → ((∃ k, j < k ∧ k < l.length ∧ det3 (gt l i) (gt l j) (gt l k) ≠ 0) ∨ (∃ j' k, j + 1 ≤ j' ∧ j' < k ∧ k < l.length ∧ det3 (gt l i) (gt l j') (gt l k) ≠ 0) → loopN (Dspec_l4Rank_3 n (loopN (Dspec_l4Rank_4 n rec0 l (i : Int)) m) rec0 (i : Int) l t (j : Int)) n ((j + 1 : Nat) : Int) = some 3) ∧
          (¬ ((∃ k, j < k ∧ k < l.length ∧ det3 (gt l i) (gt l j) (gt l k) ≠ 0) ∨ (∃ j' k, j + 1 ≤ j' ∧ j' < k ∧ k < l.length ∧ det3 (gt l i) (gt l j') (gt l k) ≠ 0)) → ∃ t', t' ≤ 2 ∧ loopN (Dspec_l4Rank_3 n (loopN (Dspec_l4Rank_4 n rec0 l (i : Int)) m) rec0 (i : Int) l t (j : Int)) n ((j + 1 : Nat) : Int) = rec0 (t', ((i + 1 : Nat) : Int))) := fun t ht => by
        obtain ⟨f1, f2⟩ := sRank3 hl hb n hn (loopN (Dspec_l4Rank_4 n rec0 l (i : Int)) m) rec0 t hi hjl
        obtain ⟨g1, g2⟩ := ih (j + 1) m t (by omega) (by omega) ht
        constructor
        · intro h
          by_cases hk : ∃ k, j < k ∧ k < l.length ∧ det3 (gt l i) (gt l j) (gt l k) ≠ 0
          · exact f1 hk
          · rw [f2 hk]; exact g1 (h.resolve_left hk)
        · intro h
          rw [f2 fun hk => h (.inl hk)]
          exact g2 fun hk => h (.inr hk)
      by_cases h2 : t3 < 2
      · rw [decide_eq_true h2, frk_t]; exact key 2 (by omega)
      · rw [decide_eq_false h2, frk_f]; exact key t3 ht
theorem sRank {l : List Pl} (hl : ∀ p ∈ l, PB p) (hb : l.length ≤ 24) (n : Nat) (hn : 100 ≤ n) : ∃ v, Dspec_l4Rank n l = some v ∧ (v < 3 ↔ ¬ T3 l) := by
  have key : ∀ (d i m : Nat) (t3 : Int), i + d = l.length → d < m → t3 ≤ 2 → ∃ v, loopN (Dspec_l4Rank_5 n l) m (t3, (i : Int)) = some v ∧ (v < 3 ↔ ¬ ∃ i' j k, i ≤ i' ∧ i' < j ∧ j < k ∧ k < l.length ∧ det3 (gt l i') (gt l j) (gt l k) ≠ 0) := by
    intro d
    induction d with
    | zero =>
      intro i m t3 hi hm ht
      obtain ⟨m, rfl⟩ : ∃ x, m = x + 1 := ⟨m - 1, by omega⟩
      refine ⟨t3, by rw [loop_suc, sr5Step, decide_eq_false (by omega), frk_f], ?_⟩
      constructor
      · rintro - ⟨i', j, k, h1, h2, h3, h4, _⟩; omega
      · intro _; omega
    | succ d ih =>
      intro i m t3 hi hm ht
      obtain ⟨m, rfl⟩ : ∃ x, m = x + 1 := ⟨m - 1, by omega⟩
      have hil : i < l.length := by omega
      have hsplit : (∃ i' j k, i ≤ i' ∧ i' < j ∧ j < k ∧ k < l.length ∧ det3 (gt l i') (gt l j) (gt l k) ≠ 0) ↔ (∃ j k, i + 1 ≤ j ∧ j < k ∧ k < l.length ∧ det3 (gt l i) (gt l j) (gt l k) ≠ 0) ∨ (∃ i' j k, i + 1 ≤ i' ∧ i' < j ∧ j < k ∧ k < l.length ∧ det3 (gt l i') (gt l j) (gt l k) ≠ 0) := by
        constructor
        · rintro ⟨i', j, k, h1, h2, h3, h4, h5⟩
          by_cases e : i' = i
          · subst e; exact .inl ⟨j, k, by omega, h3, h4, h5⟩
          · exact .inr ⟨i', j, k, by omega, h2, h3, h4, h5⟩
        · rintro (⟨j, k, h2, h3, h4, h5⟩ | ⟨i', j, k, h1, h2, h3, h4, h5⟩)
          · exact ⟨i, j, k, Nat.le_refl _, by omega, h3, h4, h5⟩
          · exact ⟨i', j, k, by omega, h2, h3, h4, h5⟩
      have one : ∀ t, t ≤ 2 → ∃ v, loopN (Dspec_l4Rank_4 n (loopN (Dspec_l4Rank_5 n l) m) l (i : Int)) n (t, ((i + 1 : Nat) : Int)) = some v ∧ (v < 3 ↔ ¬ ((∃ j k, i + 1 ≤ j ∧ j < k ∧ k < l.length ∧ det3 (gt l i) (gt l j) (gt l k) ≠ 0) ∨ (∃ i' j k, i + 1 ≤ i' ∧ i' < j ∧ j < k ∧ k < l.length ∧ det3 (gt l i') (gt l j) (gt l k) ≠ 0))) := fun t ht => by
        obtain ⟨f1, f2⟩ := sRank4 hl hb n hn (loopN (Dspec_l4Rank_5 n l) m) hil (l.length - (i + 1)) (i + 1) n t (by omega) (by omega) ht
        by_cases hk : ∃ j k, i + 1 ≤ j ∧ j < k ∧ k < l.length ∧ det3 (gt l i) (gt l j) (gt l k) ≠ 0
        · exact ⟨3, f1 hk, ⟨fun h => by omega, fun h => absurd (.inl hk) h⟩⟩
        · obtain ⟨t', ht', e⟩ := f2 hk
          obtain ⟨v, g1, g2⟩ := ih (i + 1) m t' (by omega) (by omega) ht'
          refine ⟨v, e.trans g1, g2.trans ⟨fun h h' => h'.elim hk h, fun h h' => h (.inr h')⟩⟩
      rw [loop_suc, sr5Step, decide_eq_true (by omega), frk_t, lget_nat, gt_some hil, Option.bind_some, w64_suc (by unfold big; omega), hsplit]
      cases t3 == 0 with
      | false => rw [frk_f]; exact one t3 ht
      | true =>
        rw [frk_t]
        cases (gt l i).A == 0 && ((gt l i).B == 0 && ((gt l i).C == 0 && ((gt l i).D == 0 && true))) with
        | false => rw [Bool.not_false, frk_t]; exact one 1 (by omega)
        | true => rw [Bool.not_true, frk_f]; exact one t3 ht
  obtain ⟨v, h1, h2⟩ := key l.length 0 n 0 (by omega) (by omega) (by omega)
  refine ⟨v, h1, h2.trans ?_⟩
  unfold T3
  exact ⟨fun h ⟨i, j, k, a⟩ => h ⟨i, j, k, by omega, a⟩, fun h ⟨i, j, k, _, a⟩ => h ⟨i, j, k, a⟩⟩
/-! the program's rank -/
abbrev R8 := Int × Int × Int × Int × Int × Int × Int × Int
theorem irStep (n : Nat) (l : List Pl) (t9 : Int) (rec0 : R8 → Option Int) (c k : Int) (u w : Int × Int × Int) :
    Dimpl_Rank_5 n l t9 rec0 (c, k, u.1, u.2.1, u.2.2, w.1, w.2.1, w.2.2) = frk (decide (k < t9)) ((lget l k).bind fun v0 => (Dimpl_taken n v0).bind fun q => frk (c == 0) (frk (!zv (q.A, q.B, q.C)) (rec0 (1, w64 (k + 1), q.A, q.B, q.C, w.1, w.2.1, w.2.2)) (Dimpl_Rank_4 n rec0 l t9 c k u.1 u.2.1 u.2.2 w.1 w.2.1 w.2.2 q.A q.B q.C)) (Dimpl_Rank_4 n rec0 l t9 c k u.1 u.2.1 u.2.2 w.1 w.2.1 w.2.2 q.A q.B q.C)) (some c) := rfl
theorem ir4Step (n : Nat) (rec0 : R8 → Option Int) (l : List Pl) (t9 c k : Int) (p : Pl) (w : Int × Int × Int) (q : Pl) :
    Dimpl_Rank_4 n rec0 l t9 c k p.A p.B p.C w.1 w.2.1 w.2.2 q.A q.B q.C = frk (c == 1) ((Dspec_l4Cross p q).bind fun v6 => frk (!zv v6) (rec0 (2, w64 (k + 1), p.A, p.B, p.C, q.A, q.B, q.C)) (frk (c == 2) ((Dimpl_det (p.A, p.B, p.C) w (q.A, q.B, q.C)).bind fun v4 => frk (v4 != 0) (some 3) (rec0 (c, w64 (k + 1), p.A, p.B, p.C, w.1, w.2.1, w.2.2))) (rec0 (c, w64 (k + 1), p.A, p.B, p.C, w.1, w.2.1, w.2.2)))) (frk (c == 2) ((Dimpl_det (p.A, p.B, p.C) w (q.A, q.B, q.C)).bind fun v5 => frk (v5 != 0) (some 3) (rec0 (c, w64 (k + 1), p.A, p.B, p.C, w.1, w.2.1, w.2.2))) (rec0 (c, w64 (k + 1), p.A, p.B, p.C, w.1, w.2.1, w.2.2))) := rfl
def nrm (p : Pl) : Int × Int × Int := (p.A, p.B, p.C)
theorem iTaken {p : Pl} (h : pOk p = true) (n : Nat) (hn : 502 ≤ n) : Dimpl_taken n p = some p := by
  unfold Dimpl_taken
  rw [iPlaneOk n p hn, h]; rfl
theorem nz_zv {p : Pl} (h : NzC p) : zv (nrm p) = false := by
  unfold zv nrm
  unfold NzC at h
  rw [Bool.eq_false_iff]
  simp only [ne_eq, Bool.and_eq_true, beq_iff_eq, and_true]
  omega
theorem iRank2 {l : List Pl} (hl : ∀ p ∈ l, pOk p = true) (hb : l.length ≤ 24) (n : Nat) (hn : 1000 ≤ n) {i j : Nat} (hij : i < j) (hj : j < l.length) (hc : zv (crv (gt l i) (gt l j)) = false) : ∀ (d k m : Nat), k + d = l.length → d < m → j < k → (∀ t, t < k → det3 (gt l i) (gt l j) (gt l t) = 0) →
    ∃ v, loopN (Dimpl_Rank_5 n l (l.length : Int)) m (2, (k : Int), (gt l i).A, (gt l i).B, (gt l i).C, (gt l j).A, (gt l j).B, (gt l j).C) = some v ∧ (v < 3 ↔ ¬ T3 l) := by
  intro d
  have pi := pOk_PB (hl _ (gt_mem (show i < l.length by omega)))
  have pj := pOk_PB (hl _ (gt_mem hj))
  induction d with
  | zero =>
    intro k m hk hm hjk h
    obtain ⟨m, rfl⟩ : ∃ x, m = x + 1 := ⟨m - 1, by omega⟩
    refine ⟨2, ?_, ⟨fun _ => no3_plane hc fun t ht => h t (by omega), fun _ => by omega⟩⟩
    rw [loop_suc]
    refine (irStep n l _ _ 2 (k : Int) (nrm (gt l i)) (nrm (gt l j))).trans ?_
    rw [decide_eq_false (by omega), frk_f]
  | succ d ih =>
    intro k m hk hm hjk h
    obtain ⟨m, rfl⟩ : ∃ x, m = x + 1 := ⟨m - 1, by omega⟩
    have hkl : k < l.length := by omega
    have hq := hl _ (gt_mem hkl)
    have hw : w64 ((k : Int) + 1) = ((k + 1 : Nat) : Int) := w64_suc (by unfold big; omega)
    have step : loopN (Dimpl_Rank_5 n l (l.length : Int)) (m + 1) (2, (k : Int), (gt l i).A, (gt l i).B, (gt l i).C, (gt l j).A, (gt l j).B, (gt l j).C) = frk (det3 (gt l i) (gt l j) (gt l k) != 0) (some 3) (loopN (Dimpl_Rank_5 n l (l.length : Int)) m (2, ((k + 1 : Nat) : Int), (gt l i).A, (gt l i).B, (gt l i).C, (gt l j).A, (gt l j).B, (gt l j).C)) := by
      rw [loop_suc]
      refine (irStep n l _ _ 2 (k : Int) (nrm (gt l i)) (nrm (gt l j))).trans ?_
      rw [decide_eq_true (by omega), frk_t, lget_nat, gt_some hkl, Option.bind_some, iTaken hq n (by omega), Option.bind_some, show ((2 : Int) == 0) = false from rfl, frk_f]
      refine (ir4Step n _ l _ 2 (k : Int) (gt l i) (nrm (gt l j)) (gt l k)).trans ?_
      rw [show ((2 : Int) == 1) = false from rfl, frk_f, show ((2 : Int) == 2) = true from rfl, frk_t]
      show ((Dimpl_det ((gt l i).A, (gt l i).B, (gt l i).C) ((gt l j).A, (gt l j).B, (gt l j).C) ((gt l k).A, (gt l k).B, (gt l k).C)).bind _) = _
      rw [iDet _ _ _ pi pj (pOk_PB hq), Option.bind_some, hw]; rfl
    by_cases hd : det3 (gt l i) (gt l j) (gt l k) = 0
    · obtain ⟨v, g1, g2⟩ := ih (k + 1) m (by omega) (by omega) (by omega) fun t ht => by
        by_cases e : t = k
        · subst e; exact hd
        · exact h t (by omega)
      refine ⟨v, ?_, g2⟩
      rw [step, show (det3 (gt l i) (gt l j) (gt l k) != 0) = false by simpa using hd, frk_f]; exact g1
    · refine ⟨3, ?_, ⟨fun h => by omega, fun h => absurd ⟨i, j, k, hij, hjk, hkl, hd⟩ h⟩⟩
      rw [step, show (det3 (gt l i) (gt l j) (gt l k) != 0) = true by simpa using hd, frk_t]
theorem iRank1 {l : List Pl} (hl : ∀ p ∈ l, pOk p = true) (hb : l.length ≤ 24) (n : Nat) (hn : 1000 ≤ n) {i : Nat} (hi : i < l.length) (w : Int × Int × Int) : ∀ (d k m : Nat), k + d = l.length → d < m → i < k → (∀ t, t < k → zv (crv (gt l i) (gt l t)) = true) →
    ∃ v, loopN (Dimpl_Rank_5 n l (l.length : Int)) m (1, (k : Int), (gt l i).A, (gt l i).B, (gt l i).C, w.1, w.2.1, w.2.2) = some v ∧ (v < 3 ↔ ¬ T3 l) := by
  intro d
  have pi := pOk_PB (hl _ (gt_mem hi))
  induction d with
  | zero =>
    intro k m hk hm hjk h
    obtain ⟨m, rfl⟩ : ∃ x, m = x + 1 := ⟨m - 1, by omega⟩
    refine ⟨1, ?_, ⟨fun _ => no3_line (pOk_NzC (hl _ (gt_mem hi))) fun t ht => h t (by omega), fun _ => by omega⟩⟩
    rw [loop_suc]
    refine (irStep n l _ _ 1 (k : Int) (nrm (gt l i)) w).trans ?_
    rw [decide_eq_false (by omega), frk_f]
  | succ d ih =>
    intro k m hk hm hjk h
    obtain ⟨m, rfl⟩ : ∃ x, m = x + 1 := ⟨m - 1, by omega⟩
    have hkl : k < l.length := by omega
    have hq := hl _ (gt_mem hkl)
    have hw : w64 ((k : Int) + 1) = ((k + 1 : Nat) : Int) := w64_suc (by unfold big; omega)
    have step : loopN (Dimpl_Rank_5 n l (l.length : Int)) (m + 1) (1, (k : Int), (gt l i).A, (gt l i).B, (gt l i).C, w.1, w.2.1, w.2.2) = frk (!zv (crv (gt l i) (gt l k))) (loopN (Dimpl_Rank_5 n l (l.length : Int)) m (2, ((k + 1 : Nat) : Int), (gt l i).A, (gt l i).B, (gt l i).C, (gt l k).A, (gt l k).B, (gt l k).C)) (loopN (Dimpl_Rank_5 n l (l.length : Int)) m (1, ((k + 1 : Nat) : Int), (gt l i).A, (gt l i).B, (gt l i).C, w.1, w.2.1, w.2.2)) := by
      rw [loop_suc]
      refine (irStep n l _ _ 1 (k : Int) (nrm (gt l i)) w).trans ?_
      rw [decide_eq_true (by omega), frk_t, lget_nat, gt_some hkl, Option.bind_some, iTaken hq n (by omega), Option.bind_some, show ((1 : Int) == 0) = false from rfl, frk_f]
      refine (ir4Step n _ l _ 1 (k : Int) (gt l i) w (gt l k)).trans ?_
      rw [show ((1 : Int) == 1) = true from rfl, frk_t, sCrossV pi (pOk_PB hq), Option.bind_some, hw]; rfl
    cases hz : zv (crv (gt l i) (gt l k)) with
    | true =>
      obtain ⟨v, g1, g2⟩ := ih (k + 1) m (by omega) (by omega) (by omega) fun t ht => by
        by_cases e : t = k
        · subst e; exact hz
        · exact h t (by omega)
      refine ⟨v, ?_, g2⟩
      rw [step, hz, Bool.not_true, frk_f]; exact g1
    | false =>
      obtain ⟨v, g1, g2⟩ := iRank2 hl hb n hn (i := i) (j := k) (by omega) hkl hz d (k + 1) m (by omega) (by omega) (by omega) fun t ht => by
        by_cases e : t = k
        · subst e; rw [det_cr]; unfold cr0 cr1 cr2; grind
        · have hz' := h t (by omega)
          unfold zv crv at hz'
          simp only [Bool.and_eq_true, beq_iff_eq, and_true] at hz'
          obtain ⟨z1, z2, z3⟩ := hz'
          have : det3 (gt l i) (gt l k) (gt l t) = 0 - (cr0 (gt l i) (gt l t) * (gt l k).A + cr1 (gt l i) (gt l t) * (gt l k).B + cr2 (gt l i) (gt l t) * (gt l k).C) := by unfold det3 cr0 cr1 cr2; grind
          rw [this, z1, z2, z3]; simp
      refine ⟨v, ?_, g2⟩
      rw [step, hz, Bool.not_false, frk_t]; exact g1
theorem iRank {l : List Pl} (hl : ∀ p ∈ l, pOk p = true) (hb : l.length ≤ 24) (n : Nat) (hn : 1000 ≤ n) : ∃ v, Dimpl_Rank n l = some v ∧ (v < 3 ↔ ¬ T3 l) := by
  unfold Dimpl_Rank
  obtain ⟨m, rfl⟩ : ∃ x, n = x + 1 := ⟨n - 1, by omega⟩
  rw [loop_suc]
  have st := irStep (m + 1) l (l.length : Int) (loopN (Dimpl_Rank_5 (m + 1) l (l.length : Int)) m) 0 0 (0, 0, 0) (0, 0, 0)
  by_cases h0 : l.length = 0
  · refine ⟨0, st.trans ?_, ⟨fun _ ⟨i, j, k, _, _, h, _⟩ => by omega, fun _ => by omega⟩⟩
    rw [decide_eq_false (by omega), frk_f]
  · have hl0 : 0 < l.length := by omega
    have hq := hl _ (gt_mem hl0)
    obtain ⟨v, g1, g2⟩ := iRank1 hl hb (m + 1) hn (i := 0) hl0 (0, 0, 0) (l.length - 1) 1 m (by omega) (by omega) (by omega) fun t ht => by
      obtain rfl : t = 0 := by omega
      unfold zv crv cr0 cr1 cr2
      simp only [Bool.and_eq_true, beq_iff_eq, and_true]
      refine ⟨?_, ?_, ?_⟩ <;> grind
    refine ⟨v, st.trans ?_, g2⟩
    rw [decide_eq_true (by omega), frk_t, show lget l 0 = l[0]? from lget_nat l 0, gt_some hl0, Option.bind_some, iTaken hq _ (by omega), Option.bind_some, show ((0 : Int) == 0) = true from rfl, frk_t, show zv ((gt l 0).A, (gt l 0).B, (gt l 0).C) = false from nz_zv (pOk_NzC hq), Bool.not_false, frk_t]
    exact g1
theorem boundedEq {l : List Pl} (hl : ∀ p ∈ l, pOk p = true) (hb : l.length ≤ 24) : ∃ b : Bool, ∀ n, 1000 ≤ n → Dspec_l7Bounded n l = some b ∧ Dimpl_bounded n l = some b := by
  have hp : ∀ p ∈ l, PB p := fun p h => pOk_PB (hl p h)
  by_cases h3 : T3 l
  · refine ⟨!(List.range' 0 l.length).any (badS l), fun n hn => ?_⟩
    obtain ⟨v, e1, e2⟩ := sRank hp hb n (by omega)
    obtain ⟨u, f1, f2⟩ := iRank hl hb n hn
    unfold Dspec_l7Bounded Dimpl_bounded
    rw [e1, f1, Option.bind_some, Option.bind_some, decide_eq_false (fun h => e2.1 h h3), decide_eq_false (fun h => f2.1 h h3), frk_f, frk_f, sBnd hp hb n (by omega), iBnd hp hb n (by omega), badSI]
    exact ⟨rfl, rfl⟩
  · refine ⟨false, fun n hn => ?_⟩
    obtain ⟨v, e1, e2⟩ := sRank hp hb n (by omega)
    obtain ⟨u, f1, f2⟩ := iRank hl hb n hn
    unfold Dspec_l7Bounded Dimpl_bounded
    rw [e1, f1, Option.bind_some, Option.bind_some, decide_eq_true (e2.2 h3), decide_eq_true (f2.2 h3)]
    exact ⟨rfl, rfl⟩
end Evl.T

/-! Eeb -/
namespace Evl.T
open Go Evl

/-! a tree's cells -/
structure CelB (c : List Pl) : Prop where
  ok : ∀ q ∈ c, pOk q = true
  len : c.length ≤ 24
theorem ok_flpB {p : Pl} (h : pOk p = true) : pOk (flp p) = true := by
  have hp := pOk_PB h
  unfold pOk at h ⊢
  revert h
  obtain ⟨a, b, c, d⟩ := p
  obtain ⟨h1, h2, h3, h4⟩ := hp
  unfold B at h1 h2 h3 h4
  simp only at h1 h2 h3 h4
  unfold flp
  simp only [Int.zero_sub, Int.natAbs_neg, Bool.and_eq_true, Bool.or_eq_true, decide_eq_true_eq, bne_iff_ne, ne_eq, beq_iff_eq, rIn_iff, Int.neg_eq_zero]
  omega
theorem CelB.snoc {c : List Pl} {p : Pl} (h : CelB c) (hl : c.length < 24) (hp : pOk p = true) : CelB (c ++ [p]) :=
  ⟨fun q hq => by
    rcases List.mem_append.1 hq with hq | hq
    · exact h.ok q hq
    · rw [List.mem_singleton.1 hq]; exact hp, by rw [List.length_append, List.length_singleton]; omega⟩
theorem sClStepB (n : Nat) (self : (Sol × Bool × (List Pl)) → Option (List (List Pl))) (s : Sol) (b : Bool) (path : List Pl) :
    Dspec_l8Cells_b n self (s, b, path) = (Dspec_l8Leaf s).bind fun v0 => frk v0 (frk (s.inn == b) (chk (apB 32 (0 + path.length)) (some [([] ++ path)])) (some [])) ((lget s.kids 0).bind fun v2 => (Dspec_l8Path path s.pl).bind fun v3 => (self (v2, b, v3)).bind fun v4 => (lget s.kids 1).bind fun v5 => (Dspec_l3Flip s.pl).bind fun v6 => (Dspec_l8Path path v6).bind fun v7 => (self (v5, b, v7)).bind fun v8 => chk (apB 24 (v4.length + v8.length)) (some (v4 ++ v8))) := rfl
theorem iClStepB (n : Nat) (self : (Sol × Bool × (List Pl)) → Option (List (List Pl))) (s : Sol) (b : Bool) (path : List Pl) :
    Dimpl_Solid_cells_b n self (s, b, path) = (Dimpl_Solid_isLeaf s).bind fun v0 => frk v0 (frk (s.inn == b) ((Dslices_Clone path).bind fun v1 => some [v1]) (some [])) ((lget s.kids 0).bind fun v2 => (Dimpl_with path s.pl).bind fun v3 => (self (v2, b, v3)).bind fun v4 => (lget s.kids 1).bind fun v5 => (Dimpl_flip s.pl).bind fun v6 => (Dimpl_with path v6).bind fun v7 => (self (v5, b, v7)).bind fun v8 => chk (apB 24 (v4.length + v8.length)) (some (v4 ++ v8))) := rfl
theorem aB24B {n : Nat} (h : n ≤ 1000000) : apB 24 n = true := by
  unfold apB; simp only [Bool.and_eq_true, decide_eq_true_eq]; omega
theorem aBig {n : Nat} (h : n ≤ 1000000000) : apB 32 n = true := by
  unfold apB; simp only [Bool.and_eq_true, decide_eq_true_eq]; omega
theorem clnB {l : List Pl} (h : l.length ≤ 1000) : Dslices_Clone l = some l := by
  unfold Dslices_Clone
  rw [chk_eq (aBig (by omega))]; rfl
theorem cellsB {s : Sol} {path : List Pl} (h : Rt s path) : CelB path → ∃ L : List (List Pl), (∀ c ∈ L, CelB c) ∧ L.length ≤ nod s + 1 ∧ E2 fun n m => nod s ≤ 1000 → loopN (Dspec_l8Cells_b n) m (s, true, path) = some L ∧ loopN (Dimpl_Solid_cells_b n) m (s, true, path) = some L := by
  induction h with
  | @leaf i p path hz =>
    intro hc
    have hl := hc.len
    cases i with
    | true =>
      refine ⟨[path], fun c h => by rw [List.mem_singleton.1 h]; exact hc, by simp, E2.suc (E2.of fun n m _ => ⟨?_, ?_⟩)⟩
      · rw [loop_suc, sClStepB]
        show frk true _ _ = _
        rw [frk_t]
        show frk true _ _ = _
        rw [frk_t, chk_eq (aBig (by omega))]; rfl
      · rw [loop_suc, iClStepB]
        show frk true _ _ = _
        rw [frk_t]
        show frk true _ _ = _
        rw [frk_t, clnB (by omega)]; rfl
    | false => exact ⟨[], by simp, by simp, E2.suc (E2.of fun n m _ => ⟨by rw [loop_suc, sClStepB]; rfl, by rw [loop_suc, iClStepB]; rfl⟩)⟩
  | @node p x y path hp hl h1 h2 _ _ ihx ihy =>
    intro hc
    have hpb := pOk_PB hp
    obtain ⟨L1, c1, l1, e1⟩ := ihx (hc.snoc hl hp)
    obtain ⟨L2, c2, l2, e2⟩ := ihy (hc.snoc hl (ok_flpB hp))
    refine ⟨L1 ++ L2, fun c h => (List.mem_append.1 h).elim (c1 c) (c2 c), by rw [List.length_append, nod2]; omega, E2.suc ((e1.and e2).mono fun n m ⟨g1, g2⟩ hn => ?_)⟩
    rw [nod2] at hn
    obtain ⟨p1, p2⟩ := g1 (by omega)
    obtain ⟨p3, p4⟩ := g2 (by omega)
    refine ⟨?_, ?_⟩
    · rw [loop_suc, sClStepB]
      show ((Dspec_l8Path path p).bind fun v3 => (loopN (Dspec_l8Cells_b n) m (x, true, v3)).bind fun v4 => (Dspec_l3Flip p).bind fun v6 => (Dspec_l8Path path v6).bind fun v7 => (loopN (Dspec_l8Cells_b n) m (y, true, v7)).bind fun v8 => chk (apB 24 (v4.length + v8.length)) (some (v4 ++ v8))) = _
      rw [sPath _ _ (by omega), Option.bind_some, p1, Option.bind_some, sFlip p hpb, Option.bind_some, sPath _ _ (by omega), Option.bind_some, p3, Option.bind_some, chk_eq (aB24B (by omega))]
    · rw [loop_suc, iClStepB]
      show ((Dimpl_with path p).bind fun v3 => (loopN (Dimpl_Solid_cells_b n) m (x, true, v3)).bind fun v4 => (Dimpl_flip p).bind fun v6 => (Dimpl_with path v6).bind fun v7 => (loopN (Dimpl_Solid_cells_b n) m (y, true, v7)).bind fun v8 => chk (apB 24 (v4.length + v8.length)) (some (v4 ++ v8))) = _
      rw [iPath _ _ (by omega), Option.bind_some, p2, Option.bind_some, iFlip p hpb, Option.bind_some, iPath _ _ (by omega), Option.bind_some, p4, Option.bind_some, chk_eq (aB24B (by omega))]
/-! floors -/
def flo (x w : Int) : Int := if x.tmod w < 0 then x.tdiv w - 1 else x.tdiv w
def ceo (x w : Int) : Int := 0 - flo (0 - x) w
theorem flo_B {x w : Int} (hx : x.natAbs ≤ 1000000000) : -1000000001 ≤ flo x w ∧ flo x w ≤ 1000000000 := by
  have : (x.tdiv w).natAbs ≤ x.natAbs := by rw [Int.natAbs_tdiv]; exact Nat.div_le_self _ _
  unfold flo; split <;> omega
theorem rmC {a b : Int} (hb : b ≠ 0) : rm .i64 a b = some (a.tmod b) := by
  unfold rm
  rw [if_neg hb]
theorem iFlo {x w : Int} (hx : x.natAbs ≤ 1000000000) (hw : 1 ≤ w) : Dimpl_floor x w = some (flo x w) := by
  have hq : (x.tdiv w).natAbs ≤ x.natAbs := by rw [Int.natAbs_tdiv]; exact Nat.div_le_self _ _
  unfold Dimpl_floor flo
  rw [qtC (by omega) hx, Option.bind_some, rmC (by omega), Option.bind_some]
  by_cases h : x.tmod w < 0
  · rw [decide_eq_true h, frk_t, if_pos h, w64_id (by omega) (by omega)]
  · rw [decide_eq_false h, frk_f, if_neg h]
theorem sFlo {x w : Int} (hx : x.natAbs ≤ 1000000000) (hw : 1 ≤ w) (hw2 : w ≤ 1000000000) : Dspec_l17Floor x w = some (flo x w) := by
  have hq : (x.tdiv w).natAbs ≤ x.natAbs := by rw [Int.natAbs_tdiv]; exact Nat.div_le_self _ _
  have hm := Int.mul_tdiv_add_tmod x w
  have hb : (x.tdiv w * w).natAbs ≤ 1000000000 * 1000000000 := by rw [Int.natAbs_mul]; exact Nat.mul_le_mul (by omega) (by omega)
  rw [Int.mul_comm] at hm
  unfold Dspec_l17Floor flo
  rw [qtC (by omega) hx, Option.bind_some, w64_id (by omega) (by omega)]
  by_cases h : x.tmod w < 0
  · rw [decide_eq_true (by omega), frk_t, if_pos h, w64_id (by omega) (by omega)]
  · rw [decide_eq_false (by omega), frk_f, if_neg h]
theorem sCeo {x w : Int} (hx : x.natAbs ≤ 1000000000) (hw : 1 ≤ w) (hw2 : w ≤ 1000000000) : Dspec_l17Ceil x w = some (ceo x w) := by
  have := flo_B (x := 0 - x) (w := w) (by omega)
  unfold Dspec_l17Ceil ceo
  rw [w64_id (by omega) (by omega), sFlo (by omega) hw hw2, Option.bind_some, w64_id (by omega) (by omega)]
def lst (a b : Int) : Int := if a < b then a else b
theorem sLst (a b : Int) : Dspec_l17Least a b = some (lst a b) := by
  unfold Dspec_l17Least lst
  by_cases h : a < b
  · rw [decide_eq_true h, frk_t, if_pos h]
  · rw [decide_eq_false h, frk_f, if_neg h]
/-! boxes -/
structure Bx where
  (a b c x y z : Int)
def pA (s : Spot) : Bx := ⟨flo s.X s.W, flo s.Y s.W, flo s.Z s.W, ceo s.X s.W, ceo s.Y s.W, ceo s.Z s.W⟩
structure BxB (t : Bx) : Prop where
  a : t.a.natAbs ≤ 2000000000
  b : t.b.natAbs ≤ 2000000000
  c : t.c.natAbs ≤ 2000000000
  x : t.x.natAbs ≤ 2000000000
  y : t.y.natAbs ≤ 2000000000
  z : t.z.natAbs ≤ 2000000000
theorem ceo_B {x w : Int} (hx : x.natAbs ≤ 1000000000) : -1000000000 ≤ ceo x w ∧ ceo x w ≤ 1000000001 := by
  have := flo_B (x := 0 - x) (w := w) (by omega)
  unfold ceo; omega
theorem pA_B {s : Spot} (h : SpOk s) : BxB (pA s) := by
  have a := flo_B (w := s.W) h.x
  have b := flo_B (w := s.W) h.y
  have c := flo_B (w := s.W) h.z
  have x := ceo_B (w := s.W) h.x
  have y := ceo_B (w := s.W) h.y
  have z := ceo_B (w := s.W) h.z
  exact ⟨show (flo s.X s.W).natAbs ≤ _ by omega, show (flo s.Y s.W).natAbs ≤ _ by omega, show (flo s.Z s.W).natAbs ≤ _ by omega, show (ceo s.X s.W).natAbs ≤ _ by omega, show (ceo s.Y s.W).natAbs ≤ _ by omega, show (ceo s.Z s.W).natAbs ≤ _ by omega⟩
def mxx (a b : Int) : Int := if b > a then b else a
def mnn (a b : Int) : Int := if b < a then b else a
/-- The box made wider. -/
def wid (t u : Bx) : Bx := ⟨mnn t.a u.a, mnn t.b u.b, mnn t.c u.c, mxx t.x u.x, mxx t.y u.y, mxx t.z u.z⟩
theorem wid_B {t u : Bx} (h : BxB t) (k : BxB u) : BxB (wid t u) := by
  obtain ⟨h1, h2, h3, h4, h5, h6⟩ := h
  obtain ⟨k1, k2, k3, k4, k5, k6⟩ := k
  refine ⟨?_, ?_, ?_, ?_, ?_, ?_⟩
  · show (mnn _ _).natAbs ≤ _; unfold mnn; split <;> assumption
  · show (mnn _ _).natAbs ≤ _; unfold mnn; split <;> assumption
  · show (mnn _ _).natAbs ≤ _; unfold mnn; split <;> assumption
  · show (mxx _ _).natAbs ≤ _; unfold mxx; split <;> assumption
  · show (mxx _ _).natAbs ≤ _; unfold mxx; split <;> assumption
  · show (mxx _ _).natAbs ≤ _; unfold mxx; split <;> assumption
theorem lst_mnn (a b : Int) : lst a b = mnn a b := by unfold lst mnn; split <;> split <;> omega
theorem lst_mxx {a b : Int} : 0 - lst (0 - a) (0 - b) = mxx a b := by unfold lst mxx; split <;> split <;> omega
/-- What the reference keeps. -/
def stS (t : Bool × Bx) (s : Spot) : Bool × Bx := (false, if t.1 then pA s else wid t.2 (pA s))
structure IsMn (S : List Spot) (f : Spot → Int) (m : Int) : Prop where
  is : ∃ s ∈ S, f s = m
  le : ∀ s ∈ S, m ≤ f s
structure IsMx (S : List Spot) (f : Spot → Int) (m : Int) : Prop where
  is : ∃ s ∈ S, f s = m
  ge : ∀ s ∈ S, f s ≤ m
structure IsB (S : List Spot) (t : Bx) : Prop where
  a : IsMn S (fun s => (pA s).a) t.a
  b : IsMn S (fun s => (pA s).b) t.b
  c : IsMn S (fun s => (pA s).c) t.c
  x : IsMx S (fun s => (pA s).x) t.x
  y : IsMx S (fun s => (pA s).y) t.y
  z : IsMx S (fun s => (pA s).z) t.z
theorem mn_one (s : Spot) (f : Spot → Int) : IsMn [s] f (f s) := ⟨⟨s, by simp, rfl⟩, fun x hx => by rw [List.mem_singleton.1 hx]; exact Int.le_refl _⟩
theorem mx_one (s : Spot) (f : Spot → Int) : IsMx [s] f (f s) := ⟨⟨s, by simp, rfl⟩, fun x hx => by rw [List.mem_singleton.1 hx]; exact Int.le_refl _⟩
theorem mn_add {S : List Spot} {f : Spot → Int} {m : Int} (h : IsMn S f m) (s : Spot) : IsMn (S ++ [s]) f (mnn m (f s)) := by
  obtain ⟨⟨x, hx, e⟩, h2⟩ := h
  unfold mnn
  by_cases hc : f s < m
  · rw [if_pos hc]
    refine ⟨⟨s, by simp, rfl⟩, fun y hy => ?_⟩
    rcases List.mem_append.1 hy with hy | hy
    · have := h2 y hy; omega
    · rw [List.mem_singleton.1 hy]; exact Int.le_refl _
  · rw [if_neg hc]
    refine ⟨⟨x, by simp [hx], e⟩, fun y hy => ?_⟩
    rcases List.mem_append.1 hy with hy | hy
    · exact h2 y hy
    · rw [List.mem_singleton.1 hy]; omega
theorem mx_add {S : List Spot} {f : Spot → Int} {m : Int} (h : IsMx S f m) (s : Spot) : IsMx (S ++ [s]) f (mxx m (f s)) := by
  obtain ⟨⟨x, hx, e⟩, h2⟩ := h
  unfold mxx
  by_cases hc : f s > m
  · rw [if_pos hc]
    refine ⟨⟨s, by simp, rfl⟩, fun y hy => ?_⟩
    rcases List.mem_append.1 hy with hy | hy
    · have := h2 y hy; omega
    · rw [List.mem_singleton.1 hy]; exact Int.le_refl _
  · rw [if_neg hc]
    refine ⟨⟨x, by simp [hx], e⟩, fun y hy => ?_⟩
    rcases List.mem_append.1 hy with hy | hy
    · exact h2 y hy
    · rw [List.mem_singleton.1 hy]; omega
theorem mn_eq {S T : List Spot} (hST : ∀ s, s ∈ S ↔ s ∈ T) {f : Spot → Int} {m k : Int} (h : IsMn S f m) (h' : IsMn T f k) : m = k := by
  obtain ⟨⟨x, hx, e⟩, h2⟩ := h
  obtain ⟨⟨y, hy, e'⟩, h3⟩ := h'
  have a := h2 y ((hST y).2 hy)
  have b := h3 x ((hST x).1 hx)
  omega
theorem mx_eq {S T : List Spot} (hST : ∀ s, s ∈ S ↔ s ∈ T) {f : Spot → Int} {m k : Int} (h : IsMx S f m) (h' : IsMx T f k) : m = k := by
  obtain ⟨⟨x, hx, e⟩, h2⟩ := h
  obtain ⟨⟨y, hy, e'⟩, h3⟩ := h'
  have a := h2 y ((hST y).2 hy)
  have b := h3 x ((hST x).1 hx)
  omega
theorem isB_eq {S T : List Spot} (hST : ∀ s, s ∈ S ↔ s ∈ T) {t u : Bx} (h : IsB S t) (k : IsB T u) : t = u := by
  obtain ⟨a, b, c, x, y, z⟩ := t
  obtain ⟨a', b', c', x', y', z'⟩ := u
  have e1 := mn_eq hST h.a k.a
  have e2 := mn_eq hST h.b k.b
  have e3 := mn_eq hST h.c k.c
  have e4 := mx_eq hST h.x k.x
  have e5 := mx_eq hST h.y k.y
  have e6 := mx_eq hST h.z k.z
  simp only at e1 e2 e3 e4 e5 e6
  rw [e1, e2, e3, e4, e5, e6]
theorem isB_one (s : Spot) : IsB [s] (pA s) := ⟨mn_one s _, mn_one s _, mn_one s _, mx_one s _, mx_one s _, mx_one s _⟩
theorem isB_add {S : List Spot} {t : Bx} (h : IsB S t) (s : Spot) : IsB (S ++ [s]) (wid t (pA s)) := ⟨mn_add h.a s, mn_add h.b s, mn_add h.c s, mx_add h.x s, mx_add h.y s, mx_add h.z s⟩
theorem foldS : ∀ (R S : List Spot) (t : Bool × Bx), ((S = [] ∧ t.1 = true) ∨ (S ≠ [] ∧ t.1 = false ∧ IsB S t.2)) → ((S ++ R = [] ∧ (R.foldl stS t).1 = true) ∨ (S ++ R ≠ [] ∧ (R.foldl stS t).1 = false ∧ IsB (S ++ R) (R.foldl stS t).2))
  | [], S, t, h => by simpa using h
  | s :: R, S, t, h => by
    have := foldS R (S ++ [s]) (stS t s) (by
      refine .inr ⟨by simp, rfl, ?_⟩
      rcases h with ⟨rfl, e⟩ | ⟨_, e, h⟩
      · unfold stS; rw [e, if_pos rfl]; exact isB_one s
      · unfold stS; rw [e, if_neg (by simp)]; exact isB_add h s)
    rw [List.append_assoc] at this
    exact this
def iniI : Bx := ⟨1000000000, 1000000000, 1000000000, -1000000000, -1000000000, -1000000000⟩
theorem wid_ini {s : Spot} (h : SpOk s) : wid iniI (pA s) = pA s := by
  have a := flo_B (w := s.W) h.x
  have b := flo_B (w := s.W) h.y
  have c := flo_B (w := s.W) h.z
  have x := ceo_B (w := s.W) h.x
  have y := ceo_B (w := s.W) h.y
  have z := ceo_B (w := s.W) h.z
  have mn : ∀ {v : Int}, v ≤ 1000000000 → mnn 1000000000 v = v := fun h => by unfold mnn; split <;> omega
  have mx : ∀ {v : Int}, -1000000000 ≤ v → mxx (-1000000000) v = v := fun h => by unfold mxx; split <;> omega
  unfold wid iniI pA
  simp only [mn a.2, mn b.2, mn c.2, mx x.1, mx y.1, mx z.1]
theorem foldI : ∀ (R S : List Spot) (t : Bx), (∀ s ∈ R, SpOk s) → ((S = [] ∧ t = iniI) ∨ (S ≠ [] ∧ IsB S t)) → ((S ++ R = [] ∧ R.foldl (fun t s => wid t (pA s)) t = iniI) ∨ (S ++ R ≠ [] ∧ IsB (S ++ R) (R.foldl (fun t s => wid t (pA s)) t)))
  | [], S, t, _, h => by simpa using h
  | s :: R, S, t, hR, h => by
    have := foldI R (S ++ [s]) (wid t (pA s)) (fun x hx => hR x (List.mem_cons_of_mem _ hx)) (by
      refine .inr ⟨by simp, ?_⟩
      rcases h with ⟨rfl, rfl⟩ | ⟨_, h⟩
      · rw [wid_ini (hR s List.mem_cons_self)]; exact isB_one s
      · exact isB_add h s)
    rw [List.append_assoc] at this
    exact this
/-! the end -/
def zPt : Pt := ⟨0, 0, 0⟩
def ptG (p : Pt) : Bool := rIn p.X (-1000000) 1000000 && (rIn p.Y (-1000000) 1000000 && rIn p.Z (-1000000) 1000000)
theorem sPtG (p : Pt) : Dspec_PtOk p = some (ptG p) := by
  unfold Dspec_PtOk ptG
  simp only [sIn, Option.bind_some]
  cases rIn p.X (-1000000) 1000000 <;> cases rIn p.Y (-1000000) 1000000 <;> rfl
theorem iPtG (p : Pt) : Dimpl_PtOk p = some (ptG p) := by
  unfold Dimpl_PtOk ptG
  simp only [iIn, Option.bind_some]
  cases rIn p.X (-1000000) 1000000 <;> cases rIn p.Y (-1000000) 1000000 <;> rfl
def fin (t : Bx) : Pt × Pt × Bool := if ptG ⟨t.a, t.b, t.c⟩ && ptG ⟨t.x, t.y, t.z⟩ then (⟨t.a, t.b, t.c⟩, ⟨t.x, t.y, t.z⟩, true) else (zPt, zPt, false)
theorem sFin (n : Nat) (f : Bool) (t : Bx) : Dspec_Box_2 n f 0 0 0 0 0 0 t.a t.b t.c t.x t.y t.z = some (if f then (zPt, zPt, false) else fin t) := by
  unfold Dspec_Box_2 Dspec_Box_3 fin
  rw [sPtG, sPtG]
  cases f <;> cases ptG ⟨t.a, t.b, t.c⟩ <;> cases ptG ⟨t.x, t.y, t.z⟩ <;> rfl
theorem iFin (n : Nat) (t : Bx) : Dimpl_Box_1 n 0 0 0 0 0 0 t.a t.b t.c t.x t.y t.z = some (fin t) := by
  unfold Dimpl_Box_1 Dimpl_Box_2 fin
  rw [iPtG, iPtG]
  cases ptG ⟨t.a, t.b, t.c⟩ <;> cases ptG ⟨t.x, t.y, t.z⟩ <;> rfl
/-! the reference's loops -/
abbrev S8 := Bool × Int × Int × Int × Int × Int × Int × Int
def tp (f : Bool) (k : Int) (t : Bx) : S8 := (f, k, t.a, t.b, t.c, t.x, t.y, t.z)
theorem sb1 (n : Nat) (rec0 : S8 → Option (Pt × Pt × Bool)) (L : List (List Pl)) (t9 : Int) (M : List Spot) (rec1 : S8 → Option (Pt × Pt × Bool)) (f : Bool) (k : Int) (t : Bx) :
    Dspec_Box_1 n rec0 L 0 0 0 0 0 0 t9 M rec1 (tp f k t) = frk (decide (k < (M.length : Int))) ((lget M k).bind fun v5 => (Dspec_l17Floor v5.X v5.W).bind fun v6 => (Dspec_l17Floor v5.Y v5.W).bind fun v7 => (Dspec_l17Floor v5.Z v5.W).bind fun v8 => (Dspec_l17Ceil v5.X v5.W).bind fun v9 => (Dspec_l17Ceil v5.Y v5.W).bind fun v10 => (Dspec_l17Ceil v5.Z v5.W).bind fun v11 => frk f (Dspec_Box_0 n rec1 rec0 t9 M L 0 0 0 0 0 0 false k v6 v7 v8 v9 v10 v11 v6 v7 v8 v9 v10 v11) (Dspec_Box_0 n rec1 rec0 t9 M L 0 0 0 0 0 0 f k t.a t.b t.c t.x t.y t.z v6 v7 v8 v9 v10 v11)) (rec0 (tp f (w64 (t9 + 1)) t)) := rfl
theorem sb0 (n : Nat) (rec1 rec0 : S8 → Option (Pt × Pt × Bool)) (t9 : Int) (M : List Spot) (L : List (List Pl)) (f : Bool) (k : Int) {t u : Bx} (ht : BxB t) (hu : BxB u) :
    Dspec_Box_0 n rec1 rec0 t9 M L 0 0 0 0 0 0 f k t.a t.b t.c t.x t.y t.z u.a u.b u.c u.x u.y u.z = rec1 (tp f (w64 (k + 1)) (wid t u)) := by
  have w : ∀ {v : Int}, v.natAbs ≤ 2000000000 → w64 (0 - v) = 0 - v := fun h => w64_id (by omega) (by omega)
  have wl : ∀ {v x : Int}, v.natAbs ≤ 2000000000 → x.natAbs ≤ 2000000000 → w64 (0 - lst (0 - v) (0 - x)) = mxx v x := fun {v x} h1 h2 => by
    have e := lst_mxx (a := v) (b := x)
    have hm : (mxx v x).natAbs ≤ 2000000000 := by unfold mxx; split <;> assumption
    rw [e, w64_id (by omega) (by omega)]
  unfold Dspec_Box_0
  simp only [sLst, Option.bind_some, w ht.x, w ht.y, w ht.z, w hu.x, w hu.y, w hu.z, wl ht.x hu.x, wl ht.y hu.y, wl ht.z hu.z]
  simp only [lst_mnn]
  rfl
theorem wid_self (t : Bx) : wid t t = t := by
  have a : ∀ v, mnn v v = v := fun v => by unfold mnn; split <;> rfl
  have b : ∀ v, mxx v v = v := fun v => by unfold mxx; split <;> rfl
  unfold wid
  simp only [a, b]
theorem sIn1 (n : Nat) (rec0 : S8 → Option (Pt × Pt × Bool)) (L : List (List Pl)) (t9 : Int) {M : List Spot} (hM : ∀ s ∈ M, SpOk s) (hm : M.length ≤ 20000) : ∀ (d k m : Nat) (f : Bool) (t : Bx), k + d = M.length → d < m → BxB t →
    loopN (Dspec_Box_1 n rec0 L 0 0 0 0 0 0 t9 M) m (tp f (k : Int) t) = rec0 (tp ((M.drop k).foldl stS (f, t)).1 (w64 (t9 + 1)) ((M.drop k).foldl stS (f, t)).2) ∧ BxB ((M.drop k).foldl stS (f, t)).2 := by
  intro d
  induction d with
  | zero =>
    intro k m f t hk hm' ht
    obtain ⟨m, rfl⟩ : ∃ j, m = j + 1 := ⟨m - 1, by omega⟩
    rw [List.drop_eq_nil_of_le (by omega)]
    refine ⟨?_, ht⟩
    rw [loop_suc, sb1, decide_eq_false (by omega), frk_f]; rfl
  | succ d ih =>
    intro k m f t hk hm' ht
    obtain ⟨m, rfl⟩ : ∃ j, m = j + 1 := ⟨m - 1, by omega⟩
    have hkl : k < M.length := by omega
    have hs := hM _ (List.getElem_mem hkl)
    have hw := hs.w
    rw [List.drop_eq_getElem_cons hkl, List.foldl_cons, loop_suc, sb1, decide_eq_true (by omega), frk_t, lget_nat, List.getElem?_eq_getElem hkl, Option.bind_some, sFlo hs.x hw.1 hw.2, Option.bind_some, sFlo hs.y hw.1 hw.2, Option.bind_some, sFlo hs.z hw.1 hw.2, Option.bind_some, sCeo hs.x hw.1 hw.2, Option.bind_some, sCeo hs.y hw.1 hw.2, Option.bind_some, sCeo hs.z hw.1 hw.2, Option.bind_some]
    have hp := pA_B hs
    cases f with
    | true =>
      rw [frk_t]
      obtain ⟨g1, g2⟩ := ih (k + 1) m false (pA M[k]) (by omega) (by omega) hp
      refine ⟨?_, g2⟩
      refine (sb0 n _ rec0 t9 M L false (k : Int) hp hp).trans ?_
      rw [wid_self, w64_suc (by unfold big; omega)]
      exact g1
    | false =>
      rw [frk_f]
      obtain ⟨g1, g2⟩ := ih (k + 1) m false (wid t (pA M[k])) (by omega) (by omega) (wid_B ht hp)
      refine ⟨?_, g2⟩
      refine (sb0 n _ rec0 t9 M L false (k : Int) ht hp).trans ?_
      rw [w64_suc (by unfold big; omega)]
      exact g1
theorem sb4 (n : Nat) (L : List (List Pl)) (rec0 : S8 → Option (Pt × Pt × Bool)) (f : Bool) (k : Int) (t : Bx) :
    Dspec_Box_4 n L 0 0 0 0 0 0 rec0 (tp f k t) = frk (decide (k < (L.length : Int))) ((lget L k).bind fun v1 => (Dspec_l7Bounded n v1).bind fun v2 => frk (!v2) (some (zPt, zPt, false)) ((lget L k).bind fun v3 => (Dspec_l7Corners n v3).bind fun v4 => loopN (Dspec_Box_1 n rec0 L 0 0 0 0 0 0 k v4) n (tp f 0 t))) (Dspec_Box_2 n f 0 0 0 0 0 0 t.a t.b t.c t.x t.y t.z) := rfl
theorem sOut (n : Nat) (hn : 20001 ≤ n) {L : List (List Pl)} (hL : L.length ≤ 1000) (bd : List Pl → Bool) (cS : List Pl → List Spot) (hB : ∀ c ∈ L, Dspec_l7Bounded n c = some (bd c)) (hC : ∀ c ∈ L, Dspec_l7Corners n c = some (cS c) ∧ (∀ s ∈ cS c, SpOk s) ∧ (cS c).length ≤ 20000) :
    ∀ (d k m : Nat) (f : Bool) (t : Bx), k + d = L.length → d < m → BxB t →
      loopN (Dspec_Box_4 n L 0 0 0 0 0 0) m (tp f (k : Int) t) = some (if (L.drop k).all bd then (if (((L.drop k).flatMap cS).foldl stS (f, t)).1 then (zPt, zPt, false) else fin (((L.drop k).flatMap cS).foldl stS (f, t)).2) else (zPt, zPt, false)) := by
  intro d
  induction d with
  | zero =>
    intro k m f t hk hm ht
    obtain ⟨m, rfl⟩ : ∃ j, m = j + 1 := ⟨m - 1, by omega⟩
    rw [List.drop_eq_nil_of_le (by omega), loop_suc, sb4, decide_eq_false (by omega), frk_f, sFin]; rfl
  | succ d ih =>
    intro k m f t hk hm ht
    obtain ⟨m, rfl⟩ : ∃ j, m = j + 1 := ⟨m - 1, by omega⟩
    have hkl : k < L.length := by omega
    have hc := List.getElem_mem hkl
    obtain ⟨c1, c2, c3⟩ := hC _ hc
    rw [List.drop_eq_getElem_cons hkl, List.all_cons, List.flatMap_cons, List.foldl_append, loop_suc, sb4, decide_eq_true (by omega), frk_t, lget_nat, List.getElem?_eq_getElem hkl, Option.bind_some, hB _ hc, Option.bind_some, Option.bind_some, c1, Option.bind_some]
    cases bd L[k] with
    | false => rfl
    | true =>
      rw [Bool.not_true, frk_f, Bool.true_and]
      obtain ⟨g1, g2⟩ := sIn1 n (loopN (Dspec_Box_4 n L 0 0 0 0 0 0) m) L (k : Int) c2 c3 (cS L[k]).length 0 n f t (by omega) (by omega) ht
      rw [List.drop_zero] at g1 g2
      refine g1.trans ?_
      rw [w64_suc (by unfold big; omega)]
      exact ih (k + 1) m _ _ (by omega) (by omega) g2
/-! the program's loops -/
abbrev I7 := Int × Int × Int × Int × Int × Int × Int
def tq (k : Int) (t : Bx) : I7 := (k, t.a, t.b, t.c, t.x, t.y, t.z)
theorem ib3 (n : Nat) (S : List Spot) (rec1 : I7 → Option (Pt × Pt × Bool)) (k : Int) (t : Bx) :
    Dimpl_Box_3 n (S.length : Int) 0 0 0 0 0 0 S rec1 (tq k t) = frk (decide (k < (S.length : Int))) ((lget S k).bind fun v5 => (Dimpl_floor v5.X v5.W).bind fun v6 => (Dimpl_floor v5.Y v5.W).bind fun v7 => (Dimpl_floor v5.Z v5.W).bind fun v8 => (Dimpl_floor (w64 (0 - v5.X)) v5.W).bind fun v9 => (Dimpl_floor (w64 (0 - v5.Y)) v5.W).bind fun v10 => (Dimpl_floor (w64 (0 - v5.Z)) v5.W).bind fun v11 => rec1 (w64 (k + 1), mnn t.a v6, mnn t.b v7, mnn t.c v8, mxx t.x (w64 (0 - v9)), mxx t.y (w64 (0 - v10)), mxx t.z (w64 (0 - v11)))) (Dimpl_Box_1 n 0 0 0 0 0 0 t.a t.b t.c t.x t.y t.z) := rfl
theorem iIn3 (n : Nat) {S : List Spot} (hS : ∀ s ∈ S, SpOk s) (hm : S.length ≤ 100000000) : ∀ (d k m : Nat) (t : Bx), k + d = S.length → d < m →
    loopN (Dimpl_Box_3 n (S.length : Int) 0 0 0 0 0 0 S) m (tq (k : Int) t) = some (fin ((S.drop k).foldl (fun t s => wid t (pA s)) t)) := by
  intro d
  induction d with
  | zero =>
    intro k m t hk hm'
    obtain ⟨m, rfl⟩ : ∃ j, m = j + 1 := ⟨m - 1, by omega⟩
    rw [List.drop_eq_nil_of_le (by omega), loop_suc, ib3, decide_eq_false (by omega), frk_f, iFin]; rfl
  | succ d ih =>
    intro k m t hk hm'
    obtain ⟨m, rfl⟩ : ∃ j, m = j + 1 := ⟨m - 1, by omega⟩
    have hkl : k < S.length := by omega
    have hs := hS _ (List.getElem_mem hkl)
    have hw := hs.w
    have hx := hs.x; have hy := hs.y; have hz := hs.z
    have wn : ∀ {v : Int}, v.natAbs ≤ 1000000000 → w64 (0 - v) = 0 - v := fun h => w64_id (by omega) (by omega)
    have wf : ∀ {v w : Int}, v.natAbs ≤ 1000000000 → w64 (0 - flo (0 - v) w) = ceo v w := fun {v w} h => by
      have := flo_B (x := 0 - v) (w := w) (by omega)
      rw [w64_id (by omega) (by omega)]; rfl
    rw [List.drop_eq_getElem_cons hkl, List.foldl_cons, loop_suc, ib3, decide_eq_true (by omega), frk_t, lget_nat, List.getElem?_eq_getElem hkl, Option.bind_some, iFlo hx hw.1, Option.bind_some, iFlo hy hw.1, Option.bind_some, iFlo hz hw.1, Option.bind_some, wn hx, wn hy, wn hz, iFlo (by omega) hw.1, Option.bind_some, iFlo (by omega) hw.1, Option.bind_some, iFlo (by omega) hw.1, Option.bind_some, wf hx, wf hy, wf hz, w64_suc (by unfold big; omega)]
    exact ih (k + 1) m (wid t (pA S[k])) (by omega) (by omega)
theorem ib4 (n : Nat) (L : List (List Pl)) (rec0 : (Int × List Spot) → Option (Pt × Pt × Bool)) (k : Int) (a : List Spot) :
    Dimpl_Box_4 n L (L.length : Int) 0 0 0 0 0 0 rec0 (k, a) = frk (decide (k < (L.length : Int))) ((lget L k).bind fun v1 => (Dimpl_bounded n v1).bind fun v2 => frk (!v2) (some (zPt, zPt, false)) ((Dimpl_corners n v1).bind fun v3 => chk (apB 32 (a.length + v3.length)) (rec0 (w64 (k + 1), (a ++ v3))))) (frk ((a.length : Int) == 0) (some (zPt, zPt, false)) (loopN (Dimpl_Box_3 n (a.length : Int) 0 0 0 0 0 0 a) n (tq 0 iniI))) := rfl
theorem iOut (n : Nat) (hn : 100000001 ≤ n) {L : List (List Pl)} (hL : L.length ≤ 1000) (bd : List Pl → Bool) (cI : List Pl → List Spot) (hB : ∀ c ∈ L, Dimpl_bounded n c = some (bd c)) (hC : ∀ c ∈ L, Dimpl_corners n c = some (cI c) ∧ (∀ s ∈ cI c, SpOk s) ∧ (cI c).length ≤ 20000) :
    ∀ (d k m : Nat) (a : List Spot), k + d = L.length → d < m → (∀ s ∈ a, SpOk s) → a.length ≤ k * 20000 →
      loopN (Dimpl_Box_4 n L (L.length : Int) 0 0 0 0 0 0) m ((k : Int), a) = some (if (L.drop k).all bd then (if (a ++ (L.drop k).flatMap cI).isEmpty then (zPt, zPt, false) else fin ((a ++ (L.drop k).flatMap cI).foldl (fun t s => wid t (pA s)) iniI)) else (zPt, zPt, false)) := by
  intro d
  induction d with
  | zero =>
    intro k m a hk hm ha hl
    obtain ⟨m, rfl⟩ : ∃ j, m = j + 1 := ⟨m - 1, by omega⟩
    have hl' : a.length ≤ 20000000 := by
      have : k * 20000 ≤ 1000 * 20000 := Nat.mul_le_mul_right _ (by omega)
      omega
    rw [List.drop_eq_nil_of_le (by omega), loop_suc, ib4, decide_eq_false (by omega), frk_f, List.flatMap_nil, List.append_nil, List.all_nil, if_pos rfl]
    cases a with
    | nil => rfl
    | cons s a =>
      rw [show (((s :: a).length : Int) == 0) = false by rw [beq_eq_false_iff_ne, List.length_cons]; omega, frk_f]
      have := iIn3 n ha (by omega) (s :: a).length 0 n iniI (by omega) (by omega)
      rw [List.drop_zero] at this
      exact this
  | succ d ih =>
    intro k m a hk hm ha hl
    obtain ⟨m, rfl⟩ : ∃ j, m = j + 1 := ⟨m - 1, by omega⟩
    have hkl : k < L.length := by omega
    have hc := List.getElem_mem hkl
    obtain ⟨c1, c2, c3⟩ := hC _ hc
    have hl' : a.length ≤ 20000000 := by
      have : k * 20000 ≤ 1000 * 20000 := Nat.mul_le_mul_right _ (by omega)
      omega
    rw [List.drop_eq_getElem_cons hkl, List.all_cons, List.flatMap_cons, loop_suc, ib4, decide_eq_true (by omega), frk_t, lget_nat, List.getElem?_eq_getElem hkl, Option.bind_some, hB _ hc, Option.bind_some, c1, Option.bind_some]
    cases bd L[k] with
    | false => rfl
    | true =>
      rw [Bool.not_true, frk_f, Bool.true_and, chk_eq (aBig (by omega)), w64_suc (by unfold big; omega), ← List.append_assoc]
      exact ih (k + 1) m (a ++ cI L[k]) (by omega) (by omega) (fun s hs => (List.mem_append.1 hs).elim (ha s) (c2 s)) (by rw [List.length_append, Nat.succ_mul]; omega)
open Classical in
theorem boxEq (a : Sol) (ha : Lens a) : ∃ v, Ev fun n => Dspec_Box n a = some v ∧ Dimpl_Box n a = some v := by
  have e1 := sSolidOk a ha
  have e2 := iSolidOk a
  by_cases hr : Right a
  · obtain ⟨L, c1, c2, hE⟩ := cellsB hr.1 ⟨by simp, by simp⟩
    have hn := hr.2
    have hx : ∀ c : List Pl, ∃ x : Bool × List Spot × List Spot, c ∈ L → (∀ n, 1000000001 ≤ n → (Dspec_l7Bounded n c = some x.1 ∧ Dimpl_bounded n c = some x.1) ∧ Dspec_l7Corners n c = some x.2.1 ∧ Dimpl_corners n c = some x.2.2) ∧ ((∀ s ∈ x.2.1, SpOk s) ∧ x.2.1.length ≤ 20000) ∧ ((∀ s ∈ x.2.2, SpOk s) ∧ x.2.2.length ≤ 20000) ∧ ∀ s, s ∈ x.2.1 ↔ s ∈ x.2.2 := fun c => by
      by_cases hc : c ∈ L
      · have hg := c1 c hc
        have hp : ∀ p ∈ c, PB p := fun p h => pOk_PB (hg.ok p h)
        obtain ⟨b, hb⟩ := boundedEq hg.ok hg.len
        obtain ⟨M1, a1, _, a3, a4⟩ := sCorners hp hg.len
        obtain ⟨M2, b1, _, b3, b4⟩ := iCorners hp hg.len
        exact ⟨(b, M1, M2), fun _ => ⟨fun n hn => ⟨hb n (by omega), a4 n hn, b4 n hn⟩, ⟨fun s hs => ((a1 s).1 hs).ok hp, by show M1.length ≤ _; omega⟩, ⟨fun s hs => ((b1 s).1 hs).ok hp, by show M2.length ≤ _; omega⟩, fun s => by rw [a1, b1]⟩⟩
      · exact ⟨(false, [], []), fun h => absurd h hc⟩
    let F : List Pl → Bool × List Spot × List Spot := fun c => Classical.choose (hx c)
    have hF : ∀ c ∈ L, _ := fun c hc => Classical.choose_spec (hx c) hc
    have hS1 : ∀ s ∈ L.flatMap fun c => (F c).2.1, SpOk s := fun s hs => by
      obtain ⟨c, hc, h⟩ := List.mem_flatMap.1 hs
      exact (hF c hc).2.1.1 s h
    have hS2 : ∀ s ∈ L.flatMap fun c => (F c).2.2, SpOk s := fun s hs => by
      obtain ⟨c, hc, h⟩ := List.mem_flatMap.1 hs
      exact (hF c hc).2.2.1.1 s h
    have hST : ∀ s, s ∈ (L.flatMap fun c => (F c).2.1) ↔ s ∈ (L.flatMap fun c => (F c).2.2) := fun s => by
      rw [List.mem_flatMap, List.mem_flatMap]
      exact ⟨fun ⟨c, hc, h⟩ => ⟨c, hc, ((hF c hc).2.2.2 s).1 h⟩, fun ⟨c, hc, h⟩ => ⟨c, hc, ((hF c hc).2.2.2 s).2 h⟩⟩
    have z0 : BxB ⟨0, 0, 0, 0, 0, 0⟩ := ⟨by decide, by decide, by decide, by decide, by decide, by decide⟩
    refine ⟨if (L.all fun c => (F c).1) then (if ((L.flatMap fun c => (F c).2.1).foldl stS (true, ⟨0, 0, 0, 0, 0, 0⟩)).1 then (zPt, zPt, false) else fin ((L.flatMap fun c => (F c).2.1).foldl stS (true, ⟨0, 0, 0, 0, 0, 0⟩)).2) else (zPt, zPt, false), (e1.and (e2.and (hE.ev.and (e_ge 1000000001)))).mono fun n ⟨g1, g2, g3, hn'⟩ => ?_⟩
    obtain ⟨g4, g5⟩ := g3 (by omega)
    rw [decide_eq_true hr] at g1 g2
    have o1 := sOut n (by omega) (L := L) (by omega) (fun c => (F c).1) (fun c => (F c).2.1) (fun c hc => ((hF c hc).1 n hn').1.1) (fun c hc => ⟨((hF c hc).1 n hn').2.1, (hF c hc).2.1⟩) L.length 0 n true ⟨0, 0, 0, 0, 0, 0⟩ (by omega) (by omega) z0
    have o2 := iOut n (by omega) (L := L) (by omega) (fun c => (F c).1) (fun c => (F c).2.2) (fun c hc => ((hF c hc).1 n hn').1.2) (fun c hc => ⟨((hF c hc).1 n hn').2.2, (hF c hc).2.2.1⟩) L.length 0 n [] (by omega) (by omega) (by simp) (by simp)
    rw [List.drop_zero] at o1 o2
    rw [List.nil_append] at o2
    have s1 : Dspec_Box n a = loopN (Dspec_Box_4 n L 0 0 0 0 0 0) n (tp true ((0 : Nat) : Int) ⟨0, 0, 0, 0, 0, 0⟩) := by
      unfold Dspec_Box Dspec_Cells Dspec_l8Cells
      rw [g1, Option.bind_some, Bool.not_true, frk_f, g4]; rfl
    have s2 : Dimpl_Box n a = loopN (Dimpl_Box_4 n L (L.length : Int) 0 0 0 0 0 0) n (((0 : Nat) : Int), []) := by
      unfold Dimpl_Box Dimpl_Cells Dimpl_Solid_cells
      rw [g2, Option.bind_some, Bool.not_true, frk_f, g5]; rfl
    refine ⟨s1.trans o1, s2.trans (o2.trans ?_)⟩
    congr 1
    cases L.all fun c => (F c).1 with
    | false => rfl
    | true =>
      rw [if_pos rfl, if_pos rfl]
      have f1 := foldS (L.flatMap fun c => (F c).2.1) [] (true, ⟨0, 0, 0, 0, 0, 0⟩) (.inl ⟨rfl, rfl⟩)
      have f2 := foldI (L.flatMap fun c => (F c).2.2) [] iniI hS2 (.inl ⟨rfl, rfl⟩)
      rw [List.nil_append] at f1 f2
      rcases f1 with ⟨f1, f3⟩ | ⟨f1, f3, f4⟩
      · have : (L.flatMap fun c => (F c).2.2) = [] := List.eq_nil_iff_forall_not_mem.2 fun s hs => by
          have := (hST s).2 hs
          rw [f1] at this; simp at this
        rw [f3, this]; rfl
      · rcases f2 with ⟨f2, _⟩ | ⟨f2, f5⟩
        · exact absurd (List.eq_nil_iff_forall_not_mem.2 fun s hs => by
            have := (hST s).1 hs
            rw [f2] at this; simp at this) f1
        · rw [f3, isB_eq hST f4 f5, if_neg (fun h => f2 (List.isEmpty_iff.1 h)), if_neg (by simp)]
  · refine ⟨(zPt, zPt, false), (e1.and (e2.and (e_ge 2))).mono fun n ⟨g1, g2, hn⟩ => ?_⟩
    rw [decide_eq_false hr] at g1 g2
    obtain ⟨m, rfl⟩ : ∃ m, n = m + 1 := ⟨n - 1, by omega⟩
    unfold Dspec_Box Dimpl_Box Dspec_Cells Dimpl_Cells
    rw [g1, g2]
    exact ⟨rfl, rfl⟩
theorem eqPtC (p : Pt) : Dlaws_eqPt p p = some true := by
  unfold Dlaws_eqPt
  simp only [bne_self_eq_false, frk_f]
theorem oneSolC (a : Sol) (ha : Lens a) (L : Nat → Option Bool)
    (h1 : Ev fun n => Dlaws_szSolid n a 1048576 = some (-1) → L n = some true)
    (h2 : (tot a : Int) ≤ 1048576 → Ev fun n => Dlaws_szSolid n a 1048576 = some (1048576 - (tot a : Int)) → Dlaws_toSolid n a = some a → Dlaws_eqSolid n a a = some true → L n = some true) : ∃ n, L n = some true := by
  have e1 := sz a ha
  by_cases ht : (tot a : Int) ≤ 1048576
  · obtain ⟨N, hN⟩ := ((h2 ht).and (e1.and ((to a (by omega)).and (eqs a (by omega)))))
    obtain ⟨k0, k1, k2, k3⟩ := hN N (Nat.le_refl N)
    rw [szv_yes ht] at k1
    exact ⟨N, k0 k1 k2 k3⟩
  · obtain ⟨N, hN⟩ := (h1.and e1)
    obtain ⟨k0, k1⟩ := hN N (Nat.le_refl N)
    rw [szv_no ht] at k1
    exact ⟨N, k0 k1⟩
theorem plain_Box (a : Sol) (ha : Lens a) : ∃ n, Dlaws_FnExactBox n a = some true := by
  obtain ⟨v, hv⟩ := boxEq a ha
  refine oneSolC a ha (fun n => Dlaws_FnExactBox n a) (Ev.of fun n k1 => ?_) (fun ht => hv.mono fun n ⟨f1, f2⟩ k1 k2 k3 => ?_)
  · simp only [Dlaws_FnExactBox, k1, Option.bind_some]; rfl
  · simp only [Dlaws_FnExactBox, Dlaws_FnExactBox_0, k1, k2, k3, f1, f2, eqPtC, Option.bind_some, beq_self_eq_true, Bool.not_true, frk_f, sol_eq, sol_eq']
    rw [decide_eq_false (by omega), frk_f]
end Evl.T
