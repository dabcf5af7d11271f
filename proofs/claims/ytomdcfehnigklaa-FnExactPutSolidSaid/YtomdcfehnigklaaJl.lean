/- Texts that belong together, joined. No condition. -/
import Derived.Test.YtomdcfehnigklaaJp
/-! Epj -/
namespace Evl.T
open Go Evl

/-- A long number's two bytes. -/
def twob (n : Int) : List Int := [n % 256, n / 256]
mutual
/-- A solid's bytes. -/
def pb : Sol → List Int
  | .mk i p k => match k with
    | [] => [if i then 1 else 0]
    | x :: xs => 2 :: (twob (p.A + 500) ++ (twob (p.B + 500) ++ (twob (p.C + 500) ++ (twob (p.D + 500) ++ (pb x ++ pbL xs)))))
def pbL : List Sol → List Int
  | [] => []
  | x :: xs => pb x ++ pbL xs
end
theorem pb_leaf (i : Bool) (p : Pl) : pb (.mk i p []) = [if i then 1 else 0] := by rw [pb]
theorem pb_two (i : Bool) (p : Pl) (x y : Sol) : pb (.mk i p [x, y]) = 2 :: (twob (p.A + 500) ++ (twob (p.B + 500) ++ (twob (p.C + 500) ++ (twob (p.D + 500) ++ (pb x ++ pb y))))) := by rw [pb, pbL, pbL, List.append_nil]
theorem twob_len (n : Int) : (twob n).length = 2 := rfl
theorem pb_len {s : Sol} {path : List Pl} (h : Rt s path) : (pb s).length = 10 * nod s + 1 := by
  induction h with
  | @leaf i p path hz => rw [pb_leaf, nod_leaf]; rfl
  | @node p a c path _ _ _ _ _ _ iha ihb =>
    rw [pb_two, nod2]
    simp only [List.length_cons, List.length_append, twob_len, iha, ihb]; omega
theorem u8w {n : Int} (h : 0 ≤ n) (h2 : n < 256) : IntKind.u8.wrap n = n := by
  have : IntKind.u8.wrap n = n % 256 := rfl
  rw [this]; exact Int.emod_eq_of_lt h h2
theorem twoOk {n : Int} (h : 0 ≤ n) (h2 : n ≤ 65535) : Dspec_l18Two n = some (twob n) := by
  unfold Dspec_l18Two
  have e1 : Int.tmod n 256 = n % 256 := Int.tmod_eq_emod_of_nonneg h
  have e2 : Int.tdiv n 256 = n / 256 := Int.tdiv_eq_ediv_of_nonneg h
  rw [e1, e2, w64_id (by omega) (by omega), u8w (by omega) (by omega), u8w (by omega) (by omega)]
  rfl
theorem apB_ok {k n : Nat} (h : n * k ≤ 140737488355328) (h2 : n ≤ 9223372036854775807) : apB k n = true := by
  simp only [apB, Bool.and_eq_true, decide_eq_true_eq]; exact ⟨h, h2⟩
theorem lowOk (b : List Int) {n : Int} (h : 0 ≤ n) (h2 : n ≤ 65535) (hb : b.length ≤ 1000000) : Dimpl_lowo0 b n = some (b ++ twob n) := by
  unfold Dimpl_lowo0
  rw [chk_eq (apB_ok (by omega) (by omega))]
  have e1 : IntKind.u8.wrap n = n % 256 := rfl
  have e2 : Int.fdiv n 256 = n / 256 := Int.fdiv_eq_ediv_of_nonneg n (by omega)
  rw [e1, e2, u8w (by omega) (by omega)]
  rfl
theorem sTreeStep (n : Nat) (self : Sol × List Int → Option (List Int)) (i : Bool) (p : Pl) (k : List Sol) (b : List Int) : Dspec_l18Treeo1_b n self (.mk i p k, b) =
    frk ((k.length : Int) == 0) (frk i (chk (apB 1 (b.length + 1)) (some (b ++ [1]))) (chk (apB 1 (b.length + 1)) (some (b ++ [0])))) (chk (apB 1 (b.length + 1)) ((Dspec_l18Two (w64 (p.A + 500))).bind fun v4 => chk (apB 1 ((b ++ [2]).length + v4.length)) ((Dspec_l18Two (w64 (p.B + 500))).bind fun v6 => chk (apB 1 (((b ++ [2]) ++ v4).length + v6.length)) ((Dspec_l18Two (w64 (p.C + 500))).bind fun v8 => chk (apB 1 ((((b ++ [2]) ++ v4) ++ v6).length + v8.length)) ((Dspec_l18Two (w64 (p.D + 500))).bind fun v10 => chk (apB 1 (((((b ++ [2]) ++ v4) ++ v6) ++ v8).length + v10.length)) ((lget k 1).bind fun v12 => (lget k 0).bind fun v13 => (self (v13, (((((b ++ [2]) ++ v4) ++ v6) ++ v8) ++ v10))).bind fun v14 => (self (v12, v14)).bind fun v15 => some v15)))))) := rfl
theorem iTreeStep (n : Nat) (self : List Int × Sol → Option (List Int)) (i : Bool) (p : Pl) (k : List Sol) (b : List Int) : Dimpl_putTreeo0_b n self (b, .mk i p k) =
    frk ((k.length : Int) == 0) (frk i (chk (apB 1 (b.length + 1)) (some (b ++ [1]))) (chk (apB 1 (b.length + 1)) (some (b ++ [0])))) (chk (apB 1 (b.length + 1)) ((Dimpl_lowo0 (b ++ [2]) (w64 (p.A + 500))).bind fun v4 => (Dimpl_lowo0 v4 (w64 (p.B + 500))).bind fun v5 => (Dimpl_lowo0 v5 (w64 (p.C + 500))).bind fun v6 => (Dimpl_lowo0 v6 (w64 (p.D + 500))).bind fun v7 => (lget k 0).bind fun v8 => (self (v7, v8)).bind fun v9 => (lget k 1).bind fun v10 => (self (v9, v10)).bind fun v11 => some v11)) := rfl
theorem co {x : Int} (h : B 500 x) : 0 ≤ w64 (x + 500) ∧ w64 (x + 500) ≤ 65535 ∧ w64 (x + 500) = x + 500 := by
  unfold B at h
  have : w64 (x + 500) = x + 500 := w64_id (by omega) (by omega)
  omega
theorem sTree {s : Sol} {path : List Pl} (h : Rt s path) : E2 fun n m => ∀ b : List Int, b.length + 10 * nod s + 1 ≤ 100000 → loopN (Dspec_l18Treeo1_b n) m (s, b) = some (b ++ pb s) := by
  induction h with
  | @leaf i p path hz =>
    refine E2.suc (E2.of fun n m b hb => ?_)
    rw [loop_suc, sTreeStep, pb_leaf]
    rw [show ((([] : List Sol).length : Int) == 0) = true from rfl, frk_t, chk_eq (apB_ok (by omega) (by omega)), chk_eq (apB_ok (by omega) (by omega))]
    cases i <;> rfl
  | @node p a c path hp _ _ _ _ _ iha ihb =>
    refine E2.suc ((iha.and ihb).mono fun n m ⟨h1, h2⟩ b hb => ?_)
    rw [nod2] at hb
    obtain ⟨pA, pB, pC, pD⟩ := pOk_PB hp
    obtain ⟨a1, a2, a3⟩ := co pA
    obtain ⟨b1, b2, b3⟩ := co pB
    obtain ⟨c1, c2, c3⟩ := co pC
    obtain ⟨d1, d2, d3⟩ := co pD
    rw [loop_suc, sTreeStep, pb_two]
    rw [show ((([a, c] : List Sol).length : Int) == 0) = false from rfl, frk_f, chk_eq (apB_ok (by omega) (by omega))]
    rw [twoOk a1 a2, Option.bind_some, chk_eq (apB_ok (by simp [twob_len]; omega) (by simp [twob_len]; omega))]
    rw [twoOk b1 b2, Option.bind_some, chk_eq (apB_ok (by simp [twob_len]; omega) (by simp [twob_len]; omega))]
    rw [twoOk c1 c2, Option.bind_some, chk_eq (apB_ok (by simp [twob_len]; omega) (by simp [twob_len]; omega))]
    rw [twoOk d1 d2, Option.bind_some, chk_eq (apB_ok (by simp [twob_len]; omega) (by simp [twob_len]; omega))]
    show ((some c).bind fun v12 => (some a).bind _) = _
    rw [Option.bind_some, Option.bind_some, h1 _ (by simp [twob_len]; omega), Option.bind_some, h2 _ (by simp [twob_len, pb_len (by assumption : Rt a _)]; omega), a3, b3, c3, d3]
    simp
theorem iTree {s : Sol} {path : List Pl} (h : Rt s path) : E2 fun n m => ∀ b : List Int, b.length + 10 * nod s + 1 ≤ 100000 → loopN (Dimpl_putTreeo0_b n) m (b, s) = some (b ++ pb s) := by
  induction h with
  | @leaf i p path hz =>
    refine E2.suc (E2.of fun n m b hb => ?_)
    rw [loop_suc, iTreeStep, pb_leaf]
    rw [show ((([] : List Sol).length : Int) == 0) = true from rfl, frk_t, chk_eq (apB_ok (by omega) (by omega)), chk_eq (apB_ok (by omega) (by omega))]
    cases i <;> rfl
  | @node p a c path hp _ _ _ _ _ iha ihb =>
    refine E2.suc ((iha.and ihb).mono fun n m ⟨h1, h2⟩ b hb => ?_)
    rw [nod2] at hb
    obtain ⟨pA, pB, pC, pD⟩ := pOk_PB hp
    obtain ⟨a1, a2, a3⟩ := co pA
    obtain ⟨b1, b2, b3⟩ := co pB
    obtain ⟨c1, c2, c3⟩ := co pC
    obtain ⟨d1, d2, d3⟩ := co pD
    rw [loop_suc, iTreeStep, pb_two]
    rw [show ((([a, c] : List Sol).length : Int) == 0) = false from rfl, frk_f, chk_eq (apB_ok (by omega) (by omega))]
    rw [lowOk _ a1 a2 (by simp [twob_len]; omega), Option.bind_some, lowOk _ b1 b2 (by simp [twob_len]; omega), Option.bind_some, lowOk _ c1 c2 (by simp [twob_len]; omega), Option.bind_some, lowOk _ d1 d2 (by simp [twob_len]; omega), Option.bind_some]
    show ((some a).bind _) = _
    rw [Option.bind_some, h1 _ (by simp [twob_len]; omega), Option.bind_some]
    show ((some c).bind _) = _
    rw [Option.bind_some, h2 _ (by simp [twob_len, pb_len (by assumption : Rt a _)]; omega), a3, b3, c3, d3]
    simp

/-! sums -/
def smS (a : Int × Int) (v : Int) : Int × Int := (Int.tmod (w64 (a.1 + (w64 v))) 65521, Int.tmod (w64 (a.2 + (Int.tmod (w64 (a.1 + (w64 v))) 65521))) 65521)
theorem smLoop (F : (Int × Int × Int → Option (Int × Int)) → Int × Int × Int → Option (Int × Int)) (l : List Int) (hl : l.length ≤ 100000)
    (hF : ∀ rec x y (t : Int), F rec (x, y, t) = frk (decide (t < (l.length : Int))) ((lget l t).bind fun v0 => rec (Int.tmod (w64 (x + (w64 v0))) 65521, Int.tmod (w64 (y + (Int.tmod (w64 (x + (w64 v0))) 65521))) 65521, w64 (t + 1))) (some (x, y))) :
    ∀ (r : List Int) (k m : Nat) (x y : Int), l.drop k = r → k ≤ l.length → r.length < m → loopN F m (x, y, (k : Int)) = some (r.foldl smS (x, y)) := by
  intro r
  induction r with
  | nil =>
    intro k m x y hr hk hm
    obtain ⟨m, rfl⟩ : ∃ j, m = j + 1 := ⟨m - 1, by omega⟩
    have hk : k = l.length := by have := List.drop_eq_nil_iff.1 hr; omega
    subst hk
    rw [loop_suc, hF, lt_self, frk_f]; rfl
  | cons v r ih =>
    intro k m x y hr hk hm
    simp only [List.length_cons] at hm
    obtain ⟨m, rfl⟩ : ∃ j, m = j + 1 := ⟨m - 1, by omega⟩
    have hkl : k < l.length := by
      rcases Nat.lt_or_ge k l.length with h | h
      · exact h
      · rw [List.drop_eq_nil_of_le h] at hr; cases hr
    have hx : l[k]? = some v := by
      have := congrArg List.head? hr
      simpa using this
    have hr' : l.drop (k + 1) = r := by
      rw [← List.drop_drop, hr]; rfl
    rw [loop_suc, hF, lt_dec hkl, frk_t, lget_nat, hx, Option.bind_some, w64_suc (by unfold big; omega), ih (k + 1) m _ _ hr' (by omega) (by omega)]
    rfl
theorem sSum (l : List Int) (hl : l.length ≤ 100000) : Ev fun n => Dspec_l18Sum n l = some (l.foldl smS (1, 0)) :=
  ⟨l.length + 1, fun n hn => smLoop (Dspec_l18Sum_0 n l) l hl (fun _ _ _ _ => rfl) l 0 n 1 0 rfl (by omega) (by omega)⟩
theorem iSum (l : List Int) (hl : l.length ≤ 100000) : Ev fun n => Dimpl_sums n l = some (l.foldl smS (1, 0)) :=
  ⟨l.length + 1, fun n hn => smLoop (Dimpl_sums_0 n l (l.length : Int)) l hl (fun _ _ _ _ => rfl) l 0 n 1 0 rfl (by omega) (by omega)⟩
theorem two_len (x : Int) : ∃ a b, Dspec_l18Two x = some [a, b] := ⟨_, _, rfl⟩
end Evl.T

/-! Eqa -/
namespace Evl.T
open Go Evl

mutual
def mk1 : Sol → Int → Int × Sol
  | .mk _ _ kids, k => ((mkL kids (k + 1 + 1 + 1 + 1 + 1)).1, .mk (Int.tmod k 3 == 0) ⟨k + 1, k + 1 + 1, k + 1 + 1 + 1, k + 1 + 1 + 1 + 1⟩ (mkL kids (k + 1 + 1 + 1 + 1 + 1)).2)
def mkL : List Sol → Int → Int × List Sol
  | [], k => (k, [])
  | x :: xs, k => ((mkL xs (mk1 x k).1).1, (mk1 x k).2 :: (mkL xs (mk1 x k).1).2)
end
theorem mkL_nil (k : Int) : mkL [] k = (k, []) := by rw [mkL]
theorem mkL_cons (x : Sol) (xs : List Sol) (k : Int) : mkL (x :: xs) k = ((mkL xs (mk1 x k).1).1, (mk1 x k).2 :: (mkL xs (mk1 x k).1).2) := by rw [mkL]
theorem mk1_eq (x : Sol) (k : Int) : mk1 x k = ((mkL x.kids (k + 1 + 1 + 1 + 1 + 1)).1, .mk (Int.tmod k 3 == 0) ⟨k + 1, k + 1 + 1, k + 1 + 1 + 1, k + 1 + 1 + 1 + 1⟩ (mkL x.kids (k + 1 + 1 + 1 + 1 + 1)).2) := by
  cases x; rw [mk1]; rfl
mutual
theorem mk1_fst : ∀ (x : Sol) (k : Int), (mk1 x k).1 = k + 5 + 5 * (tot x : Int)
  | .mk i p kids, k => by
    rw [mk1]
    have := mkL_fst kids (k + 1 + 1 + 1 + 1 + 1)
    rw [tot_mk]
    show (mkL kids (k + 1 + 1 + 1 + 1 + 1)).1 = _
    rw [this]; push_cast; omega
theorem mkL_fst : ∀ (l : List Sol) (k : Int), (mkL l k).1 = k + 5 * ((l.length : Int) + (totL l : Int))
  | [], k => by rw [mkL, totL]; simp
  | x :: xs, k => by
    rw [mkL]
    have h1 := mk1_fst x k
    have h2 := mkL_fst xs (mk1 x k).1
    show (mkL xs (mk1 x k).1).1 = _
    rw [h2, h1, totL, List.length_cons]; push_cast; omega
end
theorem mkL_len : ∀ (l : List Sol) (k : Int), (mkL l k).2.length = l.length
  | [], k => by rw [mkL]
  | x :: xs, k => by rw [mkL]; simp [mkL_len xs]

def gig : Int := 1000000000
theorem wk {k : Int} (h0 : 0 ≤ k) (h1 : k + 5 ≤ gig) : w64 (k + 1) = k + 1 ∧ w64 (k + 1 + 1) = k + 1 + 1 ∧ w64 (k + 1 + 1 + 1) = k + 1 + 1 + 1 ∧ w64 (k + 1 + 1 + 1 + 1) = k + 1 + 1 + 1 + 1 ∧ w64 (k + 1 + 1 + 1 + 1 + 1) = k + 1 + 1 + 1 + 1 + 1 := by
  unfold gig at h1
  refine ⟨?_, ?_, ?_, ?_, ?_⟩ <;> exact w64_id (by omega) (by omega)
theorem lget_mid (P : List Sol) (y : Sol) (r : List Sol) : lget (P ++ y :: r) ((P.length : Nat) : Int) = some y := by
  rw [lget_nat, List.getElem?_append_right (Nat.le_refl _)]; simp
theorem set_mid' (P : List Sol) (y z : Sol) (r : List Sol) : (P ++ y :: r).set (Int.toNat ((P.length : Nat) : Int)) z = P ++ z :: r := by
  rw [Int.toNat_natCast, List.set_append_right _ _ (Nat.le_refl _)]; simp
theorem markLoop (n : Nat) (self : List Sol × Int → Option (Int × List Sol)) : ∀ (r P : List Sol) (m : Nat) (k : Int), (∀ x ∈ r, ∀ k : Int, 0 ≤ k → k + 5 * (tot x : Int) ≤ gig → self (x.kids, k) = some (mkL x.kids k)) → r.length < m → P.length + r.length < big → 0 ≤ k → k + 5 * ((r.length : Int) + (totL r : Int)) ≤ gig →
    loopN (Dlaws_markSolidS_1 n self) m (k, ((P.length : Nat) : Int), P ++ r) = some ((mkL r k).1, P ++ (mkL r k).2) := by
  intro r
  induction r with
  | nil =>
    intro P m k hs hm hb h0 h1
    obtain ⟨m, rfl⟩ : ∃ q, m = q + 1 := ⟨m - 1, by omega⟩
    rw [loop_suc]
    simp only [Dlaws_markSolidS_1, List.append_nil, lt_self, frk_f, mkL_nil]
  | cons x r ih =>
    intro P m k hs hm hb h0 h1
    simp only [List.length_cons] at hm hb h1
    obtain ⟨m, rfl⟩ : ∃ q, m = q + 1 := ⟨m - 1, by omega⟩
    rw [totL] at h1
    push_cast at h1
    obtain ⟨w1, w2, w3, w4, w5⟩ := wk h0 (by omega)
    have hlt : ∀ y : Sol, decide (((P.length : Nat) : Int) < ((P ++ y :: r).length : Int)) = true := fun y => by simp; omega
    obtain ⟨xi, xp, xk⟩ := x
    have hself : self (xk, k + 1 + 1 + 1 + 1 + 1) = some (mkL xk (k + 1 + 1 + 1 + 1 + 1)) := hs _ List.mem_cons_self (k + 1 + 1 + 1 + 1 + 1) (by omega) (by omega)
    have hsuc : w64 (((P.length : Nat) : Int) + 1) = (((P ++ [(mk1 (.mk xi xp xk) k).2]).length : Nat) : Int) := by rw [w64_suc (by omega)]; simp
    rw [loop_suc]
    simp only [Dlaws_markSolidS_1, Dlaws_markSolidS_0, hlt, frk_t, lget_mid, set_mid', Option.bind_some, Sol.inn, Sol.pl, Sol.kids, w1, w2, w3, w4, w5]
    rw [hself, Option.bind_some, hsuc]
    have e : (Sol.mk (Int.tmod k 3 == 0) ⟨k + 1, k + 1 + 1, k + 1 + 1 + 1, k + 1 + 1 + 1 + 1⟩ (mkL xk (k + 1 + 1 + 1 + 1 + 1)).2) = (mk1 (.mk xi xp xk) k).2 := by rw [mk1]
    have e1 : (mkL xk (k + 1 + 1 + 1 + 1 + 1)).1 = (mk1 (.mk xi xp xk) k).1 := by rw [mk1]
    rw [e, e1, show P ++ (mk1 (.mk xi xp xk) k).2 :: r = (P ++ [(mk1 (.mk xi xp xk) k).2]) ++ r by simp]
    have hf := mk1_fst (.mk xi xp xk) k
    rw [ih (P ++ [(mk1 (.mk xi xp xk) k).2]) m (mk1 (.mk xi xp xk) k).1 (fun y hy => hs y (List.mem_cons_of_mem _ hy)) (by omega) (by simp; omega) (by omega) (by omega), mkL_cons]
    simp
theorem markOk : ∀ s, Lens s → tot s ≤ 1048576 → E2 fun n m => ∀ k : Int, 0 ≤ k → k + 5 * (tot s : Int) ≤ gig → loopN (Dlaws_markSolidS_b n) m (s.kids, k) = some (mkL s.kids k) := by
  refine sol_ind fun i p k ih hl ht => ?_
  rw [tot_mk] at ht
  cases hl with
  | mk hb hk =>
    have h1 := E2.all fun x hx => ih x hx (hk x hx) (by have := tot_le hx; omega)
    have h2 : E2 fun n _ => k.length < n := ⟨k.length + 1, fun n hn _ _ => by omega⟩
    refine E2.suc ((h1.and h2).mono fun n m ⟨h1, h2⟩ q hq0 hq1 => ?_)
    rw [tot_mk] at hq1
    push_cast at hq1
    rw [loop_suc]
    show loopN (Dlaws_markSolidS_1 n _) n (q, 0, k) = some (mkL k q)
    have := markLoop n (loopN (Dlaws_markSolidS_b n) m) k [] n q h1 h2 (by simp; unfold big; omega) hq0 hq1
    simpa using this
theorem markL (l : List Sol) (hl : ∀ x ∈ l, Lens x) (hlen : l.length ≤ big) (ht : l.length + totL l ≤ 1048576) : Ev fun n => Dlaws_markSolidS n l 1 = some (mkL l 1) :=
  (markOk (.mk false ⟨0, 0, 0, 0⟩ l) (.mk hlen hl) (by rw [tot_mk]; exact ht)).ev.mono fun n h => h 1 (by decide) (by rw [tot_mk]; unfold gig; omega)

theorem kidsOf {s : Sol} (h : Lens s) : s.kids.length ≤ big ∧ (∀ x ∈ s.kids, Lens x) ∧ tot s = s.kids.length + totL s.kids := by
  cases h with
  | mk hb hk => exact ⟨hb, hk, tot_mk _ _ _⟩
/-- A tree is marked: the number that comes back. -/
def mkN (s : Sol) : Int := (mkL s.kids 1).1
theorem mkN_ge (s : Sol) : 1 ≤ mkN s := by unfold mkN; rw [mkL_fst]; omega
theorem marks {s : Sol} (h : Lens s) (ht : tot s ≤ 1048576) : Ev fun n => Dlaws_markSolidS n s.kids 1 = some (mkL s.kids 1) := by
  obtain ⟨h1, h2, h3⟩ := kidsOf h
  exact markL s.kids h2 h1 (by omega)
theorem mkN_lt (s : Sol) : decide ((mkL s.kids 1).1 < 0) = false := decide_eq_false (by have := mkN_ge s; unfold mkN at this; omega)
theorem mkN_lt' (s : Sol) : decide (mkN s < 0) = false := mkN_lt s

/-- A tree that forks in two. -/
inductive Tw : Sol → Prop
  | leaf {i p} : Tw (.mk i p [])
  | node {i p a b} : Tw a → Tw b → Tw (.mk i p [a, b])
theorem Tw.lens {s : Sol} (h : Tw s) : Lens s := by
  induction h with
  | leaf => exact .mk (by simp [big]) (by simp)
  | node _ _ iha ihb =>
    refine .mk (by simp [big]) fun x hx => ?_
    simp only [List.mem_cons, List.not_mem_nil, or_false] at hx
    rcases hx with rfl | rfl
    · exact iha
    · exact ihb
theorem Tw.tot {s : Sol} (h : Tw s) : Evl.T.tot s = 2 * nod s := by
  induction h with
  | leaf => rw [tot_mk, nod_leaf]; simp [totL]
  | node _ _ iha ihb => rw [tot_mk, nod2]; simp only [totL, List.length_cons, List.length_nil, iha, ihb]; omega
theorem Rt.tw {s : Sol} {l : List Pl} (h : Rt s l) : Tw s := by
  induction h with
  | leaf _ => exact .leaf
  | node _ _ _ _ _ _ iha ihb => exact .node iha ihb

/-- The same, from any number on. -/
theorem markAt {s : Sol} (h : Lens s) (ht : tot s ≤ 1048576) : Ev fun n => ∀ k : Int, 0 ≤ k → k ≤ 900000000 → Dlaws_markSolidS n s.kids k = some (mkL s.kids k) :=
  (markOk s h ht).ev.mono fun n hn k h0 h1 => hn k h0 (by unfold gig; omega)
theorem mkL_tot {s : Sol} (k : Int) : (mkL s.kids k).1 = k + 5 * (tot s : Int) := by
  rw [mkL_fst]; cases s; rw [tot_mk]; push_cast; rfl
end Evl.T

/-! Eqn -/
namespace Evl.T
open Go Evl

/-- Bytes turned from k on. -/
def mb : List Int → Int → List Int
  | [], _ => []
  | _ :: r, k => IntKind.u8.wrap k :: mb r (k + 1)
theorem mb_len : ∀ (l : List Int) (k : Int), (mb l k).length = l.length
  | [], _ => rfl
  | _ :: r, k => by simp [mb, mb_len r]
theorem mid_get {α : Type} (P : List α) (y : α) (r : List α) : lget (P ++ y :: r) ((P.length : Nat) : Int) = some y := by
  rw [lget_nat, List.getElem?_append_right (Nat.le_refl _)]; simp
theorem mid_set {α : Type} (P : List α) (y z : α) (r : List α) : (P ++ y :: r).set (Int.toNat ((P.length : Nat) : Int)) z = (P ++ [z]) ++ r := by
  rw [Int.toNat_natCast, List.set_append_right _ _ (Nat.le_refl _)]; simp
theorem mbLoop (n : Nat) : ∀ (r P : List Int) (m : Nat) (k : Int), 0 ≤ k → k + r.length ≤ 1000000000 → P.length + r.length ≤ 1000000 → r.length < m →
    loopN (Dlaws_markByteS_0 n) m (k, ((P.length : Nat) : Int), P ++ r) = some (k + r.length, P ++ mb r k) := by
  intro r
  induction r with
  | nil =>
    intro P m k _ _ _ hm
    obtain ⟨m, rfl⟩ : ∃ j, m = j + 1 := ⟨m - 1, by omega⟩
    rw [loop_suc]
    simp only [Dlaws_markByteS_0, List.append_nil, lt_self, frk_f, mb]; simp
  | cons x r ih =>
    intro P m k h0 h1 h2 hm
    simp only [List.length_cons] at h1 h2 hm
    obtain ⟨m, rfl⟩ : ∃ j, m = j + 1 := ⟨m - 1, by omega⟩
    rw [loop_suc]
    show frk (decide (((P.length : Nat) : Int) < (((P ++ x :: r).length : Nat) : Int))) _ _ = _
    rw [lt_dec (by simp), frk_t, mid_get, Option.bind_some, mid_set, w64_id (by omega) (by omega), w64_suc (by unfold big; omega)]
    have e : ((P.length + 1 : Nat) : Int) = (((P ++ [IntKind.u8.wrap k]).length : Nat) : Int) := by simp
    rw [e, ih (P ++ [IntKind.u8.wrap k]) m (k + 1) (by omega) (by omega) (by simp; omega) (by omega)]
    simp only [mb, List.append_assoc, List.singleton_append, List.length_cons]
    congr 2; push_cast; omega
theorem hbLoop (n : Nat) (L : List Int) (hL : L.length ≤ 1000000) : ∀ (r P : List Int) (m : Nat) (k : Int), L = P ++ mb r k → 0 ≤ k → k + r.length ≤ 1000000000 → r.length < m →
    loopN (Dlaws_heldByteS_0 n L) m (k, ((P.length : Nat) : Int)) = some (k + r.length) := by
  intro r
  induction r with
  | nil =>
    intro P m k he _ _ hm
    obtain ⟨m, rfl⟩ : ∃ j, m = j + 1 := ⟨m - 1, by omega⟩
    rw [loop_suc]
    simp only [mb, List.append_nil] at he
    simp only [Dlaws_heldByteS_0, he, lt_self, frk_f]; simp
  | cons x r ih =>
    intro P m k he h0 h1 hm
    simp only [List.length_cons] at h1 hm
    obtain ⟨m, rfl⟩ : ∃ j, m = j + 1 := ⟨m - 1, by omega⟩
    have hlen : L.length = P.length + (1 + r.length) := by rw [he]; simp [mb, mb_len]; omega
    rw [loop_suc]
    show frk (decide (((P.length : Nat) : Int) < ((L.length : Nat) : Int))) ((lget L _).bind _) _ = _
    have hg : lget L ((P.length : Nat) : Int) = some (IntKind.u8.wrap k) := by rw [he]; exact mid_get _ _ _
    rw [lt_dec (by omega), frk_t, hg, Option.bind_some, bne_self_eq_false, frk_f, w64_id (by omega) (by omega), w64_suc (by unfold big; omega)]
    have e : ((P.length + 1 : Nat) : Int) = (((P ++ [IntKind.u8.wrap k]).length : Nat) : Int) := by simp
    rw [e, ih (P ++ [IntKind.u8.wrap k]) m (k + 1) (by rw [he]; simp [mb]) (by omega) (by omega) (by omega)]
    congr 1; push_cast; rw [List.length_cons]; push_cast; omega
theorem markB (l : List Int) (hl : l.length ≤ 1000000) : Ev fun n => Dlaws_markByteS n l 1 = some (1 + (l.length : Int), mb l 1) := by
  refine ⟨l.length + 1, fun n hn => ?_⟩
  have := mbLoop n l [] n 1 (by omega) (by omega) (by simpa using hl) (by omega)
  show loopN (Dlaws_markByteS_0 n) n (1, 0, l) = _
  simpa using this
theorem heldB (l : List Int) (hl : l.length ≤ 1000000) : Ev fun n => Dlaws_heldByteS n (mb l 1) 1 = some (1 + (l.length : Int)) := by
  refine ⟨l.length + 1, fun n hn => ?_⟩
  have := hbLoop n (mb l 1) (by rw [mb_len]; exact hl) l [] n 1 (by simp) (by omega) (by omega) (by omega)
  exact this
theorem eqLoopB (n : Nat) (L : List Int) (hL : L.length ≤ 1000000) : ∀ (r P : List Int) (m : Nat), L = P ++ r → r.length < m → loopN (Dlaws_eqByteS_0 n L L) m ((P.length : Nat) : Int) = some true := by
  intro r
  induction r with
  | nil =>
    intro P m he hm
    obtain ⟨m, rfl⟩ : ∃ j, m = j + 1 := ⟨m - 1, by omega⟩
    rw [loop_suc]
    simp only [List.append_nil] at he
    simp only [Dlaws_eqByteS_0, he, lt_self, frk_f]
  | cons x r ih =>
    intro P m he hm
    simp only [List.length_cons] at hm
    obtain ⟨m, rfl⟩ : ∃ j, m = j + 1 := ⟨m - 1, by omega⟩
    have hlen : L.length = P.length + (1 + r.length) := by rw [he]; simp; omega
    rw [loop_suc]
    show frk (decide (((P.length : Nat) : Int) < ((L.length : Nat) : Int))) ((lget L _).bind _) _ = _
    have hg : lget L ((P.length : Nat) : Int) = some x := by rw [he]; exact mid_get _ _ _
    rw [lt_dec (by omega), frk_t, hg, Option.bind_some, Option.bind_some, bne_self_eq_false, frk_f, w64_suc (by unfold big; omega)]
    have e : ((P.length + 1 : Nat) : Int) = (((P ++ [x]).length : Nat) : Int) := by simp
    rw [e]
    exact ih (P ++ [x]) m (by rw [he]; simp) (by omega)
theorem eqB (l : List Int) (hl : l.length ≤ 1000000) : Ev fun n => Dlaws_eqByteS n l l = some true := by
  refine ⟨l.length + 1, fun n hn => ?_⟩
  show Dlaws_eqByteS n l l = some true
  unfold Dlaws_eqByteS
  rw [bne_self_eq_false, frk_f]
  exact eqLoopB n l hl l [] n rfl (by omega)

def Byt (l : List Int) : Prop := ∀ v ∈ l, 0 ≤ v ∧ v ≤ 255
theorem Byt.app {a b : List Int} (h : Byt a) (k : Byt b) : Byt (a ++ b) := fun v hv => by
  rcases List.mem_append.1 hv with h' | h'
  · exact h v h'
  · exact k v h'
theorem byt_two {n : Int} (h : 0 ≤ n) (h2 : n ≤ 65535) : Byt (twob n) := fun v hv => by
  simp only [twob, List.mem_cons, List.not_mem_nil, or_false] at hv
  rcases hv with rfl | rfl <;> omega
theorem pb_byt {s : Sol} {path : List Pl} (h : Rt s path) : Byt (pb s) := by
  induction h with
  | @leaf i p path _ => rw [pb_leaf]; intro v hv; simp only [List.mem_singleton] at hv; subst hv; cases i <;> simp
  | @node p a b path hp _ _ _ _ _ iha ihb =>
    have hb := pOk_PB hp
    have t : ∀ {x : Int}, B 500 x → Byt (twob (x + 500)) := fun hx => byt_two (by have := hx.lo; omega) (by have := hx.hi; omega)
    rw [pb_two]
    intro v hv
    rcases List.mem_cons.1 hv with rfl | hv
    · omega
    · exact ((t hb.1).app ((t hb.2.1).app ((t hb.2.2.1).app ((t hb.2.2.2).app (iha.app ihb))))) v hv
theorem sm_in {l : List Int} (h : Byt l) : ∀ a : Int × Int, (0 ≤ a.1 ∧ a.1 ≤ 65520) ∧ (0 ≤ a.2 ∧ a.2 ≤ 65520) → (0 ≤ (l.foldl smS a).1 ∧ (l.foldl smS a).1 ≤ 65520) ∧ (0 ≤ (l.foldl smS a).2 ∧ (l.foldl smS a).2 ≤ 65520) := by
  induction l with
  | nil => intro a ha; exact ha
  | cons v l ih =>
    intro a ⟨⟨h1, h2⟩, h3, h4⟩
    have hv := h v (by simp)
    refine ih (fun u hu => h u (by simp [hu])) (smS a v) ?_
    have e1 : w64 v = v := w64_id (by omega) (by omega)
    have e2 : w64 (a.1 + v) = a.1 + v := w64_id (by omega) (by omega)
    have e3 : Int.tmod (a.1 + v) 65521 = (a.1 + v) % 65521 := Int.tmod_eq_emod_of_nonneg (by omega)
    have e4 : w64 (a.2 + (a.1 + v) % 65521) = a.2 + (a.1 + v) % 65521 := w64_id (by omega) (by omega)
    have e5 : Int.tmod (a.2 + (a.1 + v) % 65521) 65521 = (a.2 + (a.1 + v) % 65521) % 65521 := Int.tmod_eq_emod_of_nonneg (by omega)
    unfold smS
    simp only [e1, e2, e3, e4, e5]
    omega
open Classical in
theorem putBytes (s : Sol) (h : Lens s) : ∃ l : List Int, l.length ≤ 10000 ∧ Ev fun n => Dspec_PutSolid n s = some l ∧ Dimpl_PutSolid n s = some l := by
  have e3 := sSolidOk s h
  have e4 := iSolidOk s
  by_cases hr : Right s
  · have hn := hr.2
    have hpl := pb_len hr.1
    have hl : ([80, 87] ++ pb s : List Int).length ≤ 100000 := by simp [hpl]; omega
    have hby : Byt ([80, 87] ++ pb s : List Int) := Byt.app (fun v hv => by
      simp only [List.mem_cons, List.not_mem_nil, or_false] at hv
      rcases hv with rfl | rfl <;> omega) (pb_byt hr.1)
    obtain ⟨⟨x1, x2⟩, y1, y2⟩ := sm_in hby (1, 0) ⟨⟨by omega, by omega⟩, by omega, by omega⟩
    have hlen : ([80, 87] ++ pb s : List Int).length = 10 * nod s + 3 := by simp [hpl]
    refine ⟨([80, 87] ++ pb s ++ twob (([80, 87] ++ pb s : List Int).foldl smS (1, 0)).1) ++ twob (([80, 87] ++ pb s : List Int).foldl smS (1, 0)).2, ?_, (e3.and (e4.and ((sTree hr.1).ev.and ((iTree hr.1).ev.and ((sSum _ hl).and (iSum _ hl)))))).mono fun n ⟨a3, a4, a6, a7, a8, a9⟩ => ?_⟩
    · rw [List.length_append, List.length_append, hlen, twob_len, twob_len]; omega
    · have a6 := a6 [80, 87] (by simp; omega)
      have a7 := a7 [80, 87] (by simp; omega)
      generalize hx : [80, 87] ++ pb s = l at *
      generalize hf : l.foldl smS (1, 0) = f at *
      refine ⟨?_, ?_⟩
      · unfold Dspec_PutSolid Dspec_l18Treeo1
        rw [a3, Option.bind_some, decide_eq_true hr, Bool.not_true, frk_f, a6, Option.bind_some, a8, Option.bind_some, twoOk x1 (by omega), Option.bind_some, chk_eq (apB_ok (by simp [twob_len]; omega) (by simp [twob_len]; omega)), twoOk y1 (by omega), Option.bind_some, chk_eq (apB_ok (by simp [twob_len]; omega) (by simp [twob_len]; omega))]
      · unfold Dimpl_PutSolid Dimpl_putTreeo0
        rw [a4, Option.bind_some, decide_eq_true hr, Bool.not_true, frk_f, a7, Option.bind_some, a9, Option.bind_some, lowOk l x1 (by omega) (by omega), Option.bind_some, lowOk _ y1 (by omega) (by simp [twob_len]; omega), Option.bind_some]
  · refine ⟨[], by simp, (e3.and e4).mono fun n ⟨a3, a4⟩ => ⟨?_, ?_⟩⟩
    · unfold Dspec_PutSolid; rw [a3, Option.bind_some, decide_eq_false hr, Bool.not_false, frk_t]
    · unfold Dimpl_PutSolid; rw [a4, Option.bind_some, decide_eq_false hr, Bool.not_false, frk_t]
theorem plain_PutSolid (a : Sol) (ha : Lens a) : ∃ n, Dlaws_FnExactPutSolid n a.kids a = some true := by
  have e1 := sz a ha
  have ea : Sol.mk a.inn a.pl a.kids = a := Sol.eta a
  obtain ⟨l, hl, hv⟩ := putBytes a ha
  by_cases ht : (tot a : Int) ≤ 1048576
  · obtain ⟨n, hN⟩ := (e1.and ((to a (by omega)).and ((eqs a (by omega)).and (hv.and ((markAt ha (by omega)).and ((markB l (by omega)).and ((heldB l (by omega)).and (eqB l (by omega)))))))))
    obtain ⟨k1, k2, k3, ⟨f1, f2⟩, ma, k4, k5, k6⟩ := hN n (Nat.le_refl n)
    rw [szv_yes ht] at k1
    have ta := mkL_tot (s := a) 1
    have m1 := ma 1 (by omega) (by omega)
    have d1 : decide ((1048576 - (tot a : Int)) < 0) = false := decide_eq_false (by omega)
    have d2 : decide ((mkL a.kids 1).1 < 0) = false := decide_eq_false (by omega)
    have d3 : decide (1 + (l.length : Int) < 0) = false := decide_eq_false (by omega)
    refine ⟨n, ?_⟩
    simp only [Dlaws_FnExactPutSolid, Dlaws_FnExactPutSolid_0, Dlaws_FnExactPutSolid_1, Dlaws_FnExactPutSolid_2, pl_eq, sol_eq, ea, k1, k2, k3, k4, k5, k6, f1, f2, m1, d1, d2, d3, Option.bind_some, Bool.not_true, frk_f, bne_self_eq_false]
  · obtain ⟨n, hN⟩ := e1
    have k1 := hN n (Nat.le_refl n)
    rw [szv_no ht] at k1
    refine ⟨n, ?_⟩
    simp only [Dlaws_FnExactPutSolid, ea, k1, Option.bind_some]; rfl
end Evl.T
