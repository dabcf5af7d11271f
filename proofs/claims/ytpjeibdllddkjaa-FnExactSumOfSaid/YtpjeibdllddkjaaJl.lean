/- Texts that belong together, joined. No condition. -/
import Derived.Test.YtpjeibdllddkjaaJp
/-! Epj -/
namespace Evl.T
open Go Evl

/-- A long number's two bytes. -/
def twob (n : Int) : List Int := [n % 256, n / 256]
mutual
/-- A solid's bytes. -/
def pb : Sol → List Int
  | .mk i p k => match k with
    | [] => [if i then 1 else 0]
    | x :: xs => 2 :: (twob (p.A + 500) ++ (twob (p.B + 500) ++ (twob (p.C + 500) ++ (twob (p.D + 500) ++ (pb x ++ pbL xs)))))
def pbL : List Sol → List Int
  | [] => []
  | x :: xs => pb x ++ pbL xs
end
theorem pb_leaf (i : Bool) (p : Pl) : pb (.mk i p []) = [if i then 1 else 0] := by rw [pb]
theorem pb_two (i : Bool) (p : Pl) (x y : Sol) : pb (.mk i p [x, y]) = 2 :: (twob (p.A + 500) ++ (twob (p.B + 500) ++ (twob (p.C + 500) ++ (twob (p.D + 500) ++ (pb x ++ pb y))))) := by rw [pb, pbL, pbL, List.append_nil]
theorem twob_len (n : Int) : (twob n).length = 2 := rfl
theorem pb_len {s : Sol} {path : List Pl} (h : Rt s path) : (pb s).length = 10 * nod s + 1 := by
  induction h with
  | @leaf i p path hz => rw [pb_leaf, nod_leaf]; rfl
  | @node p a c path _ _ _ _ _ _ iha ihb =>
    rw [pb_two, nod2]
    simp only [List.length_cons, List.length_append, twob_len, iha, ihb]; omega
theorem u8w {n : Int} (h : 0 ≤ n) (h2 : n < 256) : IntKind.u8.wrap n = n := by
  have : IntKind.u8.wrap n = n % 256 := rfl
  rw [this]; exact Int.emod_eq_of_lt h h2
theorem twoOk {n : Int} (h : 0 ≤ n) (h2 : n ≤ 65535) : Dspec_l18Two n = some (twob n) := by
  unfold Dspec_l18Two
  have e1 : Int.tmod n 256 = n % 256 := Int.tmod_eq_emod_of_nonneg h
  have e2 : Int.tdiv n 256 = n / 256 := Int.tdiv_eq_ediv_of_nonneg h
  rw [e1, e2, w64_id (by omega) (by omega), u8w (by omega) (by omega), u8w (by omega) (by omega)]
  rfl
theorem apB_ok {k n : Nat} (h : n * k ≤ 140737488355328) (h2 : n ≤ 9223372036854775807) : apB k n = true := by
  simp only [apB, Bool.and_eq_true, decide_eq_true_eq]; exact ⟨h, h2⟩
theorem lowOk (b : List Int) {n : Int} (h : 0 ≤ n) (h2 : n ≤ 65535) (hb : b.length ≤ 1000000) : Dimpl_lowo0 b n = some (b ++ twob n) := by
  unfold Dimpl_lowo0
  rw [chk_eq (apB_ok (by omega) (by omega))]
  have e1 : IntKind.u8.wrap n = n % 256 := rfl
  have e2 : Int.fdiv n 256 = n / 256 := Int.fdiv_eq_ediv_of_nonneg n (by omega)
  rw [e1, e2, u8w (by omega) (by omega)]
  rfl
theorem sTreeStep (n : Nat) (self : Sol × List Int → Option (List Int)) (i : Bool) (p : Pl) (k : List Sol) (b : List Int) : Dspec_l18Treeo1_b n self (.mk i p k, b) =
    frk ((k.length : Int) == 0) (frk i (chk (apB 1 (b.length + 1)) (some (b ++ [1]))) (chk (apB 1 (b.length + 1)) (some (b ++ [0])))) (chk (apB 1 (b.length + 1)) ((Dspec_l18Two (w64 (p.A + 500))).bind fun v4 => chk (apB 1 ((b ++ [2]).length + v4.length)) ((Dspec_l18Two (w64 (p.B + 500))).bind fun v6 => chk (apB 1 (((b ++ [2]) ++ v4).length + v6.length)) ((Dspec_l18Two (w64 (p.C + 500))).bind fun v8 => chk (apB 1 ((((b ++ [2]) ++ v4) ++ v6).length + v8.length)) ((Dspec_l18Two (w64 (p.D + 500))).bind fun v10 => chk (apB 1 (((((b ++ [2]) ++ v4) ++ v6) ++ v8).length + v10.length)) ((lget k 1).bind fun v12 => (lget k 0).bind fun v13 => (self (v13, (((((b ++ [2]) ++ v4) ++ v6) ++ v8) ++ v10))).bind fun v14 => (self (v12, v14)).bind fun v15 => some v15)))))) := rfl
theorem iTreeStep (n : Nat) (self : List Int × Sol → Option (List Int)) (i : Bool) (p : Pl) (k : List Sol) (b : List Int) : Dimpl_putTreeo0_b n self (b, .mk i p k) =
    frk ((k.length : Int) == 0) (frk i (chk (apB 1 (b.length + 1)) (some (b ++ [1]))) (chk (apB 1 (b.length + 1)) (some (b ++ [0])))) (chk (apB 1 (b.length + 1)) ((Dimpl_lowo0 (b ++ [2]) (w64 (p.A + 500))).bind fun v4 => (Dimpl_lowo0 v4 (w64 (p.B + 500))).bind fun v5 => (Dimpl_lowo0 v5 (w64 (p.C + 500))).bind fun v6 => (Dimpl_lowo0 v6 (w64 (p.D + 500))).bind fun v7 => (lget k 0).bind fun v8 => (self (v7, v8)).bind fun v9 => (lget k 1).bind fun v10 => (self (v9, v10)).bind fun v11 => some v11)) := rfl
theorem co {x : Int} (h : B 500 x) : 0 ≤ w64 (x + 500) ∧ w64 (x + 500) ≤ 65535 ∧ w64 (x + 500) = x + 500 := by
  unfold B at h
  have : w64 (x + 500) = x + 500 := w64_id (by omega) (by omega)
  omega
theorem sTree {s : Sol} {path : List Pl} (h : Rt s path) : E2 fun n m => ∀ b : List Int, b.length + 10 * nod s + 1 ≤ 100000 → loopN (Dspec_l18Treeo1_b n) m (s, b) = some (b ++ pb s) := by
  induction h with
  | @leaf i p path hz =>
    refine E2.suc (E2.of fun n m b hb => ?_)
    rw [loop_suc, sTreeStep, pb_leaf]
    rw [show ((([] : List Sol).length : Int) == 0) = true from rfl, frk_t, chk_eq (apB_ok (by omega) (by omega)), chk_eq (apB_ok (by omega) (by omega))]
    cases i <;> rfl
  | @node p a c path hp _ _ _ _ _ iha ihb =>
    refine E2.suc ((iha.and ihb).mono fun n m ⟨h1, h2⟩ b hb => ?_)
    rw [nod2] at hb
    obtain ⟨pA, pB, pC, pD⟩ := pOk_PB hp
    obtain ⟨a1, a2, a3⟩ := co pA
    obtain ⟨b1, b2, b3⟩ := co pB
    obtain ⟨c1, c2, c3⟩ := co pC
    obtain ⟨d1, d2, d3⟩ := co pD
    rw [loop_suc, sTreeStep, pb_two]
    rw [show ((([a, c] : List Sol).length : Int) == 0) = false from rfl, frk_f, chk_eq (apB_ok (by omega) (by omega))]
    rw [twoOk a1 a2, Option.bind_some, chk_eq (apB_ok (by simp [twob_len]; omega) (by simp [twob_len]; omega))]
    rw [twoOk b1 b2, Option.bind_some, chk_eq (apB_ok (by simp [twob_len]; omega) (by simp [twob_len]; omega))]
    rw [twoOk c1 c2, Option.bind_some, chk_eq (apB_ok (by simp [twob_len]; omega) (by simp [twob_len]; omega))]
    rw [twoOk d1 d2, Option.bind_some, chk_eq (apB_ok (by simp [twob_len]; omega) (by simp [twob_len]; omega))]
    show ((some c).bind fun v12 => (some a).bind _) = _
    rw [Option.bind_some, Option.bind_some, h1 _ (by simp [twob_len]; omega), Option.bind_some, h2 _ (by simp [twob_len, pb_len (by assumption : Rt a _)]; omega), a3, b3, c3, d3]
    simp
theorem iTree {s : Sol} {path : List Pl} (h : Rt s path) : E2 fun n m => ∀ b : List Int, b.length + 10 * nod s + 1 ≤ 100000 → loopN (Dimpl_putTreeo0_b n) m (b, s) = some (b ++ pb s) := by
  induction h with
  | @leaf i p path hz =>
    refine E2.suc (E2.of fun n m b hb => ?_)
    rw [loop_suc, iTreeStep, pb_leaf]
    rw [show ((([] : List Sol).length : Int) == 0) = true from rfl, frk_t, chk_eq (apB_ok (by omega) (by omega)), chk_eq (apB_ok (by omega) (by omega))]
    cases i <;> rfl
  | @node p a c path hp _ _ _ _ _ iha ihb =>
    refine E2.suc ((iha.and ihb).mono fun n m ⟨h1, h2⟩ b hb => ?_)
    rw [nod2] at hb
    obtain ⟨pA, pB, pC, pD⟩ := pOk_PB hp
    obtain ⟨a1, a2, a3⟩ := co pA
    obtain ⟨b1, b2, b3⟩ := co pB
    obtain ⟨c1, c2, c3⟩ := co pC
    obtain ⟨d1, d2, d3⟩ := co pD
    rw [loop_suc, iTreeStep, pb_two]
    rw [show ((([a, c] : List Sol).length : Int) == 0) = false from rfl, frk_f, chk_eq (apB_ok (by omega) (by omega))]
    rw [lowOk _ a1 a2 (by simp [twob_len]; omega), Option.bind_some, lowOk _ b1 b2 (by simp [twob_len]; omega), Option.bind_some, lowOk _ c1 c2 (by simp [twob_len]; omega), Option.bind_some, lowOk _ d1 d2 (by simp [twob_len]; omega), Option.bind_some]
    show ((some a).bind _) = _
    rw [Option.bind_some, h1 _ (by simp [twob_len]; omega), Option.bind_some]
    show ((some c).bind _) = _
    rw [Option.bind_some, h2 _ (by simp [twob_len, pb_len (by assumption : Rt a _)]; omega), a3, b3, c3, d3]
    simp

/-! sums -/
def smS (a : Int × Int) (v : Int) : Int × Int := (Int.tmod (w64 (a.1 + (w64 v))) 65521, Int.tmod (w64 (a.2 + (Int.tmod (w64 (a.1 + (w64 v))) 65521))) 65521)
theorem smLoop (F : (Int × Int × Int → Option (Int × Int)) → Int × Int × Int → Option (Int × Int)) (l : List Int) (hl : l.length ≤ 100000)
    (hF : ∀ rec x y (t : Int), F rec (x, y, t) = frk (decide (t < (l.length : Int))) ((lget l t).bind fun v0 => rec (Int.tmod (w64 (x + (w64 v0))) 65521, Int.tmod (w64 (y + (Int.tmod (w64 (x + (w64 v0))) 65521))) 65521, w64 (t + 1))) (some (x, y))) :
    ∀ (r : List Int) (k m : Nat) (x y : Int), l.drop k = r → k ≤ l.length → r.length < m → loopN F m (x, y, (k : Int)) = some (r.foldl smS (x, y)) := by
  intro r
  induction r with
  | nil =>
    intro k m x y hr hk hm
    obtain ⟨m, rfl⟩ : ∃ j, m = j + 1 := ⟨m - 1, by omega⟩
    have hk : k = l.length := by have := List.drop_eq_nil_iff.1 hr; omega
    subst hk
    rw [loop_suc, hF, lt_self, frk_f]; rfl
  | cons v r ih =>
    intro k m x y hr hk hm
    simp only [List.length_cons] at hm
    obtain ⟨m, rfl⟩ : ∃ j, m = j + 1 := ⟨m - 1, by omega⟩
    have hkl : k < l.length := by
      rcases Nat.lt_or_ge k l.length with h | h
      · exact h
      · rw [List.drop_eq_nil_of_le h] at hr; cases hr
    have hx : l[k]? = some v := by
      have := congrArg List.head? hr
      simpa using this
    have hr' : l.drop (k + 1) = r := by
      rw [← List.drop_drop, hr]; rfl
    rw [loop_suc, hF, lt_dec hkl, frk_t, lget_nat, hx, Option.bind_some, w64_suc (by unfold big; omega), ih (k + 1) m _ _ hr' (by omega) (by omega)]
    rfl
theorem sSum (l : List Int) (hl : l.length ≤ 100000) : Ev fun n => Dspec_l18Sum n l = some (l.foldl smS (1, 0)) :=
  ⟨l.length + 1, fun n hn => smLoop (Dspec_l18Sum_0 n l) l hl (fun _ _ _ _ => rfl) l 0 n 1 0 rfl (by omega) (by omega)⟩
theorem iSum (l : List Int) (hl : l.length ≤ 100000) : Ev fun n => Dimpl_sums n l = some (l.foldl smS (1, 0)) :=
  ⟨l.length + 1, fun n hn => smLoop (Dimpl_sums_0 n l (l.length : Int)) l hl (fun _ _ _ _ => rfl) l 0 n 1 0 rfl (by omega) (by omega)⟩
theorem two_len (x : Int) : ∃ a b, Dspec_l18Two x = some [a, b] := ⟨_, _, rfl⟩

open Classical in
theorem plain_SumOf (s : Sol) (h : Lens s) : ∃ n, Dlaws_FnExactSumOf n s = some true := by
  by_cases ht : (tot s : Int) ≤ 1048576
  · have e1 := sz s h
    have e2 := to s (by omega)
    have e3 := sSolidOk s h
    have e4 := iSolidOk s
    have e5 := eqs s (by omega)
    by_cases hr : Right s
    · have hn := hr.2
      have hl : ([80, 87] ++ pb s : List Int).length ≤ 100000 := by simp [pb_len hr.1]; omega
      obtain ⟨N, hN⟩ := (e1.and (e2.and (e3.and (e4.and (e5.and ((sTree hr.1).ev.and ((iTree hr.1).ev.and ((sSum _ hl).and (iSum _ hl)))))))))
      obtain ⟨a1, a2, a3, a4, a5, a6, a7, a8, a9⟩ := hN N (Nat.le_refl N)
      have a6 := a6 [80, 87] (by simp; omega)
      have a7 := a7 [80, 87] (by simp; omega)
      generalize hx : [80, 87] ++ pb s = l at *
      refine ⟨N, ?_⟩
      unfold Dlaws_FnExactSumOf
      rw [a1, Option.bind_some, szv_yes ht, decide_eq_false (by omega), frk_f, a2, Option.bind_some]
      have b1 : Dimpl_SumOf N s = some (w64 ((l.foldl smS (1, 0)).1 + w64 (65536 * (l.foldl smS (1, 0)).2))) := by
        unfold Dimpl_SumOf Dimpl_putTreeo0
        rw [a4, Option.bind_some, decide_eq_true hr, Bool.not_true, frk_f, a7, Option.bind_some, a9, Option.bind_some]
      have b2 : Dspec_SumOf N s = some (w64 ((l.foldl smS (1, 0)).1 + w64 (65536 * (l.foldl smS (1, 0)).2))) := by
        obtain ⟨x1, x2, hx⟩ := two_len (l.foldl smS (1, 0)).1
        obtain ⟨y1, y2, hy⟩ := two_len (l.foldl smS (1, 0)).2
        have c1 : Dspec_PutSolid N s = some ((l ++ [x1, x2]) ++ [y1, y2]) := by
          unfold Dspec_PutSolid Dspec_l18Treeo1
          rw [a3, Option.bind_some, decide_eq_true hr, Bool.not_true, frk_f, a6, Option.bind_some, a8, Option.bind_some, hx, Option.bind_some, chk_eq (apB_ok (by simp; omega) (by simp; omega)), hy, Option.bind_some, chk_eq (apB_ok (by simp; omega) (by simp; omega))]
        unfold Dspec_SumOf
        rw [c1, Option.bind_some]
        have d1 : ((((l ++ [x1, x2]) ++ [y1, y2]).length : Int) == 0) = false := by simp; omega
        have d2 : w64 ((((l ++ [x1, x2]) ++ [y1, y2]).length : Int) - 4) = (l.length : Int) := by
          have : (((l ++ [x1, x2]) ++ [y1, y2]).length : Int) = (l.length : Int) + 4 := by simp
          rw [this, w64_id (by omega) (by omega)]; omega
        rw [d1, frk_f, d2, lsl_take _ _ (by simp), Option.bind_some]
        have d3 : ((l ++ [x1, x2]) ++ [y1, y2]).take l.length = l := by rw [List.append_assoc, List.take_left]
        rw [d3, a8, Option.bind_some]
      rw [b2, Option.bind_some, Option.bind_some, b1]
      simp only [Option.bind_some, bne_self_eq_false, frk_f, a5, Bool.not_true]
    · obtain ⟨N, hN⟩ := (e1.and (e2.and (e3.and (e4.and e5))))
      obtain ⟨a1, a2, a3, a4, a5⟩ := hN N (Nat.le_refl N)
      refine ⟨N, ?_⟩
      unfold Dlaws_FnExactSumOf
      rw [a1, Option.bind_some, szv_yes ht, decide_eq_false (by omega), frk_f, a2, Option.bind_some]
      have b1 : Dimpl_SumOf N s = some 0 := by
        unfold Dimpl_SumOf
        rw [a4, Option.bind_some, decide_eq_false hr, Bool.not_false, frk_t]
      have b2 : Dspec_SumOf N s = some 0 := by
        unfold Dspec_SumOf Dspec_PutSolid
        rw [a3, Option.bind_some, decide_eq_false hr, Bool.not_false, frk_t]; rfl
      rw [b2, Option.bind_some, Option.bind_some, b1]
      simp only [Option.bind_some, bne_self_eq_false, frk_f, a5, Bool.not_true]
  · obtain ⟨N, hN⟩ := sz s h
    refine ⟨N, ?_⟩
    unfold Dlaws_FnExactSumOf
    rw [hN N (Nat.le_refl N), Option.bind_some, szv_no ht]; rfl
end Evl.T
