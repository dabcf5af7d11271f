/- Texts that belong together, joined. No condition. -/
import Derived.Test.YtomdcfehnigklaaJp
import Derived.Laws.Strings
/-! Esd -/
namespace Evl.T
open Go Evl

def smS (a : Int × Int) (v : Int) : Int × Int := (Int.tmod (w64 (a.1 + (w64 v))) 65521, Int.tmod (w64 (a.2 + (Int.tmod (w64 (a.1 + (w64 v))) 65521))) 65521)
theorem smLoop (F : (Int × Int × Int → Option (Int × Int)) → Int × Int × Int → Option (Int × Int)) (l : List Int) (hl : l.length ≤ 100000)
    (hF : ∀ rec x y (t : Int), F rec (x, y, t) = frk (decide (t < (l.length : Int))) ((lget l t).bind fun v0 => rec (Int.tmod (w64 (x + (w64 v0))) 65521, Int.tmod (w64 (y + (Int.tmod (w64 (x + (w64 v0))) 65521))) 65521, w64 (t + 1))) (some (x, y))) :
    ∀ (r : List Int) (k m : Nat) (x y : Int), l.drop k = r → k ≤ l.length → r.length < m → loopN F m (x, y, (k : Int)) = some (r.foldl smS (x, y)) := by
  intro r
  induction r with
  | nil =>
    intro k m x y hr hk hm
    obtain ⟨m, rfl⟩ : ∃ j, m = j + 1 := ⟨m - 1, by omega⟩
    have hk : k = l.length := by have := List.drop_eq_nil_iff.1 hr; omega
    subst hk
    rw [loop_suc, hF, lt_self, frk_f]; rfl
  | cons v r ih =>
    intro k m x y hr hk hm
    simp only [List.length_cons] at hm
    obtain ⟨m, rfl⟩ : ∃ j, m = j + 1 := ⟨m - 1, by omega⟩
    have hkl : k < l.length := by
      rcases Nat.lt_or_ge k l.length with h | h
      · exact h
      · rw [List.drop_eq_nil_of_le h] at hr; cases hr
    have hx : l[k]? = some v := by
      have := congrArg List.head? hr
      simpa using this
    have hr' : l.drop (k + 1) = r := by
      rw [← List.drop_drop, hr]; rfl
    rw [loop_suc, hF, lt_dec hkl, frk_t, lget_nat, hx, Option.bind_some, w64_suc (by unfold big; omega), ih (k + 1) m _ _ hr' (by omega) (by omega)]
    rfl
theorem sSum (l : List Int) (hl : l.length ≤ 100000) : Ev fun n => Dspec_l18Sum n l = some (l.foldl smS (1, 0)) :=
  ⟨l.length + 1, fun n hn => smLoop (Dspec_l18Sum_0 n l) l hl (fun _ _ _ _ => rfl) l 0 n 1 0 rfl (by omega) (by omega)⟩
theorem iSum (l : List Int) (hl : l.length ≤ 100000) : Ev fun n => Dimpl_sums n l = some (l.foldl smS (1, 0)) :=
  ⟨l.length + 1, fun n hn => smLoop (Dimpl_sums_0 n l (l.length : Int)) l hl (fun _ _ _ _ => rfl) l 0 n 1 0 rfl (by omega) (by omega)⟩
end Evl.T

/-! Eqz -/
namespace Evl.T
open Go Evl

/-- Bytes turned from k on. -/
def mb : List Int → Int → List Int
  | [], _ => []
  | _ :: r, k => IntKind.u8.wrap k :: mb r (k + 1)
theorem mb_len : ∀ (l : List Int) (k : Int), (mb l k).length = l.length
  | [], _ => rfl
  | _ :: r, k => by simp [mb, mb_len r]
theorem mid_get {α : Type} (P : List α) (y : α) (r : List α) : lget (P ++ y :: r) ((P.length : Nat) : Int) = some y := by
  rw [lget_nat, List.getElem?_append_right (Nat.le_refl _)]; simp
theorem mid_set {α : Type} (P : List α) (y z : α) (r : List α) : (P ++ y :: r).set (Int.toNat ((P.length : Nat) : Int)) z = (P ++ [z]) ++ r := by
  rw [Int.toNat_natCast, List.set_append_right _ _ (Nat.le_refl _)]; simp
theorem mbLoop (n : Nat) : ∀ (r P : List Int) (m : Nat) (k : Int), 0 ≤ k → k + r.length ≤ 1000000000 → P.length + r.length ≤ 2000000 → r.length < m →
    loopN (Dlaws_markByteS_0 n) m (k, ((P.length : Nat) : Int), P ++ r) = some (k + r.length, P ++ mb r k) := by
  intro r
  induction r with
  | nil =>
    intro P m k _ _ _ hm
    obtain ⟨m, rfl⟩ : ∃ j, m = j + 1 := ⟨m - 1, by omega⟩
    rw [loop_suc]
    simp only [Dlaws_markByteS_0, List.append_nil, lt_self, frk_f, mb]; simp
  | cons x r ih =>
    intro P m k h0 h1 h2 hm
    simp only [List.length_cons] at h1 h2 hm
    obtain ⟨m, rfl⟩ : ∃ j, m = j + 1 := ⟨m - 1, by omega⟩
    rw [loop_suc]
    show frk (decide (((P.length : Nat) : Int) < (((P ++ x :: r).length : Nat) : Int))) _ _ = _
    rw [lt_dec (by simp), frk_t, mid_get, Option.bind_some, mid_set, w64_id (by omega) (by omega), w64_suc (by unfold big; omega)]
    have e : ((P.length + 1 : Nat) : Int) = (((P ++ [IntKind.u8.wrap k]).length : Nat) : Int) := by simp
    rw [e, ih (P ++ [IntKind.u8.wrap k]) m (k + 1) (by omega) (by omega) (by simp; omega) (by omega)]
    simp only [mb, List.append_assoc, List.singleton_append, List.length_cons]
    congr 2; push_cast; omega
theorem markB (l : List Int) (hl : l.length ≤ 2000000) : Ev fun n => Dlaws_markByteS n l 1 = some (1 + (l.length : Int), mb l 1) := by
  refine ⟨l.length + 1, fun n hn => ?_⟩
  have := mbLoop n l [] n 1 (by omega) (by omega) (by simpa using hl) (by omega)
  show loopN (Dlaws_markByteS_0 n) n (1, 0, l) = _
  simpa using this
theorem eqLoopB (n : Nat) (L : List Int) (hL : L.length ≤ 2000000) : ∀ (r P : List Int) (m : Nat), L = P ++ r → r.length < m → loopN (Dlaws_eqByteS_0 n L L) m ((P.length : Nat) : Int) = some true := by
  intro r
  induction r with
  | nil =>
    intro P m he hm
    obtain ⟨m, rfl⟩ : ∃ j, m = j + 1 := ⟨m - 1, by omega⟩
    rw [loop_suc]
    simp only [List.append_nil] at he
    simp only [Dlaws_eqByteS_0, he, lt_self, frk_f]
  | cons x r ih =>
    intro P m he hm
    simp only [List.length_cons] at hm
    obtain ⟨m, rfl⟩ : ∃ j, m = j + 1 := ⟨m - 1, by omega⟩
    have hlen : L.length = P.length + (1 + r.length) := by rw [he]; simp; omega
    rw [loop_suc]
    show frk (decide (((P.length : Nat) : Int) < ((L.length : Nat) : Int))) ((lget L _).bind _) _ = _
    have hg : lget L ((P.length : Nat) : Int) = some x := by rw [he]; exact mid_get _ _ _
    rw [lt_dec (by omega), frk_t, hg, Option.bind_some, Option.bind_some, bne_self_eq_false, frk_f, w64_suc (by unfold big; omega)]
    have e : ((P.length + 1 : Nat) : Int) = (((P ++ [x]).length : Nat) : Int) := by simp
    rw [e]
    exact ih (P ++ [x]) m (by rw [he]; simp) (by omega)
theorem eqB (l : List Int) (hl : l.length ≤ 2000000) : Ev fun n => Dlaws_eqByteS n l l = some true := by
  refine ⟨l.length + 1, fun n hn => ?_⟩
  show Dlaws_eqByteS n l l = some true
  unfold Dlaws_eqByteS
  rw [bne_self_eq_false, frk_f]
  exact eqLoopB n l hl l [] n rfl (by omega)

end Evl.T

/-! Eqa -/
namespace Evl.T
open Go Evl

mutual
def mk1 : Sol → Int → Int × Sol
  | .mk _ _ kids, k => ((mkL kids (k + 1 + 1 + 1 + 1 + 1)).1, .mk (Int.tmod k 3 == 0) ⟨k + 1, k + 1 + 1, k + 1 + 1 + 1, k + 1 + 1 + 1 + 1⟩ (mkL kids (k + 1 + 1 + 1 + 1 + 1)).2)
def mkL : List Sol → Int → Int × List Sol
  | [], k => (k, [])
  | x :: xs, k => ((mkL xs (mk1 x k).1).1, (mk1 x k).2 :: (mkL xs (mk1 x k).1).2)
end
theorem mkL_nil (k : Int) : mkL [] k = (k, []) := by rw [mkL]
theorem mkL_cons (x : Sol) (xs : List Sol) (k : Int) : mkL (x :: xs) k = ((mkL xs (mk1 x k).1).1, (mk1 x k).2 :: (mkL xs (mk1 x k).1).2) := by rw [mkL]
theorem mk1_eq (x : Sol) (k : Int) : mk1 x k = ((mkL x.kids (k + 1 + 1 + 1 + 1 + 1)).1, .mk (Int.tmod k 3 == 0) ⟨k + 1, k + 1 + 1, k + 1 + 1 + 1, k + 1 + 1 + 1 + 1⟩ (mkL x.kids (k + 1 + 1 + 1 + 1 + 1)).2) := by
  cases x; rw [mk1]; rfl
mutual
theorem mk1_fst : ∀ (x : Sol) (k : Int), (mk1 x k).1 = k + 5 + 5 * (tot x : Int)
  | .mk i p kids, k => by
    rw [mk1]
    have := mkL_fst kids (k + 1 + 1 + 1 + 1 + 1)
    rw [tot_mk]
    show (mkL kids (k + 1 + 1 + 1 + 1 + 1)).1 = _
    rw [this]; push_cast; omega
theorem mkL_fst : ∀ (l : List Sol) (k : Int), (mkL l k).1 = k + 5 * ((l.length : Int) + (totL l : Int))
  | [], k => by rw [mkL, totL]; simp
  | x :: xs, k => by
    rw [mkL]
    have h1 := mk1_fst x k
    have h2 := mkL_fst xs (mk1 x k).1
    show (mkL xs (mk1 x k).1).1 = _
    rw [h2, h1, totL, List.length_cons]; push_cast; omega
end
theorem mkL_len : ∀ (l : List Sol) (k : Int), (mkL l k).2.length = l.length
  | [], k => by rw [mkL]
  | x :: xs, k => by rw [mkL]; simp [mkL_len xs]

def gig : Int := 1000000000
theorem wk {k : Int} (h0 : 0 ≤ k) (h1 : k + 5 ≤ gig) : w64 (k + 1) = k + 1 ∧ w64 (k + 1 + 1) = k + 1 + 1 ∧ w64 (k + 1 + 1 + 1) = k + 1 + 1 + 1 ∧ w64 (k + 1 + 1 + 1 + 1) = k + 1 + 1 + 1 + 1 ∧ w64 (k + 1 + 1 + 1 + 1 + 1) = k + 1 + 1 + 1 + 1 + 1 := by
  unfold gig at h1
  refine ⟨?_, ?_, ?_, ?_, ?_⟩ <;> exact w64_id (by omega) (by omega)
theorem lget_mid (P : List Sol) (y : Sol) (r : List Sol) : lget (P ++ y :: r) ((P.length : Nat) : Int) = some y := by
  rw [lget_nat, List.getElem?_append_right (Nat.le_refl _)]; simp
theorem set_mid' (P : List Sol) (y z : Sol) (r : List Sol) : (P ++ y :: r).set (Int.toNat ((P.length : Nat) : Int)) z = P ++ z :: r := by
  rw [Int.toNat_natCast, List.set_append_right _ _ (Nat.le_refl _)]; simp
theorem markLoop (n : Nat) (self : List Sol × Int → Option (Int × List Sol)) : ∀ (r P : List Sol) (m : Nat) (k : Int), (∀ x ∈ r, ∀ k : Int, 0 ≤ k → k + 5 * (tot x : Int) ≤ gig → self (x.kids, k) = some (mkL x.kids k)) → r.length < m → P.length + r.length < big → 0 ≤ k → k + 5 * ((r.length : Int) + (totL r : Int)) ≤ gig →
    loopN (Dlaws_markSolidS_1 n self) m (k, ((P.length : Nat) : Int), P ++ r) = some ((mkL r k).1, P ++ (mkL r k).2) := by
  intro r
  induction r with
  | nil =>
    intro P m k hs hm hb h0 h1
    obtain ⟨m, rfl⟩ : ∃ q, m = q + 1 := ⟨m - 1, by omega⟩
    rw [loop_suc]
    simp only [Dlaws_markSolidS_1, List.append_nil, lt_self, frk_f, mkL_nil]
  | cons x r ih =>
    intro P m k hs hm hb h0 h1
    simp only [List.length_cons] at hm hb h1
    obtain ⟨m, rfl⟩ : ∃ q, m = q + 1 := ⟨m - 1, by omega⟩
    rw [totL] at h1
    push_cast at h1
    obtain ⟨w1, w2, w3, w4, w5⟩ := wk h0 (by omega)
    have hlt : ∀ y : Sol, decide (((P.length : Nat) : Int) < ((P ++ y :: r).length : Int)) = true := fun y => by simp; omega
    obtain ⟨xi, xp, xk⟩ := x
    have hself : self (xk, k + 1 + 1 + 1 + 1 + 1) = some (mkL xk (k + 1 + 1 + 1 + 1 + 1)) := hs _ List.mem_cons_self (k + 1 + 1 + 1 + 1 + 1) (by omega) (by omega)
    have hsuc : w64 (((P.length : Nat) : Int) + 1) = (((P ++ [(mk1 (.mk xi xp xk) k).2]).length : Nat) : Int) := by rw [w64_suc (by omega)]; simp
    rw [loop_suc]
    simp only [Dlaws_markSolidS_1, Dlaws_markSolidS_0, hlt, frk_t, lget_mid, set_mid', Option.bind_some, Sol.inn, Sol.pl, Sol.kids, w1, w2, w3, w4, w5]
    rw [hself, Option.bind_some, hsuc]
    have e : (Sol.mk (Int.tmod k 3 == 0) ⟨k + 1, k + 1 + 1, k + 1 + 1 + 1, k + 1 + 1 + 1 + 1⟩ (mkL xk (k + 1 + 1 + 1 + 1 + 1)).2) = (mk1 (.mk xi xp xk) k).2 := by rw [mk1]
    have e1 : (mkL xk (k + 1 + 1 + 1 + 1 + 1)).1 = (mk1 (.mk xi xp xk) k).1 := by rw [mk1]
    rw [e, e1, show P ++ (mk1 (.mk xi xp xk) k).2 :: r = (P ++ [(mk1 (.mk xi xp xk) k).2]) ++ r by simp]
    have hf := mk1_fst (.mk xi xp xk) k
    rw [ih (P ++ [(mk1 (.mk xi xp xk) k).2]) m (mk1 (.mk xi xp xk) k).1 (fun y hy => hs y (List.mem_cons_of_mem _ hy)) (by omega) (by simp; omega) (by omega) (by omega), mkL_cons]
    simp
theorem markOk : ∀ s, Lens s → tot s ≤ 1048576 → E2 fun n m => ∀ k : Int, 0 ≤ k → k + 5 * (tot s : Int) ≤ gig → loopN (Dlaws_markSolidS_b n) m (s.kids, k) = some (mkL s.kids k) := by
  refine sol_ind fun i p k ih hl ht => ?_
  rw [tot_mk] at ht
  cases hl with
  | mk hb hk =>
    have h1 := E2.all fun x hx => ih x hx (hk x hx) (by have := tot_le hx; omega)
    have h2 : E2 fun n _ => k.length < n := ⟨k.length + 1, fun n hn _ _ => by omega⟩
    refine E2.suc ((h1.and h2).mono fun n m ⟨h1, h2⟩ q hq0 hq1 => ?_)
    rw [tot_mk] at hq1
    push_cast at hq1
    rw [loop_suc]
    show loopN (Dlaws_markSolidS_1 n _) n (q, 0, k) = some (mkL k q)
    have := markLoop n (loopN (Dlaws_markSolidS_b n) m) k [] n q h1 h2 (by simp; unfold big; omega) hq0 hq1
    simpa using this
theorem markL (l : List Sol) (hl : ∀ x ∈ l, Lens x) (hlen : l.length ≤ big) (ht : l.length + totL l ≤ 1048576) : Ev fun n => Dlaws_markSolidS n l 1 = some (mkL l 1) :=
  (markOk (.mk false ⟨0, 0, 0, 0⟩ l) (.mk hlen hl) (by rw [tot_mk]; exact ht)).ev.mono fun n h => h 1 (by decide) (by rw [tot_mk]; unfold gig; omega)

theorem kidsOf {s : Sol} (h : Lens s) : s.kids.length ≤ big ∧ (∀ x ∈ s.kids, Lens x) ∧ tot s = s.kids.length + totL s.kids := by
  cases h with
  | mk hb hk => exact ⟨hb, hk, tot_mk _ _ _⟩
/-- A tree is marked: the number that comes back. -/
def mkN (s : Sol) : Int := (mkL s.kids 1).1
theorem mkN_ge (s : Sol) : 1 ≤ mkN s := by unfold mkN; rw [mkL_fst]; omega
theorem marks {s : Sol} (h : Lens s) (ht : tot s ≤ 1048576) : Ev fun n => Dlaws_markSolidS n s.kids 1 = some (mkL s.kids 1) := by
  obtain ⟨h1, h2, h3⟩ := kidsOf h
  exact markL s.kids h2 h1 (by omega)
theorem mkN_lt (s : Sol) : decide ((mkL s.kids 1).1 < 0) = false := decide_eq_false (by have := mkN_ge s; unfold mkN at this; omega)
theorem mkN_lt' (s : Sol) : decide (mkN s < 0) = false := mkN_lt s

/-- A tree that forks in two. -/
inductive Tw : Sol → Prop
  | leaf {i p} : Tw (.mk i p [])
  | node {i p a b} : Tw a → Tw b → Tw (.mk i p [a, b])
theorem Tw.lens {s : Sol} (h : Tw s) : Lens s := by
  induction h with
  | leaf => exact .mk (by simp [big]) (by simp)
  | node _ _ iha ihb =>
    refine .mk (by simp [big]) fun x hx => ?_
    simp only [List.mem_cons, List.not_mem_nil, or_false] at hx
    rcases hx with rfl | rfl
    · exact iha
    · exact ihb
theorem Tw.tot {s : Sol} (h : Tw s) : Evl.T.tot s = 2 * nod s := by
  induction h with
  | leaf => rw [tot_mk, nod_leaf]; simp [totL]
  | node _ _ iha ihb => rw [tot_mk, nod2]; simp only [totL, List.length_cons, List.length_nil, iha, ihb]; omega
theorem Rt.tw {s : Sol} {l : List Pl} (h : Rt s l) : Tw s := by
  induction h with
  | leaf _ => exact .leaf
  | node _ _ _ _ _ _ iha ihb => exact .node iha ihb

/-- The same, from any number on. -/
theorem markAt {s : Sol} (h : Lens s) (ht : tot s ≤ 1048576) : Ev fun n => ∀ k : Int, 0 ≤ k → k ≤ 900000000 → Dlaws_markSolidS n s.kids k = some (mkL s.kids k) :=
  (markOk s h ht).ev.mono fun n hn k h0 h1 => hn k h0 (by unfold gig; omega)
theorem mkL_tot {s : Sol} (k : Int) : (mkL s.kids k).1 = k + 5 * (tot s : Int) := by
  rw [mkL_fst]; cases s; rw [tot_mk]; push_cast; rfl
end Evl.T

/-! Eqo -/
namespace Evl.T
open Go Evl

theorem heldLoop (n : Nat) (self : List Sol × Int → Option Int) (L : List Sol) (hL : L.length ≤ big) : ∀ (r : List Sol) (i m : Nat) (k : Int), (∀ x ∈ r, ∀ k : Int, 0 ≤ k → k + 5 * (tot x : Int) ≤ gig → self ((mkL x.kids k).2, k) = some (mkL x.kids k).1) → L.drop i = (mkL r k).2 → i ≤ L.length → r.length < m → 0 ≤ k → k + 5 * ((r.length : Int) + (totL r : Int)) ≤ gig →
    loopN (Dlaws_heldSolidS_0 n self L) m (k, (i : Int)) = some (mkL r k).1 := by
  intro r
  induction r with
  | nil =>
    intro i m k hs hd hi hm h0 h1
    obtain ⟨m, rfl⟩ : ∃ q, m = q + 1 := ⟨m - 1, by omega⟩
    rw [mkL_nil] at hd
    have : i = L.length := by have := List.drop_eq_nil_iff.1 hd; omega
    subst this
    rw [loop_suc]
    simp only [Dlaws_heldSolidS_0, lt_self, frk_f, mkL_nil]
  | cons x r ih =>
    intro i m k hs hd hi hm h0 h1
    simp only [List.length_cons] at hm h1
    obtain ⟨m, rfl⟩ : ∃ q, m = q + 1 := ⟨m - 1, by omega⟩
    rw [totL] at h1
    push_cast at h1
    obtain ⟨w1, w2, w3, w4, w5⟩ := wk h0 (by omega)
    rw [mkL_cons] at hd
    obtain ⟨hil, hx, hd', -⟩ := drop_get hd
    obtain ⟨xi, xp, xk⟩ := x
    have hself : self ((mkL xk (k + 1 + 1 + 1 + 1 + 1)).2, k + 1 + 1 + 1 + 1 + 1) = some (mkL xk (k + 1 + 1 + 1 + 1 + 1)).1 := hs _ List.mem_cons_self (k + 1 + 1 + 1 + 1 + 1) (by omega) (by omega)
    have hf := mk1_fst (.mk xi xp xk) k
    have e1 : (mkL xk (k + 1 + 1 + 1 + 1 + 1)).1 = (mk1 (.mk xi xp xk) k).1 := by rw [mk1]
    have hnn : decide ((mkL xk (k + 1 + 1 + 1 + 1 + 1)).1 < 0) = false := decide_eq_false (by rw [e1]; omega)
    rw [loop_suc]
    simp only [Dlaws_heldSolidS_0, lt_dec hil, frk_t, lget_nat, hx, Option.bind_some, w1, w2, w3, w4, w5]
    simp only [mk1, Sol.inn, Sol.pl, Sol.kids, beq_self_eq_true, Bool.not_true, frk_f, bne_self_eq_false]
    rw [hself, Option.bind_some, hnn, frk_f, w64_suc (by omega), e1]
    rw [ih (i + 1) m (mk1 (.mk xi xp xk) k).1 (fun y hy => hs y (List.mem_cons_of_mem _ hy)) hd' (by omega) (by omega) (by omega) (by omega), mkL_cons]
theorem heldOk : ∀ s, Lens s → tot s ≤ 1048576 → E2 fun n m => ∀ k : Int, 0 ≤ k → k + 5 * (tot s : Int) ≤ gig → loopN (Dlaws_heldSolidS_b n) m ((mkL s.kids k).2, k) = some (mkL s.kids k).1 := by
  refine sol_ind fun i p k ih hl ht => ?_
  rw [tot_mk] at ht
  cases hl with
  | mk hb hk =>
    have h1 := E2.all fun x hx => ih x hx (hk x hx) (by have := tot_le hx; omega)
    have h2 : E2 fun n _ => k.length < n := ⟨k.length + 1, fun n hn _ _ => by omega⟩
    refine E2.suc ((h1.and h2).mono fun n m ⟨h1, h2⟩ q hq0 hq1 => ?_)
    rw [tot_mk] at hq1
    push_cast at hq1
    rw [loop_suc]
    show loopN (Dlaws_heldSolidS_0 n _ (mkL k q).2) n (q, 0) = some (mkL k q).1
    exact heldLoop n (loopN (Dlaws_heldSolidS_b n) m) (mkL k q).2 (by rw [mkL_len]; exact hb) k 0 n q h1 (by simp) (by omega) h2 hq0 hq1
theorem heldL (s : Sol) (l : List Sol) (hs : s.kids = (mkL l 1).2) (hl : ∀ x ∈ l, Lens x) (hlen : l.length ≤ big) (ht : l.length + totL l ≤ 1048576) : Ev fun n => Dlaws_heldSolid n s 1 = some (mkL l 1).1 :=
  (heldOk (.mk false ⟨0, 0, 0, 0⟩ l) (.mk hlen hl) (by rw [tot_mk]; exact ht)).ev.mono fun n h => by
    have := h 1 (by decide) (by rw [tot_mk]; unfold gig; omega)
    have h1 := mkL_fst l 1
    unfold Dlaws_heldSolid Dlaws_heldSolidS
    rw [hs]
    have e : loopN (Dlaws_heldSolidS_b n) n ((mkL l 1).2, 1) = some (mkL l 1).1 := this
    rw [e, Option.bind_some, decide_eq_false (by omega), frk_f]

theorem helds {s : Sol} (h : Lens s) (ht : tot s ≤ 1048576) : Ev fun n => Dlaws_heldSolid n (Sol.mk s.inn s.pl (mkL s.kids 1).2) 1 = some (mkN s) := by
  obtain ⟨h1, h2, h3⟩ := kidsOf h
  exact heldL _ s.kids rfl h2 h1 (by omega)
theorem heldAt {s : Sol} (h : Lens s) (ht : tot s ≤ 1048576) : Ev fun n => ∀ k : Int, 0 ≤ k → k ≤ 900000000 → Dlaws_heldSolid n (Sol.mk s.inn s.pl (mkL s.kids k).2) k = some (mkL s.kids k).1 :=
  (heldOk s h ht).ev.mono fun n hn k h0 h1 => by
    have h2 := hn k h0 (by unfold gig; omega)
    have h3 := mkL_fst s.kids k
    unfold Dlaws_heldSolid Dlaws_heldSolidS
    have e : loopN (Dlaws_heldSolidS_b n) n ((mkL s.kids k).2, k) = some (mkL s.kids k).1 := h2
    show ((loopN (Dlaws_heldSolidS_b n) n ((mkL s.kids k).2, k)).bind _) = _
    rw [e, Option.bind_some, decide_eq_false (by omega), frk_f]
end Evl.T

/-! Esb -/
namespace Evl.T
open Go Evl

/-! bits -/
theorem or_nat {a b i : Nat} (h : a < 2 ^ i) : a ||| (b * 2 ^ i) = a + b * 2 ^ i := by
  have := Nat.shiftLeft_add_eq_or_of_lt h b
  rw [Nat.shiftLeft_eq] at this
  rw [Nat.or_comm, ← this]; omega
theorem bOr_nat {a b : Nat} (ha : a < 9223372036854775808) (hb : b < 9223372036854775808) (hc : a ||| b < 9223372036854775808) : bOr .i64 (a : Int) (b : Int) = ((a ||| b : Nat) : Int) := by
  unfold bOr
  have e : ∀ x : Nat, x < 9223372036854775808 → (BitVec.ofInt IntKind.i64.bits (x : Int)).toNat = x := fun x hx => by
    show (BitVec.ofInt 64 (x : Int)).toNat = x
    rw [BitVec.toNat_ofInt]
    show ((x : Int) % (2 ^ 64 : Nat)).toNat = x
    omega
  rw [BitVec.toNat_or, e a ha, e b hb]
  have : IntKind.i64.wrap ((a ||| b : Nat) : Int) = w64 ((a ||| b : Nat) : Int) := rfl
  rw [this, w64_id (by omega) (by omega)]
theorem bOr_add {a b : Nat} (i : Nat) (ha : a < 2 ^ i) (hb : a + b * 2 ^ i < 9223372036854775808) : bOr .i64 (a : Int) (((b * 2 ^ i : Nat)) : Int) = ((a + b * 2 ^ i : Nat) : Int) := by
  have e := or_nat (b := b) ha
  rw [bOr_nat (by omega) (by omega) (by omega), e]

/-- Bytes. -/
def Bys (l : List Int) : Prop := ∀ v ∈ l, 0 ≤ v ∧ v ≤ 255
/-- The byte at a place. -/
def byt (l : List Int) (i : Nat) : Nat := ((l[i]?).getD 0).toNat
theorem byt_lt {l : List Int} (h : Bys l) (i : Nat) : byt l i ≤ 255 := by
  unfold byt
  cases e : l[i]? with
  | none => simp
  | some v => have := h v (List.mem_of_getElem? e); simp only [Option.getD_some]; omega
theorem byt_get {l : List Int} (h : Bys l) {i : Nat} (hi : i < l.length) : lget l (i : Int) = some ((byt l i : Nat) : Int) := by
  rw [lget_nat, List.getElem?_eq_getElem hi]
  unfold byt
  rw [List.getElem?_eq_getElem hi]
  have := h _ (List.getElem_mem hi)
  simp only [Option.getD_some]
  congr 1; omega
abbrev Gs := List Int × Int × Int × Int × Int
theorem sFails (l : List Int) (a nd c b : Int) (k p : Int) : Dspec_l18Fails (l, a, nd, c, b) k p = some (if c = 0 then (l, a, nd, k, p) else (l, a, nd, c, b)) := by
  unfold Dspec_l18Fails
  by_cases h : c = 0
  · subst h; rfl
  · have : (c == 0) = false := by simpa using h
    simp only [this, frk_f, if_neg h]
theorem iFails (l : List Int) (a nd c b : Int) (k p : Int) : Dimpl_getter_fail (l, a, nd, c, b) k p = some (if c = 0 then (l, a, nd, k, p) else (l, a, nd, c, b)) := sFails l a nd c b k p
theorem numBad (n : Nat) (l : List Int) (a nd c b k : Int) (h : c ≠ 0) : Dimpl_getter_number n (l, a, nd, c, b) k = some (0, (l, a, nd, c, b)) := by
  have : (c != 0) = true := by simpa using h
  unfold Dimpl_getter_number Dimpl_getter_number_0
  simp only [this, frk_t, iFails, if_neg h, Option.bind_some]
theorem numEnd (n : Nat) (l : List Int) (a : Nat) (nd b : Int) (k : Nat) (hl : l.length ≤ 20000) (ha : a ≤ l.length) (h : l.length < a + k) : Dimpl_getter_number n (l, (a : Int), nd, 0, b) (k : Int) = some (0, (l, (a : Int), nd, 21, (a : Int))) := by
  have hw : w64 ((l.length : Int) - (a : Int)) = (l.length : Int) - a := w64_id (by omega) (by omega)
  unfold Dimpl_getter_number Dimpl_getter_number_1
  simp only [show ((0 : Int) != 0) = false from rfl, frk_f, hw, decide_eq_true (show ((k : Int) > (l.length : Int) - (a : Int)) by omega), frk_t, iFails, if_true, Option.bind_some]
/-- A round of the numbers' loop. -/
theorem numStep (n : Nat) (l : List Int) (hl : l.length ≤ 20000) (hB : Bys l) (a : Nat) (nd b : Int) (k t : Nat) (i : Nat) (rec : Int × Int → Option (Int × Gs)) (hi : i < k) (hik : i ≤ 3) (ha : a + k ≤ l.length) (ht : t < 2 ^ (8 * i)) :
    Dimpl_getter_number_2 n (k : Int) (k : Int) l (a : Int) nd 0 b rec ((t : Int), (i : Int)) = rec (((t + byt l (a + i) * 2 ^ (8 * i) : Nat) : Int), ((i + 1 : Nat) : Int)) := by
  have hb := byt_lt hB (a + i)
  have e1 : w64 ((a : Int) + (i : Int)) = ((a + i : Nat) : Int) := by
    rw [w64_id (by omega) (by omega)]; omega
  have e2 : w64 ((byt l (a + i) : Nat) : Int) = ((byt l (a + i) : Nat) : Int) := w64_id (by omega) (by omega)
  have e3 : IntKind.u64.wrap (w64 (8 * (i : Int))) = ((8 * i : Nat) : Int) := by
    rw [w64_id (by omega) (by omega)]
    have : IntKind.u64.wrap (8 * (i : Int)) = (8 * (i : Int)) % 18446744073709551616 := rfl
    rw [this]; omega
  have hp : byt l (a + i) * 2 ^ (8 * i) ≤ 255 * 2 ^ 24 := Nat.mul_le_mul hb (Nat.pow_le_pow_right (by omega) (by omega))
  have ht' : t < 2 ^ 24 := Nat.lt_of_lt_of_le ht (Nat.pow_le_pow_right (by omega) (by omega))
  have e4 : shL .i64 ((byt l (a + i) : Nat) : Int) ((8 * i : Nat) : Int) = some (((byt l (a + i) * 2 ^ (8 * i) : Nat)) : Int) := by
    unfold shL
    rw [if_neg (by omega), Int.toNat_natCast]
    have : min (8 * i) IntKind.i64.bits = 8 * i := Nat.min_eq_left (by show 8 * i ≤ 64; omega)
    rw [this]
    have : IntKind.i64.wrap (((byt l (a + i) : Nat) : Int) * 2 ^ (8 * i)) = w64 (((byt l (a + i) * 2 ^ (8 * i) : Nat)) : Int) := by
      show w64 _ = _
      congr 1
    rw [this, w64_id (by omega) (by omega)]
  unfold Dimpl_getter_number_2
  simp only
  rw [lt_dec hi, frk_t, e1, byt_get hB (by omega), Option.bind_some, e2, e3, e4, Option.bind_some, bOr_add (8 * i) ht (by omega), w64_suc (by unfold big; omega)]
theorem numFin (n : Nat) (l : List Int) (hl : l.length ≤ 20000) (a : Nat) (nd b : Int) (k : Nat) (t : Int) (rec : Int × Int → Option (Int × Gs)) (ha : a + k ≤ l.length) :
    Dimpl_getter_number_2 n (k : Int) (k : Int) l (a : Int) nd 0 b rec (t, (k : Int)) = some (t, (l, ((a + k : Nat) : Int), nd, 0, b)) := by
  have e1 : w64 ((a : Int) + (k : Int)) = ((a + k : Nat) : Int) := by
    rw [w64_id (by omega) (by omega)]; omega
  unfold Dimpl_getter_number_2
  simp only
  rw [lt_self, frk_f, e1]
theorem numIn (n : Nat) (l : List Int) (a : Nat) (nd b : Int) (k : Nat) (hl : l.length ≤ 20000) (ha : a + k ≤ l.length) : Dimpl_getter_number n (l, (a : Int), nd, 0, b) (k : Int) = loopN (Dimpl_getter_number_2 n (k : Int) (k : Int) l (a : Int) nd 0 b) n (0, 0) := by
  have hw : w64 ((l.length : Int) - (a : Int)) = (l.length : Int) - a := w64_id (by omega) (by omega)
  unfold Dimpl_getter_number Dimpl_getter_number_1
  simp only [show ((0 : Int) != 0) = false from rfl, frk_f, hw, decide_eq_false (show ¬((k : Int) > (l.length : Int) - (a : Int)) by omega)]
theorem num1 (n : Nat) (hn : 8 ≤ n) (l : List Int) (hB : Bys l) (a : Nat) (nd b : Int) (hl : l.length ≤ 20000) (ha : a + 1 ≤ l.length) : Dimpl_getter_number n (l, (a : Int), nd, 0, b) 1 = some (((byt l a : Nat) : Int), (l, ((a + 1 : Nat) : Int), nd, 0, b)) := by
  obtain ⟨n', rfl⟩ : ∃ q, n = q + 2 := ⟨n - 2, by omega⟩
  have h := numIn (n' + 2) l a nd b 1 hl ha
  have h0 := numStep (n' + 2) l hl hB a nd b 1 0 0 (loopN (Dimpl_getter_number_2 (n' + 2) (1 : Nat) (1 : Nat) l (a : Int) nd 0 b) (n' + 1)) (by omega) (by omega) ha (by decide)
  have h1 := numFin (n' + 2) l hl a nd b 1 (((0 + byt l (a + 0) * 2 ^ (8 * 0) : Nat)) : Int) (loopN (Dimpl_getter_number_2 (n' + 2) (1 : Nat) (1 : Nat) l (a : Int) nd 0 b) n') ha
  refine h.trans ((loop_suc _ _ _).trans (h0.trans ((loop_suc _ _ _).trans (h1.trans ?_))))
  simp
theorem num2 (n : Nat) (hn : 8 ≤ n) (l : List Int) (hB : Bys l) (a : Nat) (nd b : Int) (hl : l.length ≤ 20000) (ha : a + 2 ≤ l.length) : Dimpl_getter_number n (l, (a : Int), nd, 0, b) 2 = some (((byt l a + byt l (a + 1) * 256 : Nat) : Int), (l, ((a + 2 : Nat) : Int), nd, 0, b)) := by
  obtain ⟨n', rfl⟩ : ∃ q, n = q + 3 := ⟨n - 3, by omega⟩
  have b0 := byt_lt hB a
  have h := numIn (n' + 3) l a nd b 2 hl ha
  have h0 := numStep (n' + 3) l hl hB a nd b 2 0 0 (loopN (Dimpl_getter_number_2 (n' + 3) (2 : Nat) (2 : Nat) l (a : Int) nd 0 b) (n' + 2)) (by omega) (by omega) ha (by decide)
  have h1 := numStep (n' + 3) l hl hB a nd b 2 (0 + byt l (a + 0) * 2 ^ (8 * 0)) 1 (loopN (Dimpl_getter_number_2 (n' + 3) (2 : Nat) (2 : Nat) l (a : Int) nd 0 b) (n' + 1)) (by omega) (by omega) ha (by simp; omega)
  have h2 := numFin (n' + 3) l hl a nd b 2 (((0 + byt l (a + 0) * 2 ^ (8 * 0) + byt l (a + 1) * 2 ^ (8 * 1) : Nat)) : Int) (loopN (Dimpl_getter_number_2 (n' + 3) (2 : Nat) (2 : Nat) l (a : Int) nd 0 b) n') ha
  refine h.trans ((loop_suc _ _ _).trans (h0.trans ((loop_suc _ _ _).trans (h1.trans ((loop_suc _ _ _).trans (h2.trans ?_))))))
  simp
theorem num4 (n : Nat) (hn : 8 ≤ n) (l : List Int) (hB : Bys l) (a : Nat) (nd b : Int) (hl : l.length ≤ 20000) (ha : a + 4 ≤ l.length) : Dimpl_getter_number n (l, (a : Int), nd, 0, b) 4 = some (((byt l a + byt l (a + 1) * 256 + (byt l (a + 2) + byt l (a + 3) * 256) * 65536 : Nat) : Int), (l, ((a + 4 : Nat) : Int), nd, 0, b)) := by
  obtain ⟨n', rfl⟩ : ∃ q, n = q + 5 := ⟨n - 5, by omega⟩
  have b0 := byt_lt hB a
  have b1 := byt_lt hB (a + 1)
  have b2 := byt_lt hB (a + 2)
  let F := Dimpl_getter_number_2 (n' + 5) (4 : Nat) (4 : Nat) l (a : Int) nd 0 b
  have h := numIn (n' + 5) l a nd b 4 hl ha
  have h0 := numStep (n' + 5) l hl hB a nd b 4 0 0 (loopN F (n' + 4)) (by omega) (by omega) ha (by decide)
  have h1 := numStep (n' + 5) l hl hB a nd b 4 (0 + byt l (a + 0) * 2 ^ (8 * 0)) 1 (loopN F (n' + 3)) (by omega) (by omega) ha (by simp; omega)
  have h2 := numStep (n' + 5) l hl hB a nd b 4 (0 + byt l (a + 0) * 2 ^ (8 * 0) + byt l (a + 1) * 2 ^ (8 * 1)) 2 (loopN F (n' + 2)) (by omega) (by omega) ha (by simp; omega)
  have h3 := numStep (n' + 5) l hl hB a nd b 4 (0 + byt l (a + 0) * 2 ^ (8 * 0) + byt l (a + 1) * 2 ^ (8 * 1) + byt l (a + 2) * 2 ^ (8 * 2)) 3 (loopN F (n' + 1)) (by omega) (by omega) ha (by simp; omega)
  have h4 := numFin (n' + 5) l hl a nd b 4 (((0 + byt l (a + 0) * 2 ^ (8 * 0) + byt l (a + 1) * 2 ^ (8 * 1) + byt l (a + 2) * 2 ^ (8 * 2) + byt l (a + 3) * 2 ^ (8 * 3) : Nat)) : Int) (loopN F n') ha
  refine h.trans ((loop_suc _ _ _).trans (h0.trans ((loop_suc _ _ _).trans (h1.trans ((loop_suc _ _ _).trans (h2.trans ((loop_suc _ _ _).trans (h3.trans ((loop_suc _ _ _).trans (h4.trans ?_))))))))))
  simp only [Nat.zero_add, Nat.mul_zero, Nat.pow_zero, Nat.mul_one, Nat.add_zero, Option.some.injEq, Prod.mk.injEq, and_true]
  omega

/-- A state of the getters. -/
structure Gst (l : List Int) (a : Nat) (nd : Nat) : Prop where
  ha : a ≤ l.length
  hn : nd ≤ 301
/-- Both getters, on a path of so many planes. -/
theorem getOk (l : List Int) (hl : l.length ≤ 20000) (hB : Bys l) : ∀ (k d : Nat), d + k = 24 → ∀ (a nd : Nat) (c b : Int), Gst l a nd → (c = 0 → nd ≤ 300) → ∃ x y, ∃ (a' nd' : Nat) (c' b' : Int), Gst l a' nd' ∧ (c' = 0 → nd' ≤ 300) ∧ (c ≠ 0 → a' = a ∧ nd' = nd ∧ c' = c ∧ b' = b) ∧ Tw x ∧ (c' = 0 → x = y) ∧
    E2 fun n m => loopN (Dspec_l18Get_b n) m ((l, (a : Int), (nd : Int), c, b), (d : Int)) = some (x, (l, (a' : Int), (nd' : Int), c', b')) ∧ loopN (Dimpl_getter_tree_b n) m ((l, (a : Int), (nd : Int), c, b), (d : Int)) = some (y, (l, (a' : Int), (nd' : Int), c', b')) := by
  have bad : ∀ (d a nd : Nat) (c b : Int), c ≠ 0 → E2 fun n m => loopN (Dspec_l18Get_b n) m ((l, (a : Int), (nd : Int), c, b), (d : Int)) = some (lfS false, (l, (a : Int), (nd : Int), c, b)) ∧ loopN (Dimpl_getter_tree_b n) m ((l, (a : Int), (nd : Int), c, b), (d : Int)) = some (lfS false, (l, (a : Int), (nd : Int), c, b)) := fun d a nd c b hc => by
    have e : (c != 0) = true := by simpa using hc
    refine E2.suc (E2.of fun n m => ?_)
    rw [loop_suc, loop_suc]
    constructor
    · unfold Dspec_l18Get_b Dspec_l18Get_0
      simp only [e, frk_t, sFails, if_neg hc, Option.bind_some]; rfl
    · unfold Dimpl_getter_tree_b
      simp only [numBad n l _ _ c b 1 hc, Option.bind_some, e, frk_t]; rfl
  have fin : ∀ (d a nd : Nat) (b : Int), a + 1 ≤ l.length → E2 fun n m => Dspec_l18Get_b n (loopN (Dspec_l18Get_b n) m) ((l, (a : Int), (nd : Int), 0, b), (d : Int)) = frk (decide (((byt l a : Nat) : Int) < 2)) (some (lfS (((byt l a : Nat) : Int) == 1), (l, ((a + 1 : Nat) : Int), (nd : Int), 0, b))) (frk (decide (((byt l a : Nat) : Int) > 2)) (Dspec_l18Get_2 n (loopN (Dspec_l18Get_b n) m) a false 0 0 0 0 l ((a + 1 : Nat) : Int) (w64 ((nd : Int) + 1)) 0 b) (frk ((d : Int) == 24) (Dspec_l18Get_2 n (loopN (Dspec_l18Get_b n) m) a false 0 0 0 0 l ((a + 1 : Nat) : Int) (w64 ((nd : Int) + 1)) 0 b) (Dspec_l18Get_3 n (loopN (Dspec_l18Get_b n) m) d a (decide (w64 ((nd : Int) + 1) > 300)) false 0 0 0 0 l ((a + 1 : Nat) : Int) (w64 ((nd : Int) + 1)) 0 b))) ∧
      Dimpl_getter_tree_b n (loopN (Dimpl_getter_tree_b n) m) ((l, (a : Int), (nd : Int), 0, b), (d : Int)) = frk (decide (((byt l a : Nat) : Int) < 2)) (some (lfS (((byt l a : Nat) : Int) == 1), (l, ((a + 1 : Nat) : Int), (nd : Int), 0, b))) (frk (decide (((byt l a : Nat) : Int) > 2)) (Dimpl_getter_tree_0 n (loopN (Dimpl_getter_tree_b n) m) a false 0 0 0 0 l ((a + 1 : Nat) : Int) (w64 ((nd : Int) + 1)) 0 b) (frk (decide ((d : Int) ≥ 24)) (Dimpl_getter_tree_0 n (loopN (Dimpl_getter_tree_b n) m) a false 0 0 0 0 l ((a + 1 : Nat) : Int) (w64 ((nd : Int) + 1)) 0 b) (Dimpl_getter_tree_1 n (loopN (Dimpl_getter_tree_b n) m) d a (decide (w64 ((nd : Int) + 1) > 300)) false 0 0 0 0 l ((a + 1 : Nat) : Int) (w64 ((nd : Int) + 1)) 0 b))) := fun d a nd b ha => by
    refine (e2_ge 40).mono fun n m ⟨hn, hm⟩ => ?_
    have e0 : decide ((a : Int) ≥ (l.length : Int)) = false := decide_eq_false (by omega)
    have e1 : w64 ((a : Int) + 1) = ((a + 1 : Nat) : Int) := w64_suc (by unfold big; omega)
    constructor
    · unfold Dspec_l18Get_b Dspec_l18Get_1
      simp only [show ((0 : Int) != 0) = false from rfl, frk_f, e0, byt_get hB (show a < l.length by omega), Option.bind_some, e1]
      rfl
    · unfold Dimpl_getter_tree_b
      simp only [num1 n (by omega) l hB a nd b hl ha, Option.bind_some, show ((0 : Int) != 0) = false from rfl, frk_f]
      rfl
  have endd : ∀ (d a nd : Nat) (b : Int), a = l.length → E2 fun n m => loopN (Dspec_l18Get_b n) m ((l, (a : Int), (nd : Int), 0, b), (d : Int)) = some (lfS false, (l, (a : Int), (nd : Int), 21, (a : Int))) ∧ loopN (Dimpl_getter_tree_b n) m ((l, (a : Int), (nd : Int), 0, b), (d : Int)) = some (lfS false, (l, (a : Int), (nd : Int), 21, (a : Int))) := fun d a nd b ha => by
    refine E2.suc (E2.of fun n m => ?_)
    have e0 : decide ((a : Int) ≥ (l.length : Int)) = true := decide_eq_true (by omega)
    rw [loop_suc, loop_suc]
    constructor
    · unfold Dspec_l18Get_b Dspec_l18Get_1
      simp only [show ((0 : Int) != 0) = false from rfl, frk_f, e0, frk_t, sFails, if_true, Option.bind_some]; rfl
    · unfold Dimpl_getter_tree_b
      have := numEnd n l a (nd : Int) b 1 hl (by omega) (by omega)
      have this : Dimpl_getter_number n (l, (a : Int), (nd : Int), 0, b) 1 = _ := this
      simp only [this, Option.bind_some, show ((21 : Int) != 0) = true from rfl, frk_t]; rfl
  intro k
  induction k with
  | zero =>
    intro d hd a nd c b hG hc0
    by_cases hc : c = 0
    · subst hc
      by_cases ha : a = l.length
      · exact ⟨lfS false, lfS false, a, nd, 21, (a : Int), hG, fun h => (by cases h), fun h => absurd rfl h, .leaf, fun _ => rfl, endd d a nd b ha⟩
      · have ha1 : a + 1 ≤ l.length := by have := hG.ha; omega
        have hw : w64 ((nd : Int) + 1) = ((nd + 1 : Nat) : Int) := w64_suc (by unfold big; have := hG.hn; omega)
        have d1 : ((d : Int) == 24) = true := by simp; omega
        have d2 : decide ((d : Int) ≥ 24) = true := decide_eq_true (by omega)
        by_cases h2 : byt l a < 2
        · refine ⟨lfS (((byt l a : Nat) : Int) == 1), _, a + 1, nd, 0, b, ⟨ha1, hG.hn⟩, hc0, fun h => absurd rfl h, .leaf, fun _ => rfl, E2.suc ((fin d a nd b ha1).mono fun n m ⟨h1, h3⟩ => ?_)⟩
          rw [loop_suc, loop_suc, h1, h3, decide_eq_true (by omega), frk_t]
          exact ⟨rfl, rfl⟩
        · refine ⟨lfS false, lfS false, a + 1, nd + 1, 22, (a : Int), ⟨ha1, by have := hc0 rfl; omega⟩, fun h => (by cases h), fun h => absurd rfl h, .leaf, fun _ => rfl, E2.suc ((fin d a nd b ha1).mono fun n m ⟨h1, h3⟩ => ?_)⟩
          rw [loop_suc, loop_suc, h1, h3, decide_eq_false (by omega), frk_f, d1, d2, frk_t, frk_t, hw]
          unfold Dspec_l18Get_2 Dimpl_getter_tree_0
          simp only [sFails, iFails, if_true, Option.bind_some]
          cases decide (((byt l a : Nat) : Int) > 2) <;> exact ⟨rfl, rfl⟩
    · exact ⟨lfS false, lfS false, a, nd, c, b, hG, fun h => absurd h hc, fun _ => ⟨rfl, rfl, rfl, rfl⟩, .leaf, fun _ => rfl, bad d a nd c b hc⟩
  | succ k ih =>
    intro d hd a nd c b hG hc0
    by_cases hc : c = 0
    · subst hc
      by_cases ha : a = l.length
      · exact ⟨lfS false, lfS false, a, nd, 21, (a : Int), hG, fun h => (by cases h), fun h => absurd rfl h, .leaf, fun _ => rfl, endd d a nd b ha⟩
      · have ha1 : a + 1 ≤ l.length := by have := hG.ha; omega
        have hn300 := hc0 rfl
        have hw : w64 ((nd : Int) + 1) = ((nd + 1 : Nat) : Int) := w64_suc (by unfold big; have := hG.hn; omega)
        have d1 : ((d : Int) == 24) = false := by simp; omega
        have d2 : decide ((d : Int) ≥ 24) = false := decide_eq_false (by omega)
        by_cases h2 : byt l a < 2
        · refine ⟨lfS (((byt l a : Nat) : Int) == 1), _, a + 1, nd, 0, b, ⟨ha1, hG.hn⟩, hc0, fun h => absurd rfl h, .leaf, fun _ => rfl, E2.suc ((fin d a nd b ha1).mono fun n m ⟨h1, h3⟩ => ?_)⟩
          rw [loop_suc, loop_suc, h1, h3, decide_eq_true (by omega), frk_t]
          exact ⟨rfl, rfl⟩
        · have dl2 : decide (((byt l a : Nat) : Int) < 2) = false := decide_eq_false (by omega)
          by_cases hf : byt l a > 2 ∨ nd + 1 > 300
          · refine ⟨lfS false, lfS false, a + 1, nd + 1, 22, (a : Int), ⟨ha1, by omega⟩, fun h => (by cases h), fun h => absurd rfl h, .leaf, fun _ => rfl, E2.suc ((fin d a nd b ha1).mono fun n m ⟨h1, h3⟩ => ?_)⟩
            rw [loop_suc, loop_suc, h1, h3, dl2, frk_f, d1, d2, frk_f, frk_f, hw]
            unfold Dspec_l18Get_2 Dspec_l18Get_3 Dimpl_getter_tree_0 Dimpl_getter_tree_1
            by_cases h3 : byt l a > 2
            · rw [decide_eq_true (show ((byt l a : Nat) : Int) > 2 by omega)]
              simp only [frk_t, frk_f, sFails, iFails, if_true, Option.bind_some]; exact ⟨rfl, rfl⟩
            · rw [decide_eq_true (show ((nd + 1 : Nat) : Int) > 300 by omega), decide_eq_false (show ¬ ((byt l a : Nat) : Int) > 2 by omega)]
              simp only [frk_t, frk_f, sFails, iFails, if_true, Option.bind_some]; exact ⟨rfl, rfl⟩
          · have dg : decide (((byt l a : Nat) : Int) > 2) = false := decide_eq_false (by omega)
            have dn : decide (((nd + 1 : Nat) : Int) > 300) = false := decide_eq_false (by omega)
            have hd1 : w64 ((d : Int) + 1) = ((d + 1 : Nat) : Int) := w64_suc (by unfold big; omega)
            have ap : ∀ k : Nat, k ≤ 10 → apB 8 k = true := fun k hk => by simp only [apB, Bool.and_eq_true, decide_eq_true_eq]; omega
            have ws : ∀ j : Nat, j ≤ 20000 → w64 ((j : Int) + 2) = ((j + 2 : Nat) : Int) := fun j hj => by rw [w64_id (by omega) (by omega)]; omega
            have w1 : ∀ j : Nat, j ≤ 20010 → w64 ((j : Int) + 1) = ((j + 1 : Nat) : Int) := fun j hj => w64_suc (by unfold big; omega)
            have wl : ∀ j : Nat, j ≤ 20000 → w64 ((l.length : Int) - (j : Int)) = (l.length : Int) - j := fun j hj => w64_id (by omega) (by omega)
            have vb : ∀ j : Nat, w64 ((w64 ((byt l j : Nat) : Int)) + (w64 (256 * (w64 ((byt l (j + 1) : Nat) : Int))))) = ((byt l j + byt l (j + 1) * 256 : Nat) : Int) := fun j => by
              have := byt_lt hB j; have := byt_lt hB (j + 1)
              rw [w64_id (x := ((byt l j : Nat) : Int)) (by omega) (by omega), w64_id (x := ((byt l (j + 1) : Nat) : Int)) (by omega) (by omega), w64_id (x := 256 * ((byt l (j + 1) : Nat) : Int)) (by omega) (by omega), w64_id (by omega) (by omega)]
              omega
            -- what both come to where a number is cut off: no more is read
            have cut : ∀ (e : Nat), e ≤ l.length → (E2 fun n m => Dspec_l18Get_3 n (loopN (Dspec_l18Get_b n) m) d a (decide (((nd + 1 : Nat) : Int) > 300)) false 0 0 0 0 l ((a + 1 : Nat) : Int) ((nd + 1 : Nat) : Int) 0 b = some (lfS false, (l, (e : Int), ((nd + 1 : Nat) : Int), 21, (e : Int)))) →
                (∃ p1 p2 p3 p4 : Int, E2 fun n m => (Dimpl_getter_number n (l, ((a + 1 : Nat) : Int), ((nd + 1 : Nat) : Int), 0, b) 2).bind (fun v4 => (Dimpl_getter_number n v4.2 2).bind fun v5 => (Dimpl_getter_number n v5.2 2).bind fun v6 => (Dimpl_getter_number n v6.2 2).bind fun v7 => some (v4.1, v5.1, v6.1, v7.1, v7.2)) = some (p1, p2, p3, p4, (l, (e : Int), ((nd + 1 : Nat) : Int), 21, (e : Int)))) →
                ∃ x y, ∃ (a' nd' : Nat) (c' b' : Int), Gst l a' nd' ∧ (c' = 0 → nd' ≤ 300) ∧ ((0 : Int) ≠ 0 → a' = a ∧ nd' = nd ∧ c' = 0 ∧ b' = b) ∧ Tw x ∧ (c' = 0 → x = y) ∧
                  E2 fun n m => loopN (Dspec_l18Get_b n) m ((l, (a : Int), (nd : Int), 0, b), (d : Int)) = some (x, (l, (a' : Int), (nd' : Int), c', b')) ∧ loopN (Dimpl_getter_tree_b n) m ((l, (a : Int), (nd : Int), 0, b), (d : Int)) = some (y, (l, (a' : Int), (nd' : Int), c', b')) := fun e he hS ⟨p1, p2, p3, p4, hI⟩ => by
              obtain bd := bad (d + 1) e (nd + 1) 21 (e : Int) (by decide)
              refine ⟨lfS false, .mk false ⟨w64 (p1 - 500), w64 (p2 - 500), w64 (p3 - 500), w64 (p4 - 500)⟩ [lfS false, lfS false], e, nd + 1, 21, (e : Int), ⟨he, by omega⟩, fun h => (by cases h), fun h => absurd rfl h, .leaf, fun h => (by cases h), E2.suc (((fin d a nd b ha1).and (hS.and (hI.and bd))).mono fun n m ⟨⟨h1, h3⟩, k1, k2, k3, k4⟩ => ?_)⟩
              rw [loop_suc, loop_suc, h1, h3, dl2, frk_f, dg, frk_f, d1, d2, frk_f, frk_f, frk_f, hw, k1]
              refine ⟨rfl, ?_⟩
              unfold Dimpl_getter_tree_1
              rw [dn, frk_f]
              obtain ⟨v4, e4, k2⟩ := Option.bind_eq_some_iff.1 k2
              obtain ⟨v5, e5, k2⟩ := Option.bind_eq_some_iff.1 k2
              obtain ⟨v6, e6, k2⟩ := Option.bind_eq_some_iff.1 k2
              obtain ⟨v7, e7, k2⟩ := Option.bind_eq_some_iff.1 k2
              simp only [Option.some.injEq, Prod.mk.injEq] at k2
              obtain ⟨q1, q2, q3, q4, q5⟩ := k2
              have k4' : loopN (Dimpl_getter_tree_b n) m ((l, (e : Int), ((nd + 1 : Nat) : Int), 21, (e : Int)), ((d + 1 : Nat) : Int)) = _ := k4
              simp only [e4, e5, e6, e7, Option.bind_some, q1, q2, q3, q4, q5, hd1, k4']
              rfl
            have nE : ∀ (n : Nat) (e : Nat), e ≤ l.length → l.length < e + 2 → Dimpl_getter_number n (l, (e : Int), ((nd + 1 : Nat) : Int), 0, b) 2 = some (0, (l, (e : Int), ((nd + 1 : Nat) : Int), 21, (e : Int))) := fun n e h1 h2 => numEnd n l e _ b 2 hl h1 h2
            have nI : ∀ (n : Nat) (e : Nat), 40 ≤ n → e + 2 ≤ l.length → Dimpl_getter_number n (l, (e : Int), ((nd + 1 : Nat) : Int), 0, b) 2 = some (((byt l e + byt l (e + 1) * 256 : Nat) : Int), (l, ((e + 2 : Nat) : Int), ((nd + 1 : Nat) : Int), 0, b)) := fun n e hn h1 => num2 n (by omega) l hB e _ b hl h1
            have nB : ∀ (n : Nat) (e : Nat), Dimpl_getter_number n (l, (e : Int), ((nd + 1 : Nat) : Int), 21, (e : Int)) 2 = some (0, (l, (e : Int), ((nd + 1 : Nat) : Int), 21, (e : Int))) := fun n e => numBad n l _ _ 21 _ 2 (by decide)
            have lt2 : ∀ e : Nat, e ≤ l.length → l.length < e + 2 → decide (((l.length : Int) - (e : Int)) < 2) = true := fun e _ _ => decide_eq_true (by omega)
            have ge2 : ∀ e : Nat, e + 2 ≤ l.length → decide (((l.length : Int) - (e : Int)) < 2) = false := fun e _ => decide_eq_false (by omega)
            by_cases g1 : l.length < a + 1 + 2
            · refine cut (a + 1) (by omega) ((e2_ge 40).mono fun n m ⟨hn, hm⟩ => ?_) ⟨0, 0, 0, 0, (e2_ge 40).mono fun n m ⟨hn, hm⟩ => ?_⟩
              · unfold Dspec_l18Get_3
                simp only [dn, frk_f, wl (a + 1) (by omega), lt2 (a + 1) (by omega) g1, frk_t, sFails, if_true, Option.bind_some]; rfl
              · simp only [nE n (a + 1) (by omega) g1, nB, Option.bind_some]
            by_cases g2 : l.length < a + 1 + 2 + 2
            · refine cut (a + 1 + 2) (by omega) ((e2_ge 40).mono fun n m ⟨hn, hm⟩ => ?_) ⟨((byt l (a + 1) + byt l (a + 1 + 1) * 256 : Nat) : Int), 0, 0, 0, (e2_ge 40).mono fun n m ⟨hn, hm⟩ => ?_⟩
              · unfold Dspec_l18Get_3
                simp only [dn, frk_f, wl (a + 1) (by omega), ge2 (a + 1) (by omega), byt_get hB (show a + 1 < l.length by omega), byt_get hB (show a + 1 + 1 < l.length by omega), w1 (a + 1) (by omega), ws (a + 1) (by omega), Option.bind_some, chk_eq (ap (0 + 1) (by omega)), wl (a + 1 + 2) (by omega), lt2 (a + 1 + 2) (by omega) g2, frk_t, sFails, if_true]; rfl
              · simp only [nI n (a + 1) hn (by omega), nE n (a + 1 + 2) (by omega) g2, nB, Option.bind_some]
            by_cases g3 : l.length < a + 1 + 2 + 2 + 2
            · refine cut (a + 1 + 2 + 2) (by omega) ((e2_ge 40).mono fun n m ⟨hn, hm⟩ => ?_) ⟨((byt l (a + 1) + byt l (a + 1 + 1) * 256 : Nat) : Int), ((byt l (a + 1 + 2) + byt l (a + 1 + 2 + 1) * 256 : Nat) : Int), 0, 0, (e2_ge 40).mono fun n m ⟨hn, hm⟩ => ?_⟩
              · unfold Dspec_l18Get_3
                simp only [dn, frk_f, wl (a + 1) (by omega), ge2 (a + 1) (by omega), byt_get hB (show a + 1 < l.length by omega), byt_get hB (show a + 1 + 1 < l.length by omega), w1 (a + 1) (by omega), ws (a + 1) (by omega), Option.bind_some, chk_eq (ap (0 + 1) (by omega)), wl (a + 1 + 2) (by omega), ge2 (a + 1 + 2) (by omega), byt_get hB (show a + 1 + 2 < l.length by omega), byt_get hB (show a + 1 + 2 + 1 < l.length by omega), w1 (a + 1 + 2) (by omega), ws (a + 1 + 2) (by omega), chk_eq (ap (1 + 1) (by omega)), wl (a + 1 + 2 + 2) (by omega), lt2 (a + 1 + 2 + 2) (by omega) g3, frk_t, sFails, if_true]; rfl
              · simp only [nI n (a + 1) hn (by omega), nI n (a + 1 + 2) hn (by omega), nE n (a + 1 + 2 + 2) (by omega) g3, nB, Option.bind_some]
            by_cases g4 : l.length < a + 1 + 2 + 2 + 2 + 2
            · refine cut (a + 1 + 2 + 2 + 2) (by omega) ((e2_ge 40).mono fun n m ⟨hn, hm⟩ => ?_) ⟨((byt l (a + 1) + byt l (a + 1 + 1) * 256 : Nat) : Int), ((byt l (a + 1 + 2) + byt l (a + 1 + 2 + 1) * 256 : Nat) : Int), ((byt l (a + 1 + 2 + 2) + byt l (a + 1 + 2 + 2 + 1) * 256 : Nat) : Int), 0, (e2_ge 40).mono fun n m ⟨hn, hm⟩ => ?_⟩
              · unfold Dspec_l18Get_3
                simp only [dn, frk_f, wl (a + 1) (by omega), ge2 (a + 1) (by omega), byt_get hB (show a + 1 < l.length by omega), byt_get hB (show a + 1 + 1 < l.length by omega), w1 (a + 1) (by omega), ws (a + 1) (by omega), Option.bind_some, chk_eq (ap (0 + 1) (by omega)), wl (a + 1 + 2) (by omega), ge2 (a + 1 + 2) (by omega), byt_get hB (show a + 1 + 2 < l.length by omega), byt_get hB (show a + 1 + 2 + 1 < l.length by omega), w1 (a + 1 + 2) (by omega), ws (a + 1 + 2) (by omega), chk_eq (ap (1 + 1) (by omega)), wl (a + 1 + 2 + 2) (by omega), ge2 (a + 1 + 2 + 2) (by omega), byt_get hB (show a + 1 + 2 + 2 < l.length by omega), byt_get hB (show a + 1 + 2 + 2 + 1 < l.length by omega), w1 (a + 1 + 2 + 2) (by omega), ws (a + 1 + 2 + 2) (by omega), chk_eq (ap (2 + 1) (by omega)), wl (a + 1 + 2 + 2 + 2) (by omega), lt2 (a + 1 + 2 + 2 + 2) (by omega) g4, frk_t, sFails, if_true]; rfl
              · simp only [nI n (a + 1) hn (by omega), nI n (a + 1 + 2) hn (by omega), nI n (a + 1 + 2 + 2) hn (by omega), nE n (a + 1 + 2 + 2 + 2) (by omega) g4, nB, Option.bind_some]
            obtain ⟨x1, y1, a2, nd2, c2, b2, G2, N2, Z2, T2, e2, E2a⟩ := ih (d + 1) (by omega) (a + 1 + 2 + 2 + 2 + 2) (nd + 1) 0 b ⟨by omega, by omega⟩ (fun _ => by omega)
            obtain ⟨x3, y3, a4, nd4, c4, b4, G4, N4, Z4, T4, e4, E4a⟩ := ih (d + 1) (by omega) a2 nd2 c2 b2 G2 N2
            refine ⟨.mk false ⟨w64 (((byt l (a + 1) + byt l (a + 1 + 1) * 256 : Nat) : Int) - 500), w64 (((byt l (a + 1 + 2) + byt l (a + 1 + 2 + 1) * 256 : Nat) : Int) - 500), w64 (((byt l (a + 1 + 2 + 2) + byt l (a + 1 + 2 + 2 + 1) * 256 : Nat) : Int) - 500), w64 (((byt l (a + 1 + 2 + 2 + 2) + byt l (a + 1 + 2 + 2 + 2 + 1) * 256 : Nat) : Int) - 500)⟩ [x1, x3],
              .mk false ⟨w64 (((byt l (a + 1) + byt l (a + 1 + 1) * 256 : Nat) : Int) - 500), w64 (((byt l (a + 1 + 2) + byt l (a + 1 + 2 + 1) * 256 : Nat) : Int) - 500), w64 (((byt l (a + 1 + 2 + 2) + byt l (a + 1 + 2 + 2 + 1) * 256 : Nat) : Int) - 500), w64 (((byt l (a + 1 + 2 + 2 + 2) + byt l (a + 1 + 2 + 2 + 2 + 1) * 256 : Nat) : Int) - 500)⟩ [y1, y3], a4, nd4, c4, b4, G4, N4, fun h => absurd rfl h, .node T2 T4, fun h => ?_, E2.suc (((fin d a nd b ha1).and ((E2a.and E4a).and (e2_ge 40))).mono fun n m ⟨⟨h1, h3⟩, ⟨⟨k1, k2⟩, k3, k4⟩, hn, hm⟩ => ?_)⟩
            · have hc2 : c2 = 0 := by
                by_cases hq : c2 = 0
                · exact hq
                · have := (Z4 hq).2.2.1; rw [h] at this; exact absurd this.symm hq
              rw [e2 hc2, e4 h]
            · rw [loop_suc, loop_suc, h1, h3, dl2, frk_f, dg, frk_f, d1, d2, frk_f, frk_f, frk_f, hw]
              constructor
              · unfold Dspec_l18Get_3
                simp only [dn, frk_f, wl (a + 1) (by omega), ge2 (a + 1) (by omega), byt_get hB (show a + 1 < l.length by omega), byt_get hB (show a + 1 + 1 < l.length by omega), w1 (a + 1) (by omega), ws (a + 1) (by omega), Option.bind_some, chk_eq (ap (0 + 1) (by omega)), wl (a + 1 + 2) (by omega), ge2 (a + 1 + 2) (by omega), byt_get hB (show a + 1 + 2 < l.length by omega), byt_get hB (show a + 1 + 2 + 1 < l.length by omega), w1 (a + 1 + 2) (by omega), ws (a + 1 + 2) (by omega), chk_eq (ap (1 + 1) (by omega)), wl (a + 1 + 2 + 2) (by omega), ge2 (a + 1 + 2 + 2) (by omega), byt_get hB (show a + 1 + 2 + 2 < l.length by omega), byt_get hB (show a + 1 + 2 + 2 + 1 < l.length by omega), w1 (a + 1 + 2 + 2) (by omega), ws (a + 1 + 2 + 2) (by omega), chk_eq (ap (2 + 1) (by omega)), wl (a + 1 + 2 + 2 + 2) (by omega), ge2 (a + 1 + 2 + 2 + 2) (by omega), byt_get hB (show a + 1 + 2 + 2 + 2 < l.length by omega), byt_get hB (show a + 1 + 2 + 2 + 2 + 1 < l.length by omega), w1 (a + 1 + 2 + 2 + 2) (by omega), ws (a + 1 + 2 + 2 + 2) (by omega), chk_eq (ap (3 + 1) (by omega)), hd1, k1, k3, vb]
                rfl
              · unfold Dimpl_getter_tree_1
                simp only [dn, frk_f, nI n (a + 1) hn (by omega), nI n (a + 1 + 2) hn (by omega), nI n (a + 1 + 2 + 2) hn (by omega), nI n (a + 1 + 2 + 2 + 2) hn (by omega), Option.bind_some, hd1, k2, k4]
                rfl
    · exact ⟨lfS false, lfS false, a, nd, c, b, hG, fun h => absurd h hc, fun _ => ⟨rfl, rfl, rfl, rfl⟩, .leaf, fun _ => rfl, bad d a nd c b hc⟩
theorem xy_eq {x y : Nat} (hx : x < 65536) (hy : y < 65536) : bOr .i64 (x : Int) (w64 ((y : Int) * 65536)) = ((x + y * 65536 : Nat) : Int) := by
  have e : w64 ((y : Int) * 65536) = ((y * 2 ^ 16 : Nat) : Int) := by
    rw [w64_id (by omega) (by omega)]; omega
  rw [e, bOr_add 16 (by omega) (by omega)]
theorem sumB (l : List Int) (h : Bys l) : ∃ x y : Nat, x < 65536 ∧ y < 65536 ∧ l.foldl smS (1, 0) = ((x : Int), (y : Int)) := by
  have : ∀ (l : List Int), Bys l → ∀ a : Int × Int, (0 ≤ a.1 ∧ a.1 ≤ 65520) ∧ (0 ≤ a.2 ∧ a.2 ≤ 65520) → (0 ≤ (l.foldl smS a).1 ∧ (l.foldl smS a).1 ≤ 65520) ∧ (0 ≤ (l.foldl smS a).2 ∧ (l.foldl smS a).2 ≤ 65520) := by
    intro l
    induction l with
    | nil => intro _ a ha; exact ha
    | cons v l ih =>
      intro h a ⟨⟨h1, h2⟩, h3, h4⟩
      have hv := h v (by simp)
      refine ih (fun u hu => h u (by simp [hu])) (smS a v) ?_
      have e1 : w64 v = v := w64_id (by omega) (by omega)
      have e2 : w64 (a.1 + v) = a.1 + v := w64_id (by omega) (by omega)
      have e3 : Int.tmod (a.1 + v) 65521 = (a.1 + v) % 65521 := Int.tmod_eq_emod_of_nonneg (by omega)
      have e4 : w64 (a.2 + (a.1 + v) % 65521) = a.2 + (a.1 + v) % 65521 := w64_id (by omega) (by omega)
      have e5 : Int.tmod (a.2 + (a.1 + v) % 65521) 65521 = (a.2 + (a.1 + v) % 65521) % 65521 := Int.tmod_eq_emod_of_nonneg (by omega)
      unfold smS
      simp only [e1, e2, e3, e4, e5]
      omega
  obtain ⟨⟨h1, h2⟩, h3, h4⟩ := this l h (1, 0) ⟨⟨by omega, by omega⟩, by omega, by omega⟩
  exact ⟨(l.foldl smS (1, 0)).1.toNat, (l.foldl smS (1, 0)).2.toNat, by omega, by omega, Prod.ext (by simp; omega) (by simp; omega)⟩
theorem str2 {l : List Int} (hB : Bys l) (h2 : 2 ≤ l.length) : ((strOfNums (l.take 2)).toList == (ByteArray.mk #[80, 87]).toList) = ((l[0]?).getD 0 == 80 && (l[1]?).getD 0 == 87) := by
  match l, h2 with
  | a :: b :: r, _ =>
    have ha := hB a (by simp)
    have hb := hB b (by simp)
    have e1 : ∀ x y : UInt8, (ByteArray.mk #[x, y]).toList = [x, y] := fun x y => by rw [ByteArray.toList_eq]
    show ((ByteArray.mk #[UInt8.ofNat a.toNat, UInt8.ofNat b.toNat]).toList == _) = _
    rw [e1, e1]
    have k : ∀ (x : Int) (c : Nat), 0 ≤ x → x ≤ 255 → c ≤ 255 → (UInt8.ofNat x.toNat == UInt8.ofNat c) = (x == (c : Int)) := fun x c h0 h1 hc => by
      rw [Bool.eq_iff_iff]
      simp only [beq_iff_eq]
      constructor
      · intro h
        have := congrArg UInt8.toNat h
        simp only [UInt8.toNat_ofNat'] at this
        omega
      · intro h; subst h; simp
    have ka := k a 80 ha.1 ha.2 (by omega)
    have kb := k b 87 hb.1 hb.2 (by omega)
    show ((UInt8.ofNat a.toNat == UInt8.ofNat 80) && ((UInt8.ofNat b.toNat == UInt8.ofNat 87) && true)) = _
    rw [ka, kb, Bool.and_true]; rfl
open Classical in
theorem getEq (l : List Int) (hB : Bys l) (hlen : l.length ≤ 1048576) : ∃ x c p, Tw x ∧ nod x ≤ 300 ∧ Ev fun n => Dspec_GetSolid n l = some (x, c, p) ∧ Dimpl_GetSolid n l = some (x, c, p) := by
  have lf3 : nod (lfS false) ≤ 300 := by rw [show nod (lfS false) = 0 from nod_leaf _ _]; omega
  by_cases h20 : l.length ≤ 20000
  · have d20 : decide ((l.length : Int) > 20000) = false := decide_eq_false (by omega)
    by_cases h2 : l.length < 2
    · refine ⟨lfS false, 20, 0, .leaf, lf3, Ev.of fun n => ?_⟩
      unfold Dspec_GetSolid Dimpl_GetSolid
      rw [d20, frk_f, frk_f, decide_eq_true (by omega), frk_t, frk_t]; exact ⟨rfl, rfl⟩
    · have d2 : decide ((l.length : Int) < 2) = false := decide_eq_false (by omega)
      have hI : ∀ n, Dimpl_GetSolid n l = Dimpl_GetSolid_0 n l (!((l[0]?).getD 0 == 80 && (l[1]?).getD 0 == 87)) false 0 0 0 0 := fun n => by
        unfold Dimpl_GetSolid
        have : lsl l 0 2 = some (l.take 2) := lsl_take l 2 (by omega)
        rw [d20, frk_f, d2, frk_f, this, Option.bind_some, Option.bind_some, str2 hB (by omega)]
      have hS : ∀ n, Dspec_GetSolid n l = frk ((l[0]?).getD 0 != 80) (some (lfS false, 20, 0)) (Dspec_GetSolid_0 n l ((l[1]?).getD 0 != 87) false 0 0 0 0) := fun n => by
        unfold Dspec_GetSolid
        rw [d20, frk_f, d2, frk_f, lget_zero, lget_one, List.getElem?_eq_getElem (show 0 < l.length by omega), List.getElem?_eq_getElem (show 1 < l.length by omega)]
        rfl
      have bad : ((l[0]?).getD 0 == 80 && (l[1]?).getD 0 == 87) = false → ∃ x c p, Tw x ∧ nod x ≤ 300 ∧ Ev fun n => Dspec_GetSolid n l = some (x, c, p) ∧ Dimpl_GetSolid n l = some (x, c, p) := fun hb => by
        refine ⟨lfS false, 20, 0, .leaf, lf3, Ev.of fun n => ?_⟩
        rw [hI, hS, hb]
        refine ⟨?_, rfl⟩
        simp only [Bool.and_eq_false_iff] at hb
        rcases hb with h | h
        · have : ((l[0]?).getD 0 != 80) = true := by simpa using h
          rw [this]; rfl
        · have : ((l[1]?).getD 0 != 87) = true := by simpa using h
          rw [this]
          cases ((l[0]?).getD 0 != 80) <;> rfl
      cases hm : ((l[0]?).getD 0 == 80 && (l[1]?).getD 0 == 87) with
      | false => exact bad hm
      | true =>
        have hm' : ((l[0]?).getD 0 != 80) = false ∧ ((l[1]?).getD 0 != 87) = false := by
          simp only [Bool.and_eq_true, beq_iff_eq] at hm
          rw [hm.1, hm.2]; exact ⟨rfl, rfl⟩
        obtain ⟨x, y, a, nd, c, b, G, N0, -, T, e, hE⟩ := getOk l h20 hB 24 0 rfl 2 0 0 0 ⟨by omega, by omega⟩ (fun _ => by omega)
        have hE := hE.ev
        have hwl : w64 ((l.length : Int) - (a : Int)) = (l.length : Int) - a := w64_id (by have := G.ha; omega) (by omega)
        have ha := G.ha
        have tk : Bys (l.take a) := fun v hv => hB v (List.mem_of_mem_take hv)
        obtain ⟨sx, sy, hsx, hsy, hf⟩ := sumB (l.take a) tk
        have hlt : (l.take a).length ≤ 100000 := by rw [List.length_take]; omega
        have eS := (sSum (l.take a) hlt).and (iSum (l.take a) hlt)
        rw [hf] at eS
        have pre : ∀ n, loopN (Dspec_l18Get_b n) n ((l, 2, 0, 0, 0), 0) = some (x, (l, (a : Int), (nd : Int), c, b)) → loopN (Dimpl_getter_tree_b n) n ((l, 2, 0, 0, 0), 0) = some (y, (l, (a : Int), (nd : Int), c, b)) →
            Dspec_GetSolid n l = frk (c == 0) (Dspec_GetSolid_1 n l ((l.length : Int) - a) (decide (((l.length : Int) - a) < 4)) false 0 0 0 0 x.inn x.pl.A x.pl.B x.pl.C x.pl.D x.kids l (a : Int) (nd : Int) c b) (Dspec_GetSolid_2 n l ((l.length : Int) - a) false 0 0 0 0 x.inn x.pl.A x.pl.B x.pl.C x.pl.D x.kids l (a : Int) (nd : Int) c b) ∧
            Dimpl_GetSolid n l = (Dimpl_getter_number n (l, (a : Int), (nd : Int), c, b) 4).bind fun v3 => frk (v3.2.2.2.2.1 == 0) (Dimpl_GetSolid_1 n l (a : Int) v3.1 (decide (v3.2.2.1 < (l.length : Int))) false 0 0 0 0 v3.2.1 v3.2.2.1 v3.2.2.2.1 v3.2.2.2.2.1 v3.2.2.2.2.2 y.inn y.pl.A y.pl.B y.pl.C y.pl.D y.kids) (Dimpl_GetSolid_2 n l (a : Int) v3.1 false 0 0 0 0 v3.2.1 v3.2.2.1 v3.2.2.2.1 v3.2.2.2.2.1 v3.2.2.2.2.2 y.inn y.pl.A y.pl.B y.pl.C y.pl.D y.kids) := fun n h1 h2 => by
          rw [hS, hI, hm'.1, hm'.2, hm]
          unfold Dspec_GetSolid_0 Dspec_l18Get Dimpl_GetSolid_0 Dimpl_getter_tree
          simp only [Bool.not_true, frk_f, h1, h2, Option.bind_some, hwl]
          exact ⟨trivial, trivial⟩
        have lsa : lsl l 0 (a : Int) = some (l.take a) := lsl_take l a ha
        by_cases hc : c = 0
        · subst hc
          obtain rfl := e rfl
          by_cases h4 : l.length < a + 4
          · -- the sum is cut off
            refine ⟨lfS false, 21, (a : Int), .leaf, lf3, (hE.and eS).mono fun n ⟨⟨h1, h3⟩, s1, s2⟩ => ?_⟩
            obtain ⟨p1, p2⟩ := pre n h1 h3
            rw [p1, p2, show (4 : Int) = ((4 : Nat) : Int) from rfl, numEnd n l a _ b 4 h20 ha h4]
            constructor
            · unfold Dspec_GetSolid_1
              rw [show ((0 : Int) == 0) = true from rfl, frk_t, decide_eq_true (by omega), frk_t, sFails, if_pos rfl]
              rfl
            · rw [Option.bind_some]
              unfold Dimpl_GetSolid_2
              simp only [show ((21 : Int) == 0) = false from rfl, frk_f, lsa, s2, Option.bind_some]
              rfl
          · have e4 := fun (n : Nat) (hn : 8 ≤ n) => num4 n hn l hB a (nd : Int) b h20 (by omega)
            by_cases h5 : l.length > a + 4
            · refine ⟨lfS false, 22, ((a + 4 : Nat) : Int), .leaf, lf3, (hE.and (eS.and (e_ge 40))).mono fun n ⟨⟨h1, h3⟩, ⟨s1, s2⟩, hn⟩ => ?_⟩
              obtain ⟨p1, p2⟩ := pre n h1 h3
              have w4 : w64 ((a : Int) + 4) = ((a + 4 : Nat) : Int) := by rw [w64_id (by omega) (by omega)]; omega
              rw [p1, p2, e4 n (by omega)]
              constructor
              · unfold Dspec_GetSolid_1 Dspec_GetSolid_2 Dspec_GetSolid_3
                rw [show ((0 : Int) == 0) = true from rfl, frk_t, decide_eq_false (by omega), frk_f, frk_t, decide_eq_true (by omega), frk_t, sFails, if_pos rfl, w4]
                rfl
              · rw [Option.bind_some]
                unfold Dimpl_GetSolid_1
                simp only [show ((0 : Int) == 0) = true from rfl, frk_t, decide_eq_true (show ((a + 4 : Nat) : Int) < (l.length : Int) by omega), iFails, if_true, Option.bind_some]
                unfold Dimpl_GetSolid_2
                simp only [lsa, s2, Option.bind_some, show ((22 : Int) == 0) = false from rfl, frk_f]
                rfl
            · -- just the sum is left
              have hl4 : l.length = a + 4 := by omega
              have v0 := byt_get hB (show a < l.length by omega)
              have v1 := byt_get hB (show a + 1 < l.length by omega)
              have v2 := byt_get hB (show a + 2 < l.length by omega)
              have v3 := byt_get hB (show a + 3 < l.length by omega)
              have b0 := byt_lt hB a
              have b1 := byt_lt hB (a + 1)
              have b2 := byt_lt hB (a + 2)
              have b3 := byt_lt hB (a + 3)
              have wb : ∀ j k : Nat, j ≤ 255 → k ≤ 255 → w64 ((w64 ((j : Nat) : Int)) + (w64 (256 * (w64 ((k : Nat) : Int))))) = ((j + k * 256 : Nat) : Int) := fun j k hj hk => by
                rw [w64_id (x := ((j : Nat) : Int)) (by omega) (by omega), w64_id (x := ((k : Nat) : Int)) (by omega) (by omega), w64_id (x := 256 * ((k : Nat) : Int)) (by omega) (by omega), w64_id (by omega) (by omega)]
                omega
              have wa : ∀ k : Nat, k ≤ 3 → w64 ((a : Int) + (k : Int)) = ((a + k : Nat) : Int) := fun k hk => by rw [w64_id (by omega) (by omega)]; omega
              have e1 := (sSolidOk x T.lens).and (iSolidOk x)
              have hIm : ∀ n : Nat, 40 ≤ n → Dimpl_sums n (l.take a) = some ((sx : Int), (sy : Int)) → Dimpl_GetSolid n l = Dimpl_GetSolid_3 n (a : Int) (((byt l a + byt l (a + 1) * 256 + (byt l (a + 2) + byt l (a + 3) * 256) * 65536 : Nat) : Int) != ((sx + sy * 65536 : Nat) : Int)) false 0 0 0 0 l ((a + 4 : Nat) : Int) (nd : Int) 0 b x.inn x.pl.A x.pl.B x.pl.C x.pl.D x.kids ∨ loopN (Dspec_l18Get_b n) n ((l, 2, 0, 0, 0), 0) ≠ some (x, (l, (a : Int), (nd : Int), 0, b)) ∨ loopN (Dimpl_getter_tree_b n) n ((l, 2, 0, 0, 0), 0) ≠ some (x, (l, (a : Int), (nd : Int), 0, b)) := fun n hn s2 => by
                by_cases q1 : loopN (Dspec_l18Get_b n) n ((l, 2, 0, 0, 0), 0) = some (x, (l, (a : Int), (nd : Int), 0, b))
                · by_cases q2 : loopN (Dimpl_getter_tree_b n) n ((l, 2, 0, 0, 0), 0) = some (x, (l, (a : Int), (nd : Int), 0, b))
                  · left
                    rw [(pre n q1 q2).2, e4 n (by omega), Option.bind_some]
                    unfold Dimpl_GetSolid_1
                    simp only [show ((0 : Int) == 0) = true from rfl, frk_t, decide_eq_false (show ¬((a + 4 : Nat) : Int) < (l.length : Int) by omega), frk_f]
                    unfold Dimpl_GetSolid_2
                    simp only [lsa, s2, Option.bind_some, show ((0 : Int) == 0) = true from rfl, frk_t, xy_eq hsx hsy]
                  · exact .inr (.inr q2)
                · exact .inr (.inl q1)
              have hSm : ∀ n : Nat, Dspec_l18Sum n (l.take a) = some ((sx : Int), (sy : Int)) → loopN (Dspec_l18Get_b n) n ((l, 2, 0, 0, 0), 0) = some (x, (l, (a : Int), (nd : Int), 0, b)) → loopN (Dimpl_getter_tree_b n) n ((l, 2, 0, 0, 0), 0) = some (x, (l, (a : Int), (nd : Int), 0, b)) →
                  Dspec_GetSolid n l = frk (((byt l a + byt l (a + 1) * 256 : Nat) : Int) != (sx : Int)) (Dspec_GetSolid_5 n false 0 0 0 0 x.inn x.pl.A x.pl.B x.pl.C x.pl.D x.kids l (a : Int) (nd : Int) 0 b) (Dspec_GetSolid_9 n (((byt l (a + 2) + byt l (a + 3) * 256 : Nat) : Int) != (sy : Int)) false 0 0 0 0 x.inn x.pl.A x.pl.B x.pl.C x.pl.D x.kids l (a : Int) (nd : Int) 0 b) := fun n s1 q1 q2 => by
                have wa1 := wa 1 (by omega); have wa2 := wa 2 (by omega); have wa3 := wa 3 (by omega)
                rw [(pre n q1 q2).1]
                unfold Dspec_GetSolid_1 Dspec_GetSolid_2 Dspec_GetSolid_3 Dspec_GetSolid_4
                simp only [show ((0 : Int) == 0) = true from rfl, frk_t, decide_eq_false (show ¬((l.length : Int) - (a : Int) < 4) by omega), frk_f, decide_eq_false (show ¬((l.length : Int) - (a : Int) > 4) by omega), lsa, s1, v0, Option.bind_some]
                have wa1' : w64 ((a : Int) + 1) = ((a + 1 : Nat) : Int) := wa1
                have wa2' : w64 ((a : Int) + 2) = ((a + 2 : Nat) : Int) := wa2
                have wa3' : w64 ((a : Int) + 3) = ((a + 3 : Nat) : Int) := wa3
                simp only [wa1', wa2', wa3', v1, v2, v3, Option.bind_some, wb _ _ b0 b1, wb _ _ b2 b3]
              by_cases hsum : byt l a + byt l (a + 1) * 256 = sx ∧ byt l (a + 2) + byt l (a + 3) * 256 = sy
              · have c1 : (((byt l a + byt l (a + 1) * 256 : Nat) : Int) != (sx : Int)) = false := by rw [hsum.1]; exact bne_self_eq_false _
                have c2 : (((byt l (a + 2) + byt l (a + 3) * 256 : Nat) : Int) != (sy : Int)) = false := by rw [hsum.2]; exact bne_self_eq_false _
                have c3 : (((byt l a + byt l (a + 1) * 256 + (byt l (a + 2) + byt l (a + 3) * 256) * 65536 : Nat) : Int) != ((sx + sy * 65536 : Nat) : Int)) = false := by rw [hsum.1, hsum.2]; exact bne_self_eq_false _
                by_cases hr : Right x
                · refine ⟨x, 0, 0, T, hr.2, (hE.and (eS.and ((e_ge 40).and e1))).mono fun n ⟨⟨h1, h3⟩, ⟨s1, s2⟩, hn, r1, r2⟩ => ?_⟩
                  rcases hIm n hn s2 with hi | hi | hi
                  · rw [hi, hSm n s1 h1 h3, c1, c2, c3, frk_f]
                    unfold Dspec_GetSolid_9 Dspec_GetSolid_6 Dspec_GetSolid_7 Dspec_GetSolid_8 Dimpl_GetSolid_3 Dimpl_GetSolid_4 Dimpl_GetSolid_5 Dimpl_GetSolid_6
                    simp only [frk_f, show ((0 : Int) == 0) = true from rfl, frk_t, sol_eq', r1, r2, Option.bind_some, decide_eq_true hr, Bool.not_true, show ((0 : Int) != 0) = false from rfl]
                    exact ⟨trivial, trivial⟩
                  · exact absurd h1 hi
                  · exact absurd h3 hi
                · refine ⟨lfS false, 24, 0, .leaf, lf3, (hE.and (eS.and ((e_ge 40).and e1))).mono fun n ⟨⟨h1, h3⟩, ⟨s1, s2⟩, hn, r1, r2⟩ => ?_⟩
                  rcases hIm n hn s2 with hi | hi | hi
                  · rw [hi, hSm n s1 h1 h3, c1, c2, c3, frk_f]
                    unfold Dspec_GetSolid_9 Dspec_GetSolid_6 Dspec_GetSolid_7 Dspec_GetSolid_8 Dimpl_GetSolid_3 Dimpl_GetSolid_4 Dimpl_GetSolid_5 Dimpl_GetSolid_6
                    simp only [frk_f, show ((0 : Int) == 0) = true from rfl, frk_t, sol_eq', r1, r2, Option.bind_some, decide_eq_false hr, Bool.not_false, sFails, iFails, if_true, show ((24 : Int) != 0) = true from rfl]
                    exact ⟨rfl, rfl⟩
                  · exact absurd h1 hi
                  · exact absurd h3 hi
              · have c3 : (((byt l a + byt l (a + 1) * 256 + (byt l (a + 2) + byt l (a + 3) * 256) * 65536 : Nat) : Int) != ((sx + sy * 65536 : Nat) : Int)) = true := by
                  simp only [bne_iff_ne, ne_eq]
                  omega
                refine ⟨lfS false, 23, (a : Int), .leaf, lf3, (hE.and (eS.and ((e_ge 40).and e1))).mono fun n ⟨⟨h1, h3⟩, ⟨s1, s2⟩, hn, r1, r2⟩ => ?_⟩
                rcases hIm n hn s2 with hi | hi | hi
                · rw [hi, hSm n s1 h1 h3, c3]
                  constructor
                  · by_cases c1 : byt l a + byt l (a + 1) * 256 = sx
                    · have c2 : (((byt l (a + 2) + byt l (a + 3) * 256 : Nat) : Int) != (sy : Int)) = true := by
                        simp only [bne_iff_ne, ne_eq]
                        intro h; exact hsum ⟨c1, by omega⟩
                      rw [c1, bne_self_eq_false, frk_f, c2]
                      unfold Dspec_GetSolid_9
                      rw [frk_t, sFails, if_pos rfl]; rfl
                    · have c2 : (((byt l a + byt l (a + 1) * 256 : Nat) : Int) != (sx : Int)) = true := by
                        simp only [bne_iff_ne, ne_eq]; omega
                      rw [c2, frk_t]
                      unfold Dspec_GetSolid_5
                      rw [sFails, if_pos rfl]; rfl
                  · unfold Dimpl_GetSolid_3
                    rw [frk_t, iFails, if_pos rfl]; rfl
                · exact absurd h1 hi
                · exact absurd h3 hi
        · have e0 : (c == 0) = false := by simpa using hc
          have e0' : (c != 0) = true := by simpa using hc
          refine ⟨lfS false, c, b, .leaf, lf3, (hE.and eS).mono fun n ⟨⟨h1, h3⟩, s1, s2⟩ => ?_⟩
          obtain ⟨p1, p2⟩ := pre n h1 h3
          rw [p1, p2, numBad n l _ _ c b 4 hc]
          constructor
          · unfold Dspec_GetSolid_2 Dspec_GetSolid_4 Dspec_GetSolid_6 Dspec_GetSolid_8
            simp only [e0, frk_f, e0', frk_t]; rfl
          · rw [Option.bind_some]
            unfold Dimpl_GetSolid_2 Dimpl_GetSolid_4 Dimpl_GetSolid_6
            simp only [e0, frk_f, lsa, s2, Option.bind_some, e0', frk_t]; rfl
  · have d20 : decide ((l.length : Int) > 20000) = true := decide_eq_true (by omega)
    refine ⟨lfS false, 25, 0, .leaf, lf3, Ev.of fun n => ?_⟩
    unfold Dspec_GetSolid Dimpl_GetSolid
    rw [d20, frk_t, frk_t]; exact ⟨rfl, rfl⟩
end Evl.T

/-! Esc -/
namespace Evl.T
open Go Evl

theorem toBloop (n : Nat) (l : List Int) (hl : l.length ≤ big) :
    ∀ (r : List Int) (k m : Nat), l.drop k = r → k ≤ l.length → r.length < m → loopN (Dlaws_toByteS_0 n l) m ((k : Int), l.take k ++ List.replicate r.length 0) = some l := by
  intro r
  induction r with
  | nil =>
    intro k m hr hk hm
    obtain ⟨m, rfl⟩ : ∃ j, m = j + 1 := ⟨m - 1, by omega⟩
    have hk : k = l.length := by have := List.drop_eq_nil_iff.1 hr; omega
    rw [loop_suc]
    unfold Dlaws_toByteS_0
    subst hk
    simp only [lt_self, frk_f]; simp
  | cons x r ih =>
    intro k m hr hk hm
    simp only [List.length_cons] at hm
    obtain ⟨m, rfl⟩ : ∃ j, m = j + 1 := ⟨m - 1, by omega⟩
    obtain ⟨hkl, hx, hr', hmem⟩ := drop_get hr
    have ht : (l.take k).length = k := by rw [List.length_take]; omega
    have hz : (l.take k ++ List.replicate (x :: r).length (0 : Int))[k]? = some 0 := by
      rw [List.getElem?_append_right (by omega), ht]; simp [List.replicate_succ]
    rw [loop_suc]
    show frk _ ((lget l (k : Int)).bind _) _ = _
    rw [lt_dec hkl, frk_t, lget_nat, hx, Option.bind_some, lget_nat, hz, Option.bind_some, w64_suc (by omega)]
    have e : (l.take k ++ List.replicate (x :: r).length (0 : Int)).set (Int.toNat (k : Int)) x = l.take (k + 1) ++ List.replicate r.length 0 := by
      rw [Int.toNat_natCast, List.set_append_right _ _ (by omega), ht]
      simp only [Nat.sub_self, List.length_cons, List.replicate_succ, List.set_cons_zero]
      rw [List.take_add_one, hx]; simp
    rw [e]
    exact ih (k + 1) m hr' (by omega) (by omega)
theorem toB (l : List Int) (h : l.length ≤ 1048576) : Ev fun n => Dlaws_toByteS n l = some l := by
  refine ⟨l.length + 1, fun n hn => ?_⟩
  have := toBloop n l (by unfold big; omega) l 0 n rfl (by omega) (by omega)
  have hm : mkB (l.length : Int) 1 = true := by simp only [mkB, Bool.and_eq_true, decide_eq_true_eq]; omega
  show Dlaws_toByteS n l = some l
  unfold Dlaws_toByteS
  rw [chk_eq hm, Int.toNat_natCast]
  simpa using this
theorem plain_GetSolid (l : List Int) (gl : l.length ≤ maxLen ∧ ∀ x ∈ l, 0 ≤ x ∧ x ≤ 255) : ∃ n, Dlaws_FnExactGetSolid n l l = some true := by
  by_cases ht : (l.length : Int) ≤ 1048576
  · have hd : decide ((l.length : Int) > 1048576) = false := decide_eq_false (by omega)
    obtain ⟨x, c, p, hx, hx3, hv⟩ := getEq l gl.2 (by omega)
    have tx := hx.tot
    obtain ⟨n, hN⟩ := ((toB l (by omega)).and ((eqB l (by omega)).and ((eqs x (by omega)).and (hv.and ((markB l (by omega)).and ((markAt hx.lens (by omega)).and (heldAt hx.lens (by omega))))))))
    obtain ⟨k2, k3, k4, ⟨f1, f2⟩, m0, mx, hxx⟩ := hN n (Nat.le_refl n)
    have txx := mkL_tot (s := x) 1
    have m3 := mx 1 (by omega) (by omega)
    have m4 := hxx 1 (by omega) (by omega)
    have d3 : decide (1 + (l.length : Int) < 0) = false := decide_eq_false (by omega)
    have d4 : decide ((mkL x.kids 1).1 < 0) = false := decide_eq_false (by omega)
    refine ⟨n, ?_⟩
    simp only [Dlaws_FnExactGetSolid, Dlaws_FnExactGetSolid_0, Dlaws_FnExactGetSolid_1, Dlaws_FnExactGetSolid_2, Dlaws_FnExactGetSolid_3, Dlaws_FnExactGetSolid_4, pl_eq, sol_eq, hd, k2, k3, k4, f1, f2, m0, m3, m4, d3, d4, Option.bind_some, Bool.not_true, frk_f, bne_self_eq_false]
  · have hd : decide ((l.length : Int) > 1048576) = true := decide_eq_true (by omega)
    refine ⟨0, ?_⟩
    simp only [Dlaws_FnExactGetSolid, hd]; rfl
end Evl.T
