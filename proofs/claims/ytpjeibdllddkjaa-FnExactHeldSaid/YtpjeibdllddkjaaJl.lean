/- Texts that belong together, joined. No condition. -/
import Derived.Test.YtpjeibdllddkjaaJp
/-! Epl -/
namespace Evl.T
open Go Evl

theorem wth_iff (l : List Pl) (p : Pl) : wth l p = true ↔ ∃ i, i < l.length ∧ (cl2 (gt l i) p = true ∨ ∃ j, i < j ∧ j < l.length ∧ (cl3 (gt l i) (gt l j) p = true ∨ ∃ k, j < k ∧ k < l.length ∧ cl4 (gt l i) (gt l j) (gt l k) p = true)) := by
  unfold wth sAny3 sAny4
  simp only [List.any_eq_true, List.mem_range'_1, Bool.or_eq_true]
  constructor
  · rintro ⟨i, hi, h | ⟨j, hj, h | ⟨k, hk, h⟩⟩⟩
    · exact ⟨i, by omega, .inl h⟩
    · exact ⟨i, by omega, .inr ⟨j, by omega, by omega, .inl h⟩⟩
    · exact ⟨i, by omega, .inr ⟨j, by omega, by omega, .inr ⟨k, by omega, by omega, h⟩⟩⟩
  · rintro ⟨i, hi, h | ⟨j, hj, hj2, h | ⟨k, hk, hk2, h⟩⟩⟩
    · exact ⟨i, by omega, .inl h⟩
    · exact ⟨i, by omega, .inr ⟨j, by omega, .inl h⟩⟩
    · exact ⟨i, by omega, .inr ⟨j, by omega, .inr ⟨k, by omega, h⟩⟩⟩
/-- One plane less: no clash comes. -/
theorem wth_less {l1 l2 : List Pl} {x p : Pl} (h : wth (l1 ++ x :: l2) p = false) : wth (l1 ++ l2) p = false := by
  have key : ¬ wth (l1 ++ x :: l2) p = true := by simp [h]
  rw [← Bool.not_eq_true]
  intro h2
  apply key
  rw [wth_iff] at h2 ⊢
  let f : Nat → Nat := fun i => if i < l1.length then i else i + 1
  have fd : ∀ i, f i = if i < l1.length then i else i + 1 := fun _ => rfl
  have f1 : ∀ i j, i < j → f i < f j := fun i j hij => by
    rw [fd, fd]
    split <;> split <;> omega
  have f2 : ∀ i, i < (l1 ++ l2).length → f i < (l1 ++ x :: l2).length := fun i hi => by
    simp only [List.length_append, List.length_cons] at hi ⊢
    rw [fd]
    split <;> omega
  have f3 : ∀ i, gt (l1 ++ x :: l2) (f i) = gt (l1 ++ l2) i := fun i => by
    unfold gt
    show (((l1 ++ x :: l2)[if i < l1.length then i else i + 1]?).getD _) = _
    split
    · rename_i hi; rw [List.getElem?_append_left hi, List.getElem?_append_left hi]
    · rename_i hi
      rw [List.getElem?_append_right (by omega), List.getElem?_append_right (by omega), show i + 1 - l1.length = (i - l1.length) + 1 by omega, List.getElem?_cons_succ]
  obtain ⟨i, hi, h | ⟨j, hj, hj2, h | ⟨k, hk, hk2, h⟩⟩⟩ := h2
  · exact ⟨f i, f2 i hi, .inl (by rw [f3]; exact h)⟩
  · exact ⟨f i, f2 i hi, .inr ⟨f j, f1 _ _ hj, f2 j hj2, .inl (by rw [f3, f3]; exact h)⟩⟩
  · exact ⟨f i, f2 i hi, .inr ⟨f j, f1 _ _ hj, f2 j hj2, .inr ⟨f k, f1 _ _ hk, f2 k hk2, by rw [f3, f3, f3]; exact h⟩⟩⟩
theorem Rt.less {s : Sol} {path : List Pl} (h : Rt s path) : ∀ (l1 l2 : List Pl) (x : Pl), path = l1 ++ x :: l2 → Rt s (l1 ++ l2) := by
  induction h with
  | leaf hz => intro _ _ _ _; exact .leaf hz
  | @node p a b path h1 h2 h3 h4 _ _ iha ihb =>
    intro l1 l2 x e
    subst e
    refine .node h1 (by simp at h2 ⊢; omega) (wth_less h3) (wth_less h4) ?_ ?_
    · have := iha l1 (l2 ++ [p]) x (by simp)
      simpa using this
    · have := ihb l1 (l2 ++ [flp p]) x (by simp)
      simpa using this
theorem Rt.lens {s : Sol} {path : List Pl} (h : Rt s path) : Lens s := by
  induction h with
  | leaf hz => exact .mk (by simp [big]) (by simp)
  | node _ _ _ _ _ _ iha ihb =>
    refine .mk (by simp [big]) fun x hx => ?_
    simp only [List.mem_cons, List.not_mem_nil, or_false] at hx
    rcases hx with rfl | rfl
    · exact iha
    · exact ihb

/-! the same tree -/
def plEq (p q : Pl) : Bool := p.A == q.A && (p.B == q.B && (p.C == q.C && (p.D == q.D && true)))
theorem plEq_iff (p q : Pl) : plEq p q = true ↔ p = q := by
  cases p; cases q; simp [plEq]
theorem plEq_no {p q : Pl} (h : p ≠ q) : plEq p q = false := by
  rw [← Bool.not_eq_true, plEq_iff]; exact h
theorem iSameStep (n : Nat) (self : Sol × Sol → Option Bool) (i j : Bool) (p q : Pl) (k l : List Sol) : Dimpl_SameTree_b n self (.mk i p k, .mk j q l) =
    frk (i == j) (frk (plEq p q) ((frk ((k.length : Int) != (l.length : Int)) (some false) (loopN (Dslices_EqualFuncf80_in_0 n self l k (k.length : Int)) n 0)).bind fun v0 => some v0) (some false)) (some false) := rfl
open Classical in
theorem kidsLoop (self : Sol × Sol → Option Bool) (F : (Int → Option Bool) → Int → Option Bool) (k l : List Sol) (hl : k.length ≤ big) (hkl : k.length = l.length) (hs : ∀ x ∈ k, ∀ y, self (x, y) = some (decide (x = y)))
    (hF : ∀ rec (t : Int), F rec t = frk (decide (t < (k.length : Int))) ((lget k t).bind fun v0 => (lget l t).bind fun v1 => (self (v0, v1)).bind fun v2 => frk (!v2) (some false) (rec (w64 (t + 1)))) (some true)) (n : Nat) (hn : k.length < n) :
    loopN F n 0 = some (decide (k = l)) := by
  have := search (F := F) (len := k.length) (b := fun t => decide (k[t]? ≠ l[t]?)) (hit := some false) (miss := some true) hl ?_ ?_ k.length 0 n (by omega) hn
  · rw [show (0 : Int) = ((0 : Nat) : Int) from rfl, this]
    by_cases h : k = l
    · subst h
      have : (List.range' 0 k.length).any (fun t => decide (k[t]? ≠ k[t]?)) = false := by simp
      rw [this]; simp
    · have : (List.range' 0 k.length).any (fun t => decide (k[t]? ≠ l[t]?)) = true := by
        rw [List.any_eq_true]
        apply Classical.byContradiction
        intro hno
        apply h
        apply List.ext_getElem?
        intro t
        rcases Nat.lt_or_ge t k.length with ht | ht
        · apply Classical.byContradiction
          intro hne
          exact hno ⟨t, by simp; omega, by simpa using hne⟩
        · rw [List.getElem?_eq_none ht, List.getElem?_eq_none (by omega)]
      rw [this]; simp [h]
  · intro rec t ht
    obtain ⟨x, hx⟩ : ∃ x, k[t]? = some x := ⟨k[t], List.getElem?_eq_getElem ht⟩
    obtain ⟨y, hy⟩ : ∃ y, l[t]? = some y := ⟨l[t]'(by omega), List.getElem?_eq_getElem (by omega)⟩
    rw [hF, lt_dec ht, frk_t, lget_nat, lget_nat, hx, hy, Option.bind_some, Option.bind_some, hs x (List.mem_of_getElem? hx) y, Option.bind_some]
    by_cases h : x = y
    · subst h; simp [frk_f]
    · simp [h, frk_t]
  · intro rec
    rw [hF, lt_self, frk_f]
open Classical in
theorem iSame : ∀ a, Lens a → E2 fun n m => ∀ b, loopN (Dimpl_SameTree_b n) m (a, b) = some (decide (a = b)) := by
  refine sol_ind fun i p k ih hl => ?_
  cases hl with
  | mk hk hx =>
    have h1 := E2.all fun x hxm => ih x hxm (hx x hxm)
    have h2 : E2 fun n _ => k.length < n := ⟨k.length + 1, fun n hn _ _ => by omega⟩
    refine E2.suc ((h1.and h2).mono fun n m ⟨h1, h2⟩ b => ?_)
    obtain ⟨j, q, l⟩ := b
    rw [loop_suc, iSameStep]
    by_cases e1 : i = j
    · subst e1
      rw [beq_self_eq_true, frk_t]
      by_cases e2 : p = q
      · subst e2
        rw [(plEq_iff p p).2 rfl, frk_t]
        by_cases e3 : k.length = l.length
        · rw [show ((k.length : Int) != (l.length : Int)) = false by simp [e3], frk_f, kidsLoop _ (Dslices_EqualFuncf80_in_0 n (loopN (Dimpl_SameTree_b n) m) l k (k.length : Int)) k l hk e3 h1 (fun _ _ => rfl) n h2]
          simp
        · rw [show ((k.length : Int) != (l.length : Int)) = true by simp; omega, frk_t]
          have : k ≠ l := fun e => e3 (by rw [e])
          simp [this]
      · rw [plEq_no e2, frk_f]; simp [e2]
    · rw [show (i == j) = false by simp [e1], frk_f]; simp [e1]

theorem iNodesStep (n : Nat) (self : Sol → Option Int) (i : Bool) (p : Pl) (k : List Sol) : Dimpl_Solid_nodes_b n self (.mk i p k) = frk ((k.length : Int) == 0) (some 0) ((lget k 0).bind fun v1 => (self v1).bind fun v2 => (lget k 1).bind fun v3 => (self v3).bind fun v4 => some (w64 ((w64 (1 + v2)) + v4))) := rfl
theorem iNodes {s : Sol} {path : List Pl} (h : Rt s path) : nod s ≤ 1000000 → E2 fun n m => loopN (Dimpl_Solid_nodes_b n) m s = some ((nod s : Nat) : Int) := by
  induction h with
  | @leaf i p path hz => intro _; exact E2.suc (E2.of fun n m => by rw [loop_suc, iNodesStep, nod_leaf]; rfl)
  | @node p a b path h1 h2 h3 h4 _ _ iha ihb =>
    intro hn
    rw [nod2] at hn
    refine E2.suc (((iha (by omega)).and (ihb (by omega))).mono fun n m ⟨h1, h2⟩ => ?_)
    rw [loop_suc, iNodesStep, show ((([a, b] : List Sol).length : Int) == 0) = false from rfl, frk_f]
    show ((some a).bind _) = _
    rw [Option.bind_some, h1, Option.bind_some]
    show ((some b).bind _) = _
    rw [Option.bind_some, h2, Option.bind_some, w64_id (x := 1 + ((nod a : Nat) : Int)) (by omega) (by omega), w64_id (by omega) (by omega), nod2]
    congr 1; omega
end Evl.T

/-! Epm -/
namespace Evl.T
open Go Evl

def zs : Sol := .mk false ⟨0, 0, 0, 0⟩ []
abbrev S8 := Sol × Sol × Sol × Sol × Sol × Sol × Sol × Sol
abbrev B8 := Bool × Bool × Bool × Bool × Bool × Bool × Bool × Bool
theorem zs_right : Right zs := ⟨.leaf rfl, by unfold zs; rw [nod_leaf]; omega⟩
open Classical in
theorem none_iff (s : Sol) : Dspec_l20None s = some (decide (s = zs)) := by
  obtain ⟨i, p, k⟩ := s
  unfold zs
  show frk (!i) (frk (plEq p ⟨0, 0, 0, 0⟩) (some ((k.length : Int) == 0)) (some false)) (some false) = _
  cases i with
  | true => rw [Bool.not_true, frk_f]; simp
  | false =>
    rw [Bool.not_false, frk_t]
    by_cases hp : p = ⟨0, 0, 0, 0⟩
    · subst hp
      rw [(plEq_iff _ _).2 rfl, frk_t]
      cases k with
      | nil => simp
      | cons x k =>
        have : ((((x :: k) : List Sol).length : Int) == 0) = false := by simp; omega
        rw [this]; simp
    · rw [plEq_no hp, frk_f]; simp [hp]
def stI (ok z h : Bool) (rest : Option Bool) : Option Bool := frk (!ok) (some false) (frk (!h) (frk (!z) (some false) rest) rest)
def stS (ok z h : Bool) (rest : Option Bool) : Option Bool := frk h (frk (!ok) (some false) (frk (!h) (frk (!z) (some false) rest) rest)) (frk (!h) (frk (!z) (some false) rest) rest)
theorem stI_eq (ok z h : Bool) (rest : Option Bool) : stI ok z h rest = frk (ok && (h || z)) rest (some false) := by
  cases ok <;> cases z <;> cases h <;> rfl
theorem stS_eq (ok z h : Bool) (rest : Option Bool) (hz : z = true → ok = true) : stS ok z h rest = frk (ok && (h || z)) rest (some false) := by
  cases ok <;> cases z <;> cases h <;> first | rfl | (have := hz rfl; cases this)
theorem frk_congr {b : Bool} {x y z : Option Bool} (h : b = true → x = y) : frk b x z = frk b y z := by
  cases b
  · rfl
  · exact h rfl
theorem stepSz {f rest : Int → Option Int} {t : Nat} {Q : Prop} (hA : ∀ left, 0 ≤ left → left ≤ mil → f left = some (szv t left)) (hB : ∀ left, 0 ≤ left → left ≤ mil → ∃ v, rest left = some v ∧ (v < 0 ∨ Q)) :
    ∀ left, 0 ≤ left → left ≤ mil → ∃ v, ((f left).bind fun v0 => frk (decide (v0 < 0)) (some (-1)) (rest v0)) = some v ∧ (v < 0 ∨ (t ≤ 1048576 ∧ Q)) := by
  intro left h0 h1
  unfold mil at h1
  rw [hA left h0 h1, Option.bind_some]
  by_cases hc : (t : Int) ≤ left
  · rw [szv_yes hc, decide_eq_false (by omega), frk_f]
    obtain ⟨v, e, h⟩ := hB (left - t) (by omega) (by unfold mil; omega)
    exact ⟨v, e, h.imp id fun h => ⟨by omega, h⟩⟩
  · rw [szv_no hc]; exact ⟨-1, rfl, .inl (by omega)⟩
theorem szAll (s : Sol) (h : Lens s) : Ev fun n => ∀ left : Int, 0 ≤ left → left ≤ mil → Dlaws_szSolid n s left = some (szv (tot s) left) := (szOk s h).ev
open Classical in
theorem iNodesR (s : Sol) : Ev fun n => Right s → Dimpl_Solid_nodes n s = some ((nod s : Nat) : Int) := by
  by_cases h : Right s
  · exact ((iNodes h.1 (by have := h.2; omega)).ev).mono fun n e _ => e
  · exact Ev.of fun n h' => absurd h' h

open Classical in
/-- Right, as a Bool. -/
noncomputable def rt (s : Sol) : Bool := decide (Right s)
open Classical in
noncomputable def isz (s : Sol) : Bool := decide (s = zs)
theorem rt_iff {s : Sol} : rt s = true ↔ Right s := by unfold rt; simp
theorem isz_rt {s : Sol} (h : isz s = true) : rt s = true := by
  unfold isz at h; simp only [decide_eq_true_eq] at h; subst h; exact rt_iff.2 zs_right
theorem none_eq (s : Sol) : Dspec_l20None s = some (isz s) := none_iff s
def Desk8 (d : S8 × B8) : Prop := Lens d.1.1 ∧ Lens d.1.2.1 ∧ Lens d.1.2.2.1 ∧ Lens d.1.2.2.2.1 ∧ Lens d.1.2.2.2.2.1 ∧ Lens d.1.2.2.2.2.2.1 ∧ Lens d.1.2.2.2.2.2.2.1 ∧ Lens d.1.2.2.2.2.2.2.2
/-- What is known of the eight solids, with fuel enough. -/
structure DF (n : Nat) (d : S8 × B8) : Prop where
  sz1 : ∀ left : Int, 0 ≤ left → left ≤ mil → Dlaws_szSolid n d.1.1 left = some (szv (tot d.1.1) left)
  sok1 : Dspec_SolidOk n d.1.1 = some (rt d.1.1)
  iok1 : Dimpl_SolidOk n d.1.1 = some (rt d.1.1)
  cn1 : Dspec_l8Count n d.1.1 301 = some (cnv (nod d.1.1) 301)
  nd1 : Right d.1.1 → Dimpl_Solid_nodes n d.1.1 = some ((nod d.1.1 : Nat) : Int)
  sm1 : Dimpl_SameTree n d.1.1 zs = some (isz d.1.1)
  sz2 : ∀ left : Int, 0 ≤ left → left ≤ mil → Dlaws_szSolid n d.1.2.1 left = some (szv (tot d.1.2.1) left)
  sok2 : Dspec_SolidOk n d.1.2.1 = some (rt d.1.2.1)
  iok2 : Dimpl_SolidOk n d.1.2.1 = some (rt d.1.2.1)
  cn2 : Dspec_l8Count n d.1.2.1 301 = some (cnv (nod d.1.2.1) 301)
  nd2 : Right d.1.2.1 → Dimpl_Solid_nodes n d.1.2.1 = some ((nod d.1.2.1 : Nat) : Int)
  sm2 : Dimpl_SameTree n d.1.2.1 zs = some (isz d.1.2.1)
  sz3 : ∀ left : Int, 0 ≤ left → left ≤ mil → Dlaws_szSolid n d.1.2.2.1 left = some (szv (tot d.1.2.2.1) left)
  sok3 : Dspec_SolidOk n d.1.2.2.1 = some (rt d.1.2.2.1)
  iok3 : Dimpl_SolidOk n d.1.2.2.1 = some (rt d.1.2.2.1)
  cn3 : Dspec_l8Count n d.1.2.2.1 301 = some (cnv (nod d.1.2.2.1) 301)
  nd3 : Right d.1.2.2.1 → Dimpl_Solid_nodes n d.1.2.2.1 = some ((nod d.1.2.2.1 : Nat) : Int)
  sm3 : Dimpl_SameTree n d.1.2.2.1 zs = some (isz d.1.2.2.1)
  sz4 : ∀ left : Int, 0 ≤ left → left ≤ mil → Dlaws_szSolid n d.1.2.2.2.1 left = some (szv (tot d.1.2.2.2.1) left)
  sok4 : Dspec_SolidOk n d.1.2.2.2.1 = some (rt d.1.2.2.2.1)
  iok4 : Dimpl_SolidOk n d.1.2.2.2.1 = some (rt d.1.2.2.2.1)
  cn4 : Dspec_l8Count n d.1.2.2.2.1 301 = some (cnv (nod d.1.2.2.2.1) 301)
  nd4 : Right d.1.2.2.2.1 → Dimpl_Solid_nodes n d.1.2.2.2.1 = some ((nod d.1.2.2.2.1 : Nat) : Int)
  sm4 : Dimpl_SameTree n d.1.2.2.2.1 zs = some (isz d.1.2.2.2.1)
  sz5 : ∀ left : Int, 0 ≤ left → left ≤ mil → Dlaws_szSolid n d.1.2.2.2.2.1 left = some (szv (tot d.1.2.2.2.2.1) left)
  sok5 : Dspec_SolidOk n d.1.2.2.2.2.1 = some (rt d.1.2.2.2.2.1)
  iok5 : Dimpl_SolidOk n d.1.2.2.2.2.1 = some (rt d.1.2.2.2.2.1)
  cn5 : Dspec_l8Count n d.1.2.2.2.2.1 301 = some (cnv (nod d.1.2.2.2.2.1) 301)
  nd5 : Right d.1.2.2.2.2.1 → Dimpl_Solid_nodes n d.1.2.2.2.2.1 = some ((nod d.1.2.2.2.2.1 : Nat) : Int)
  sm5 : Dimpl_SameTree n d.1.2.2.2.2.1 zs = some (isz d.1.2.2.2.2.1)
  sz6 : ∀ left : Int, 0 ≤ left → left ≤ mil → Dlaws_szSolid n d.1.2.2.2.2.2.1 left = some (szv (tot d.1.2.2.2.2.2.1) left)
  sok6 : Dspec_SolidOk n d.1.2.2.2.2.2.1 = some (rt d.1.2.2.2.2.2.1)
  iok6 : Dimpl_SolidOk n d.1.2.2.2.2.2.1 = some (rt d.1.2.2.2.2.2.1)
  cn6 : Dspec_l8Count n d.1.2.2.2.2.2.1 301 = some (cnv (nod d.1.2.2.2.2.2.1) 301)
  nd6 : Right d.1.2.2.2.2.2.1 → Dimpl_Solid_nodes n d.1.2.2.2.2.2.1 = some ((nod d.1.2.2.2.2.2.1 : Nat) : Int)
  sm6 : Dimpl_SameTree n d.1.2.2.2.2.2.1 zs = some (isz d.1.2.2.2.2.2.1)
  sz7 : ∀ left : Int, 0 ≤ left → left ≤ mil → Dlaws_szSolid n d.1.2.2.2.2.2.2.1 left = some (szv (tot d.1.2.2.2.2.2.2.1) left)
  sok7 : Dspec_SolidOk n d.1.2.2.2.2.2.2.1 = some (rt d.1.2.2.2.2.2.2.1)
  iok7 : Dimpl_SolidOk n d.1.2.2.2.2.2.2.1 = some (rt d.1.2.2.2.2.2.2.1)
  cn7 : Dspec_l8Count n d.1.2.2.2.2.2.2.1 301 = some (cnv (nod d.1.2.2.2.2.2.2.1) 301)
  nd7 : Right d.1.2.2.2.2.2.2.1 → Dimpl_Solid_nodes n d.1.2.2.2.2.2.2.1 = some ((nod d.1.2.2.2.2.2.2.1 : Nat) : Int)
  sm7 : Dimpl_SameTree n d.1.2.2.2.2.2.2.1 zs = some (isz d.1.2.2.2.2.2.2.1)
  sz8 : ∀ left : Int, 0 ≤ left → left ≤ mil → Dlaws_szSolid n d.1.2.2.2.2.2.2.2 left = some (szv (tot d.1.2.2.2.2.2.2.2) left)
  sok8 : Dspec_SolidOk n d.1.2.2.2.2.2.2.2 = some (rt d.1.2.2.2.2.2.2.2)
  iok8 : Dimpl_SolidOk n d.1.2.2.2.2.2.2.2 = some (rt d.1.2.2.2.2.2.2.2)
  cn8 : Dspec_l8Count n d.1.2.2.2.2.2.2.2 301 = some (cnv (nod d.1.2.2.2.2.2.2.2) 301)
  nd8 : Right d.1.2.2.2.2.2.2.2 → Dimpl_Solid_nodes n d.1.2.2.2.2.2.2.2 = some ((nod d.1.2.2.2.2.2.2.2 : Nat) : Int)
  sm8 : Dimpl_SameTree n d.1.2.2.2.2.2.2.2 zs = some (isz d.1.2.2.2.2.2.2.2)
theorem DF.ev (d : S8 × B8) (h : Desk8 d) : Ev fun n => DF n d := by
  obtain ⟨h1, h2, h3, h4, h5, h6, h7, h8⟩ := h
  have q1 := (szAll _ h1).and ((sSolidOk _ h1).and ((iSolidOk d.1.1).and ((cnt _ h1).and ((iNodesR d.1.1).and ((iSame _ h1).ev)))))
  have q2 := (szAll _ h2).and ((sSolidOk _ h2).and ((iSolidOk d.1.2.1).and ((cnt _ h2).and ((iNodesR d.1.2.1).and ((iSame _ h2).ev)))))
  have q3 := (szAll _ h3).and ((sSolidOk _ h3).and ((iSolidOk d.1.2.2.1).and ((cnt _ h3).and ((iNodesR d.1.2.2.1).and ((iSame _ h3).ev)))))
  have q4 := (szAll _ h4).and ((sSolidOk _ h4).and ((iSolidOk d.1.2.2.2.1).and ((cnt _ h4).and ((iNodesR d.1.2.2.2.1).and ((iSame _ h4).ev)))))
  have q5 := (szAll _ h5).and ((sSolidOk _ h5).and ((iSolidOk d.1.2.2.2.2.1).and ((cnt _ h5).and ((iNodesR d.1.2.2.2.2.1).and ((iSame _ h5).ev)))))
  have q6 := (szAll _ h6).and ((sSolidOk _ h6).and ((iSolidOk d.1.2.2.2.2.2.1).and ((cnt _ h6).and ((iNodesR d.1.2.2.2.2.2.1).and ((iSame _ h6).ev)))))
  have q7 := (szAll _ h7).and ((sSolidOk _ h7).and ((iSolidOk d.1.2.2.2.2.2.2.1).and ((cnt _ h7).and ((iNodesR d.1.2.2.2.2.2.2.1).and ((iSame _ h7).ev)))))
  have q8 := (szAll _ h8).and ((sSolidOk _ h8).and ((iSolidOk d.1.2.2.2.2.2.2.2).and ((cnt _ h8).and ((iNodesR d.1.2.2.2.2.2.2.2).and ((iSame _ h8).ev)))))
  refine (q1.and (q2.and (q3.and (q4.and (q5.and (q6.and (q7.and (q8)))))))).mono fun n ⟨e1, e2, e3, e4, e5, e6, e7, e8⟩ => ?_
  exact ⟨e1.1, e1.2.1, e1.2.2.1, e1.2.2.2.1, e1.2.2.2.2.1, e1.2.2.2.2.2 zs, e2.1, e2.2.1, e2.2.2.1, e2.2.2.2.1, e2.2.2.2.2.1, e2.2.2.2.2.2 zs, e3.1, e3.2.1, e3.2.2.1, e3.2.2.2.1, e3.2.2.2.2.1, e3.2.2.2.2.2 zs, e4.1, e4.2.1, e4.2.2.1, e4.2.2.2.1, e4.2.2.2.2.1, e4.2.2.2.2.2 zs, e5.1, e5.2.1, e5.2.2.1, e5.2.2.2.1, e5.2.2.2.2.1, e5.2.2.2.2.2 zs, e6.1, e6.2.1, e6.2.2.1, e6.2.2.2.1, e6.2.2.2.2.1, e6.2.2.2.2.2 zs, e7.1, e7.2.1, e7.2.2.1, e7.2.2.2.1, e7.2.2.2.2.1, e7.2.2.2.2.2 zs, e8.1, e8.2.1, e8.2.2.1, e8.2.2.2.1, e8.2.2.2.2.1, e8.2.2.2.2.2 zs⟩
theorem szDesk {n : Nat} {d : S8 × B8} (F : DF n d) : ∃ v, Dlaws_szDesk n d 1048576 = some v ∧ (v < 0 ∨ (tot d.1.1 ≤ 1048576 ∧ tot d.1.2.1 ≤ 1048576 ∧ tot d.1.2.2.1 ≤ 1048576 ∧ tot d.1.2.2.2.1 ≤ 1048576 ∧ tot d.1.2.2.2.2.1 ≤ 1048576 ∧ tot d.1.2.2.2.2.2.1 ≤ 1048576 ∧ tot d.1.2.2.2.2.2.2.1 ≤ 1048576 ∧ tot d.1.2.2.2.2.2.2.2 ≤ 1048576 ∧ True)) := by
  have h : ∃ v, Dlaws_szSolidA8 n d.1 1048576 = some v ∧ (v < 0 ∨ (tot d.1.1 ≤ 1048576 ∧ tot d.1.2.1 ≤ 1048576 ∧ tot d.1.2.2.1 ≤ 1048576 ∧ tot d.1.2.2.2.1 ≤ 1048576 ∧ tot d.1.2.2.2.2.1 ≤ 1048576 ∧ tot d.1.2.2.2.2.2.1 ≤ 1048576 ∧ tot d.1.2.2.2.2.2.2.1 ≤ 1048576 ∧ tot d.1.2.2.2.2.2.2.2 ≤ 1048576 ∧ True)) := by
    exact (stepSz F.sz1 (stepSz F.sz2 (stepSz F.sz3 (stepSz F.sz4 (stepSz F.sz5 (stepSz F.sz6 (stepSz F.sz7 (stepSz F.sz8 (fun left _ _ => ⟨left, rfl, .inr trivial⟩))))))))) 1048576 (by decide) (by decide)
  obtain ⟨v, e, hv⟩ := h
  unfold Dlaws_szDesk
  rw [e, Option.bind_some]
  by_cases hc : v < 0
  · rw [decide_eq_true hc, frk_t]; exact ⟨-1, rfl, .inl (by omega)⟩
  · rw [decide_eq_false hc, frk_f]; exact ⟨v, rfl, hv⟩
theorem iChain {n : Nat} {d : S8 × B8} (F : DF n d) : Dimpl_DeskOk n d = frk (rt d.1.1 && (d.2.1 || isz d.1.1)) (frk (rt d.1.2.1 && (d.2.2.1 || isz d.1.2.1)) (frk (rt d.1.2.2.1 && (d.2.2.2.1 || isz d.1.2.2.1)) (frk (rt d.1.2.2.2.1 && (d.2.2.2.2.1 || isz d.1.2.2.2.1)) (frk (rt d.1.2.2.2.2.1 && (d.2.2.2.2.2.1 || isz d.1.2.2.2.2.1)) (frk (rt d.1.2.2.2.2.2.1 && (d.2.2.2.2.2.2.1 || isz d.1.2.2.2.2.2.1)) (frk (rt d.1.2.2.2.2.2.2.1 && (d.2.2.2.2.2.2.2.1 || isz d.1.2.2.2.2.2.2.1)) (frk (rt d.1.2.2.2.2.2.2.2 && (d.2.2.2.2.2.2.2.2 || isz d.1.2.2.2.2.2.2.2)) ((Dimpl_Desk_held n d).bind fun v => some (decide (v ≤ 900))) (some false)) (some false)) (some false)) (some false)) (some false)) (some false)) (some false)) (some false) := by
  have e8 : Dimpl_DeskOk_9 n d = frk (rt d.1.2.2.2.2.2.2.2 && (d.2.2.2.2.2.2.2.2 || isz d.1.2.2.2.2.2.2.2)) (Dimpl_DeskOk_8 n d) (some false) := by
    rw [← stI_eq]
    unfold Dimpl_DeskOk_9
    show (Dimpl_SolidOk n d.1.2.2.2.2.2.2.2).bind _ = _
    rw [F.iok8, Option.bind_some]
    show frk _ _ (frk _ ((Dimpl_SameTree n d.1.2.2.2.2.2.2.2 zs).bind _) _) = _
    rw [F.sm8, Option.bind_some]
    rfl
  have e7 : Dimpl_DeskOk_10 n d = frk (rt d.1.2.2.2.2.2.2.1 && (d.2.2.2.2.2.2.2.1 || isz d.1.2.2.2.2.2.2.1)) (Dimpl_DeskOk_9 n d) (some false) := by
    rw [← stI_eq]
    unfold Dimpl_DeskOk_10
    show (Dimpl_SolidOk n d.1.2.2.2.2.2.2.1).bind _ = _
    rw [F.iok7, Option.bind_some]
    show frk _ _ (frk _ ((Dimpl_SameTree n d.1.2.2.2.2.2.2.1 zs).bind _) _) = _
    rw [F.sm7, Option.bind_some]
    rfl
  have e6 : Dimpl_DeskOk_11 n d = frk (rt d.1.2.2.2.2.2.1 && (d.2.2.2.2.2.2.1 || isz d.1.2.2.2.2.2.1)) (Dimpl_DeskOk_10 n d) (some false) := by
    rw [← stI_eq]
    unfold Dimpl_DeskOk_11
    show (Dimpl_SolidOk n d.1.2.2.2.2.2.1).bind _ = _
    rw [F.iok6, Option.bind_some]
    show frk _ _ (frk _ ((Dimpl_SameTree n d.1.2.2.2.2.2.1 zs).bind _) _) = _
    rw [F.sm6, Option.bind_some]
    rfl
  have e5 : Dimpl_DeskOk_12 n d = frk (rt d.1.2.2.2.2.1 && (d.2.2.2.2.2.1 || isz d.1.2.2.2.2.1)) (Dimpl_DeskOk_11 n d) (some false) := by
    rw [← stI_eq]
    unfold Dimpl_DeskOk_12
    show (Dimpl_SolidOk n d.1.2.2.2.2.1).bind _ = _
    rw [F.iok5, Option.bind_some]
    show frk _ _ (frk _ ((Dimpl_SameTree n d.1.2.2.2.2.1 zs).bind _) _) = _
    rw [F.sm5, Option.bind_some]
    rfl
  have e4 : Dimpl_DeskOk_13 n d = frk (rt d.1.2.2.2.1 && (d.2.2.2.2.1 || isz d.1.2.2.2.1)) (Dimpl_DeskOk_12 n d) (some false) := by
    rw [← stI_eq]
    unfold Dimpl_DeskOk_13
    show (Dimpl_SolidOk n d.1.2.2.2.1).bind _ = _
    rw [F.iok4, Option.bind_some]
    show frk _ _ (frk _ ((Dimpl_SameTree n d.1.2.2.2.1 zs).bind _) _) = _
    rw [F.sm4, Option.bind_some]
    rfl
  have e3 : Dimpl_DeskOk_14 n d = frk (rt d.1.2.2.1 && (d.2.2.2.1 || isz d.1.2.2.1)) (Dimpl_DeskOk_13 n d) (some false) := by
    rw [← stI_eq]
    unfold Dimpl_DeskOk_14
    show (Dimpl_SolidOk n d.1.2.2.1).bind _ = _
    rw [F.iok3, Option.bind_some]
    show frk _ _ (frk _ ((Dimpl_SameTree n d.1.2.2.1 zs).bind _) _) = _
    rw [F.sm3, Option.bind_some]
    rfl
  have e2 : Dimpl_DeskOk_15 n d = frk (rt d.1.2.1 && (d.2.2.1 || isz d.1.2.1)) (Dimpl_DeskOk_14 n d) (some false) := by
    rw [← stI_eq]
    unfold Dimpl_DeskOk_15
    show (Dimpl_SolidOk n d.1.2.1).bind _ = _
    rw [F.iok2, Option.bind_some]
    show frk _ _ (frk _ ((Dimpl_SameTree n d.1.2.1 zs).bind _) _) = _
    rw [F.sm2, Option.bind_some]
    rfl
  have e1 : Dimpl_DeskOk n d = frk (rt d.1.1 && (d.2.1 || isz d.1.1)) (Dimpl_DeskOk_15 n d) (some false) := by
    rw [← stI_eq]
    unfold Dimpl_DeskOk
    show (Dimpl_SolidOk n d.1.1).bind _ = _
    rw [F.iok1, Option.bind_some]
    show frk _ _ (frk _ ((Dimpl_SameTree n d.1.1 zs).bind _) _) = _
    rw [F.sm1, Option.bind_some]
    rfl
  rw [e1, e2, e3, e4, e5, e6, e7, e8]
  rfl
theorem sChain {n : Nat} {d : S8 × B8} (F : DF n d) : Dspec_DeskOk n d = frk (rt d.1.1 && (d.2.1 || isz d.1.1)) (frk (rt d.1.2.1 && (d.2.2.1 || isz d.1.2.1)) (frk (rt d.1.2.2.1 && (d.2.2.2.1 || isz d.1.2.2.1)) (frk (rt d.1.2.2.2.1 && (d.2.2.2.2.1 || isz d.1.2.2.2.1)) (frk (rt d.1.2.2.2.2.1 && (d.2.2.2.2.2.1 || isz d.1.2.2.2.2.1)) (frk (rt d.1.2.2.2.2.2.1 && (d.2.2.2.2.2.2.1 || isz d.1.2.2.2.2.2.1)) (frk (rt d.1.2.2.2.2.2.2.1 && (d.2.2.2.2.2.2.2.1 || isz d.1.2.2.2.2.2.2.1)) (frk (rt d.1.2.2.2.2.2.2.2 && (d.2.2.2.2.2.2.2.2 || isz d.1.2.2.2.2.2.2.2)) (some (decide ((w64 ((w64 ((w64 ((w64 ((w64 ((w64 ((w64 ((w64 (0 + cnv (nod d.1.1) 301)) + cnv (nod d.1.2.1) 301)) + cnv (nod d.1.2.2.1) 301)) + cnv (nod d.1.2.2.2.1) 301)) + cnv (nod d.1.2.2.2.2.1) 301)) + cnv (nod d.1.2.2.2.2.2.1) 301)) + cnv (nod d.1.2.2.2.2.2.2.1) 301)) + cnv (nod d.1.2.2.2.2.2.2.2) 301)) ≤ 900))) (some false)) (some false)) (some false)) (some false)) (some false)) (some false)) (some false)) (some false) := by
  have e9 : Dspec_DeskOk_8 n (w64 ((w64 ((w64 ((w64 ((w64 ((w64 ((w64 (0 + cnv (nod d.1.1) 301)) + cnv (nod d.1.2.1) 301)) + cnv (nod d.1.2.2.1) 301)) + cnv (nod d.1.2.2.2.1) 301)) + cnv (nod d.1.2.2.2.2.1) 301)) + cnv (nod d.1.2.2.2.2.2.1) 301)) + cnv (nod d.1.2.2.2.2.2.2.1) 301)) d = some (decide ((w64 ((w64 ((w64 ((w64 ((w64 ((w64 ((w64 ((w64 (0 + cnv (nod d.1.1) 301)) + cnv (nod d.1.2.1) 301)) + cnv (nod d.1.2.2.1) 301)) + cnv (nod d.1.2.2.2.1) 301)) + cnv (nod d.1.2.2.2.2.1) 301)) + cnv (nod d.1.2.2.2.2.2.1) 301)) + cnv (nod d.1.2.2.2.2.2.2.1) 301)) + cnv (nod d.1.2.2.2.2.2.2.2) 301)) ≤ 900)) := by
    unfold Dspec_DeskOk_8
    rw [F.cn8, Option.bind_some]
  have e8 : Dspec_DeskOk_9 n (w64 ((w64 ((w64 ((w64 ((w64 ((w64 (0 + cnv (nod d.1.1) 301)) + cnv (nod d.1.2.1) 301)) + cnv (nod d.1.2.2.1) 301)) + cnv (nod d.1.2.2.2.1) 301)) + cnv (nod d.1.2.2.2.2.1) 301)) + cnv (nod d.1.2.2.2.2.2.1) 301)) d = frk (rt d.1.2.2.2.2.2.2.2 && (d.2.2.2.2.2.2.2.2 || isz d.1.2.2.2.2.2.2.2)) (Dspec_DeskOk_8 n (w64 ((w64 ((w64 ((w64 ((w64 ((w64 ((w64 (0 + cnv (nod d.1.1) 301)) + cnv (nod d.1.2.1) 301)) + cnv (nod d.1.2.2.1) 301)) + cnv (nod d.1.2.2.2.1) 301)) + cnv (nod d.1.2.2.2.2.1) 301)) + cnv (nod d.1.2.2.2.2.2.1) 301)) + cnv (nod d.1.2.2.2.2.2.2.1) 301)) d) (some false) := by
    rw [← stS_eq _ _ _ _ isz_rt]
    unfold Dspec_DeskOk_9
    rw [F.cn7, Option.bind_some]
    rw [F.sok8, none_eq]
    simp only [Option.bind_some]
    rfl
  have e7 : Dspec_DeskOk_10 n (w64 ((w64 ((w64 ((w64 ((w64 (0 + cnv (nod d.1.1) 301)) + cnv (nod d.1.2.1) 301)) + cnv (nod d.1.2.2.1) 301)) + cnv (nod d.1.2.2.2.1) 301)) + cnv (nod d.1.2.2.2.2.1) 301)) d = frk (rt d.1.2.2.2.2.2.2.1 && (d.2.2.2.2.2.2.2.1 || isz d.1.2.2.2.2.2.2.1)) (Dspec_DeskOk_9 n (w64 ((w64 ((w64 ((w64 ((w64 ((w64 (0 + cnv (nod d.1.1) 301)) + cnv (nod d.1.2.1) 301)) + cnv (nod d.1.2.2.1) 301)) + cnv (nod d.1.2.2.2.1) 301)) + cnv (nod d.1.2.2.2.2.1) 301)) + cnv (nod d.1.2.2.2.2.2.1) 301)) d) (some false) := by
    rw [← stS_eq _ _ _ _ isz_rt]
    unfold Dspec_DeskOk_10
    rw [F.cn6, Option.bind_some]
    rw [F.sok7, none_eq]
    simp only [Option.bind_some]
    rfl
  have e6 : Dspec_DeskOk_11 n (w64 ((w64 ((w64 ((w64 (0 + cnv (nod d.1.1) 301)) + cnv (nod d.1.2.1) 301)) + cnv (nod d.1.2.2.1) 301)) + cnv (nod d.1.2.2.2.1) 301)) d = frk (rt d.1.2.2.2.2.2.1 && (d.2.2.2.2.2.2.1 || isz d.1.2.2.2.2.2.1)) (Dspec_DeskOk_10 n (w64 ((w64 ((w64 ((w64 ((w64 (0 + cnv (nod d.1.1) 301)) + cnv (nod d.1.2.1) 301)) + cnv (nod d.1.2.2.1) 301)) + cnv (nod d.1.2.2.2.1) 301)) + cnv (nod d.1.2.2.2.2.1) 301)) d) (some false) := by
    rw [← stS_eq _ _ _ _ isz_rt]
    unfold Dspec_DeskOk_11
    rw [F.cn5, Option.bind_some]
    rw [F.sok6, none_eq]
    simp only [Option.bind_some]
    rfl
  have e5 : Dspec_DeskOk_12 n (w64 ((w64 ((w64 (0 + cnv (nod d.1.1) 301)) + cnv (nod d.1.2.1) 301)) + cnv (nod d.1.2.2.1) 301)) d = frk (rt d.1.2.2.2.2.1 && (d.2.2.2.2.2.1 || isz d.1.2.2.2.2.1)) (Dspec_DeskOk_11 n (w64 ((w64 ((w64 ((w64 (0 + cnv (nod d.1.1) 301)) + cnv (nod d.1.2.1) 301)) + cnv (nod d.1.2.2.1) 301)) + cnv (nod d.1.2.2.2.1) 301)) d) (some false) := by
    rw [← stS_eq _ _ _ _ isz_rt]
    unfold Dspec_DeskOk_12
    rw [F.cn4, Option.bind_some]
    rw [F.sok5, none_eq]
    simp only [Option.bind_some]
    rfl
  have e4 : Dspec_DeskOk_13 n (w64 ((w64 (0 + cnv (nod d.1.1) 301)) + cnv (nod d.1.2.1) 301)) d = frk (rt d.1.2.2.2.1 && (d.2.2.2.2.1 || isz d.1.2.2.2.1)) (Dspec_DeskOk_12 n (w64 ((w64 ((w64 (0 + cnv (nod d.1.1) 301)) + cnv (nod d.1.2.1) 301)) + cnv (nod d.1.2.2.1) 301)) d) (some false) := by
    rw [← stS_eq _ _ _ _ isz_rt]
    unfold Dspec_DeskOk_13
    rw [F.cn3, Option.bind_some]
    rw [F.sok4, none_eq]
    simp only [Option.bind_some]
    rfl
  have e3 : Dspec_DeskOk_14 n (w64 (0 + cnv (nod d.1.1) 301)) d = frk (rt d.1.2.2.1 && (d.2.2.2.1 || isz d.1.2.2.1)) (Dspec_DeskOk_13 n (w64 ((w64 (0 + cnv (nod d.1.1) 301)) + cnv (nod d.1.2.1) 301)) d) (some false) := by
    rw [← stS_eq _ _ _ _ isz_rt]
    unfold Dspec_DeskOk_14
    rw [F.cn2, Option.bind_some]
    rw [F.sok3, none_eq]
    simp only [Option.bind_some]
    rfl
  have e2 : Dspec_DeskOk_15 n d = frk (rt d.1.2.1 && (d.2.2.1 || isz d.1.2.1)) (Dspec_DeskOk_14 n (w64 (0 + cnv (nod d.1.1) 301)) d) (some false) := by
    rw [← stS_eq _ _ _ _ isz_rt]
    unfold Dspec_DeskOk_15
    rw [F.cn1, Option.bind_some]
    rw [F.sok2, none_eq]
    simp only [Option.bind_some]
    rfl
  have e1 : Dspec_DeskOk n d = frk (rt d.1.1 && (d.2.1 || isz d.1.1)) (Dspec_DeskOk_15 n d) (some false) := by
    rw [← stS_eq _ _ _ _ isz_rt]
    unfold Dspec_DeskOk
    rw [F.sok1, none_eq]
    simp only [Option.bind_some]
    rfl
  rw [e1, e2, e3, e4, e5, e6, e7, e8, e9]
theorem heldOk {n : Nat} {d : S8 × B8} (F : DF n d) (h1 : Right d.1.1) (h2 : Right d.1.2.1) (h3 : Right d.1.2.2.1) (h4 : Right d.1.2.2.2.1) (h5 : Right d.1.2.2.2.2.1) (h6 : Right d.1.2.2.2.2.2.1) (h7 : Right d.1.2.2.2.2.2.2.1) (h8 : Right d.1.2.2.2.2.2.2.2) : Dimpl_Desk_held n d = some (w64 ((w64 ((w64 ((w64 ((w64 ((w64 ((w64 ((w64 (0 + cnv (nod d.1.1) 301)) + cnv (nod d.1.2.1) 301)) + cnv (nod d.1.2.2.1) 301)) + cnv (nod d.1.2.2.2.1) 301)) + cnv (nod d.1.2.2.2.2.1) 301)) + cnv (nod d.1.2.2.2.2.2.1) 301)) + cnv (nod d.1.2.2.2.2.2.2.1) 301)) + cnv (nod d.1.2.2.2.2.2.2.2) 301)) := by
  unfold Dimpl_Desk_held
  rw [F.nd1 h1, Option.bind_some, F.nd2 h2, Option.bind_some, F.nd3 h3, Option.bind_some, F.nd4 h4, Option.bind_some, F.nd5 h5, Option.bind_some, F.nd6 h6, Option.bind_some, F.nd7 h7, Option.bind_some, F.nd8 h8, Option.bind_some]
  have c1 := h1.2
  have c2 := h2.2
  have c3 := h3.2
  have c4 := h4.2
  have c5 := h5.2
  have c6 := h6.2
  have c7 := h7.2
  have c8 := h8.2
  rw [cnv_yes (t := nod d.1.1) (left := 301) (by omega), cnv_yes (t := nod d.1.2.1) (left := 301) (by omega), cnv_yes (t := nod d.1.2.2.1) (left := 301) (by omega), cnv_yes (t := nod d.1.2.2.2.1) (left := 301) (by omega), cnv_yes (t := nod d.1.2.2.2.2.1) (left := 301) (by omega), cnv_yes (t := nod d.1.2.2.2.2.2.1) (left := 301) (by omega), cnv_yes (t := nod d.1.2.2.2.2.2.2.1) (left := 301) (by omega), cnv_yes (t := nod d.1.2.2.2.2.2.2.2) (left := 301) (by omega)]
theorem good {s : Sol} {h : Bool} (g : (rt s && (h || isz s)) = true) : Right s := by
  simp only [Bool.and_eq_true] at g; exact rt_iff.1 g.1
theorem deskEq {n : Nat} {d : S8 × B8} (F : DF n d) : Dimpl_DeskOk n d = Dspec_DeskOk n d := by
  rw [iChain F, sChain F]
  refine frk_congr fun g1 => frk_congr fun g2 => frk_congr fun g3 => frk_congr fun g4 => frk_congr fun g5 => frk_congr fun g6 => frk_congr fun g7 => frk_congr fun g8 => ?_
  rw [heldOk F (good g1) (good g2) (good g3) (good g4) (good g5) (good g6) (good g7) (good g8), Option.bind_some]
theorem deskSome {n : Nat} {d : S8 × B8} (F : DF n d) : ∃ r, Dspec_DeskOk n d = some r ∧ (r = true → Right d.1.1 ∧ Right d.1.2.1 ∧ Right d.1.2.2.1 ∧ Right d.1.2.2.2.1 ∧ Right d.1.2.2.2.2.1 ∧ Right d.1.2.2.2.2.2.1 ∧ Right d.1.2.2.2.2.2.2.1 ∧ Right d.1.2.2.2.2.2.2.2) := by
  rw [sChain F]
  cases g1 : (rt d.1.1 && (d.2.1 || isz d.1.1)) with
  | false => exact ⟨false, rfl, fun h => by cases h⟩
  | true =>
    cases g2 : (rt d.1.2.1 && (d.2.2.1 || isz d.1.2.1)) with
    | false => exact ⟨false, rfl, fun h => by cases h⟩
    | true =>
      cases g3 : (rt d.1.2.2.1 && (d.2.2.2.1 || isz d.1.2.2.1)) with
      | false => exact ⟨false, rfl, fun h => by cases h⟩
      | true =>
        cases g4 : (rt d.1.2.2.2.1 && (d.2.2.2.2.1 || isz d.1.2.2.2.1)) with
        | false => exact ⟨false, rfl, fun h => by cases h⟩
        | true =>
          cases g5 : (rt d.1.2.2.2.2.1 && (d.2.2.2.2.2.1 || isz d.1.2.2.2.2.1)) with
          | false => exact ⟨false, rfl, fun h => by cases h⟩
          | true =>
            cases g6 : (rt d.1.2.2.2.2.2.1 && (d.2.2.2.2.2.2.1 || isz d.1.2.2.2.2.2.1)) with
            | false => exact ⟨false, rfl, fun h => by cases h⟩
            | true =>
              cases g7 : (rt d.1.2.2.2.2.2.2.1 && (d.2.2.2.2.2.2.2.1 || isz d.1.2.2.2.2.2.2.1)) with
              | false => exact ⟨false, rfl, fun h => by cases h⟩
              | true =>
                cases g8 : (rt d.1.2.2.2.2.2.2.2 && (d.2.2.2.2.2.2.2.2 || isz d.1.2.2.2.2.2.2.2)) with
                | false => exact ⟨false, rfl, fun h => by cases h⟩
                | true =>
                  exact ⟨_, rfl, fun _ => ⟨good g1, good g2, good g3, good g4, good g5, good g6, good g7, good g8⟩⟩
structure DG (n : Nat) (d : S8 × B8) : Prop where
  to1 : Dlaws_toSolid n d.1.1 = some d.1.1
  eq1 : Dlaws_eqSolid n d.1.1 d.1.1 = some true
  to2 : Dlaws_toSolid n d.1.2.1 = some d.1.2.1
  eq2 : Dlaws_eqSolid n d.1.2.1 d.1.2.1 = some true
  to3 : Dlaws_toSolid n d.1.2.2.1 = some d.1.2.2.1
  eq3 : Dlaws_eqSolid n d.1.2.2.1 d.1.2.2.1 = some true
  to4 : Dlaws_toSolid n d.1.2.2.2.1 = some d.1.2.2.2.1
  eq4 : Dlaws_eqSolid n d.1.2.2.2.1 d.1.2.2.2.1 = some true
  to5 : Dlaws_toSolid n d.1.2.2.2.2.1 = some d.1.2.2.2.2.1
  eq5 : Dlaws_eqSolid n d.1.2.2.2.2.1 d.1.2.2.2.2.1 = some true
  to6 : Dlaws_toSolid n d.1.2.2.2.2.2.1 = some d.1.2.2.2.2.2.1
  eq6 : Dlaws_eqSolid n d.1.2.2.2.2.2.1 d.1.2.2.2.2.2.1 = some true
  to7 : Dlaws_toSolid n d.1.2.2.2.2.2.2.1 = some d.1.2.2.2.2.2.2.1
  eq7 : Dlaws_eqSolid n d.1.2.2.2.2.2.2.1 d.1.2.2.2.2.2.2.1 = some true
  to8 : Dlaws_toSolid n d.1.2.2.2.2.2.2.2 = some d.1.2.2.2.2.2.2.2
  eq8 : Dlaws_eqSolid n d.1.2.2.2.2.2.2.2 d.1.2.2.2.2.2.2.2 = some true
theorem DG.ev (d : S8 × B8) (h1 : tot d.1.1 ≤ 1048576) (h2 : tot d.1.2.1 ≤ 1048576) (h3 : tot d.1.2.2.1 ≤ 1048576) (h4 : tot d.1.2.2.2.1 ≤ 1048576) (h5 : tot d.1.2.2.2.2.1 ≤ 1048576) (h6 : tot d.1.2.2.2.2.2.1 ≤ 1048576) (h7 : tot d.1.2.2.2.2.2.2.1 ≤ 1048576) (h8 : tot d.1.2.2.2.2.2.2.2 ≤ 1048576) : Ev fun n => DG n d := by
  have q1 := (to _ h1).and (eqs _ h1)
  have q2 := (to _ h2).and (eqs _ h2)
  have q3 := (to _ h3).and (eqs _ h3)
  have q4 := (to _ h4).and (eqs _ h4)
  have q5 := (to _ h5).and (eqs _ h5)
  have q6 := (to _ h6).and (eqs _ h6)
  have q7 := (to _ h7).and (eqs _ h7)
  have q8 := (to _ h8).and (eqs _ h8)
  refine (q1.and (q2.and (q3.and (q4.and (q5.and (q6.and (q7.and (q8)))))))).mono fun n ⟨e1, e2, e3, e4, e5, e6, e7, e8⟩ => ?_
  exact ⟨e1.1, e1.2, e2.1, e2.2, e3.1, e3.2, e4.1, e4.2, e5.1, e5.2, e6.1, e6.2, e7.1, e7.2, e8.1, e8.2⟩
theorem toDesk {n : Nat} {d : S8 × B8} (G : DG n d) : Dlaws_toDesk n d = some d := by
  unfold Dlaws_toDesk Dlaws_toSolidA8 Dlaws_toBoolA8
  rw [G.to1, Option.bind_some, G.to2, Option.bind_some, G.to3, Option.bind_some, G.to4, Option.bind_some, G.to5, Option.bind_some, G.to6, Option.bind_some, G.to7, Option.bind_some, G.to8, Option.bind_some]
  rfl
theorem eqDesk {n : Nat} {d : S8 × B8} (G : DG n d) : Dlaws_eqDesk n d d = some true := by
  unfold Dlaws_eqDesk Dlaws_eqSolidA8 Dlaws_eqBoolA8
  simp only [G.eq1, G.eq2, G.eq3, G.eq4, G.eq5, G.eq6, G.eq7, G.eq8, Option.bind_some, Bool.not_true, frk_f, beq_self_eq_true]
theorem plain_DeskOk (d : S8 × B8) (h : Desk8 d) : ∃ n, Dlaws_FnExactDeskOk n d = some true := by
  have f := DF.ev d h
  have f0 := f
  obtain ⟨N0, hN0⟩ := f0
  obtain ⟨v, e, hv⟩ := szDesk (hN0 N0 (Nat.le_refl _))
  by_cases hc : v < 0
  · refine ⟨N0, ?_⟩
    unfold Dlaws_FnExactDeskOk
    rw [e, Option.bind_some, decide_eq_true hc, frk_t]
  · rcases hv with hv | ⟨t1, t2, t3, t4, t5, t6, t7, t8, -⟩
    · exact absurd hv hc
    obtain ⟨N, hN⟩ := f.and (DG.ev d t1 t2 t3 t4 t5 t6 t7 t8)
    obtain ⟨F, G⟩ := hN N (Nat.le_refl _)
    obtain ⟨r, hr, -⟩ := deskSome F
    obtain ⟨v', e', -⟩ := szDesk F
    refine ⟨N, ?_⟩
    unfold Dlaws_FnExactDeskOk
    rw [e', Option.bind_some]
    by_cases hc' : v' < 0
    · rw [decide_eq_true hc', frk_t]
    · rw [decide_eq_false hc', frk_f, toDesk G]
      simp only [Option.bind_some]
      rw [deskEq F, hr]
      simp only [Option.bind_some, beq_self_eq_true, Bool.not_true, frk_f, eqDesk G]
theorem sHeld {n : Nat} {d : S8 × B8} (F : DF n d) : Dspec_Held n d = Dimpl_Held n d := by
  obtain ⟨r, hr, hg⟩ := deskSome F
  unfold Dspec_Held Dimpl_Held
  rw [deskEq F, hr, Option.bind_some, Option.bind_some]
  cases r with
  | false => rfl
  | true =>
    obtain ⟨h1, h2, h3, h4, h5, h6, h7, h8⟩ := hg rfl
    rw [Bool.not_true, frk_f, heldOk F h1 h2 h3 h4 h5 h6 h7 h8, frk_t]
    simp only [F.cn1, F.cn2, F.cn3, F.cn4, F.cn5, F.cn6, F.cn7, F.cn8, Option.bind_some, frk_t]
theorem plain_Held (d : S8 × B8) (h : Desk8 d) : ∃ n, Dlaws_FnExactHeld n d = some true := by
  have f := DF.ev d h
  have f0 := f
  obtain ⟨N0, hN0⟩ := f0
  obtain ⟨v, e, hv⟩ := szDesk (hN0 N0 (Nat.le_refl _))
  by_cases hc : v < 0
  · refine ⟨N0, ?_⟩
    unfold Dlaws_FnExactHeld
    rw [e, Option.bind_some, decide_eq_true hc, frk_t]
  · rcases hv with hv | ⟨t1, t2, t3, t4, t5, t6, t7, t8, -⟩
    · exact absurd hv hc
    obtain ⟨N, hN⟩ := f.and (DG.ev d t1 t2 t3 t4 t5 t6 t7 t8)
    obtain ⟨F, G⟩ := hN N (Nat.le_refl _)
    obtain ⟨r, hr, hg⟩ := deskSome F
    obtain ⟨v', e', -⟩ := szDesk F
    refine ⟨N, ?_⟩
    unfold Dlaws_FnExactHeld
    rw [e', Option.bind_some]
    by_cases hc' : v' < 0
    · rw [decide_eq_true hc', frk_t]
    · rw [decide_eq_false hc', frk_f, toDesk G]
      simp only [Option.bind_some]
      rw [sHeld F]
      obtain ⟨q, hq⟩ : ∃ q, Dimpl_Held N d = some q := by
        unfold Dimpl_Held
        rw [deskEq F, hr, Option.bind_some]
        cases r with
        | false => exact ⟨0, rfl⟩
        | true =>
          obtain ⟨h1, h2, h3, h4, h5, h6, h7, h8⟩ := hg rfl
          rw [Bool.not_true, frk_f, heldOk F h1 h2 h3 h4 h5 h6 h7 h8]
          exact ⟨_, rfl⟩
      rw [hq]
      simp only [Option.bind_some, bne_self_eq_false, frk_f, eqDesk G, Bool.not_true]
end Evl.T
