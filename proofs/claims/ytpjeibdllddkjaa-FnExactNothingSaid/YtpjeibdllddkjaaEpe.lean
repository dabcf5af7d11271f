/- Room: a plane clashes with some of a list, in the program as in the reference. -/
import Derived.Test.YtpjeibdllddkjaaEpd
namespace Evl.T
open Go Evl

theorem frk_cond {α : Type} (b : Bool) (x y : Option α) : frk b x y = cond b x y := by cases b <;> rfl
theorem search {α : Type} {F : (Int → Option α) → Int → Option α} {len : Nat} {b : Nat → Bool} {hit miss : Option α} (hl : len ≤ big)
    (hF : ∀ rec (k : Nat), k < len → F rec (k : Int) = cond (b k) hit (rec (w64 ((k : Int) + 1)))) (hE : ∀ rec, F rec (len : Int) = miss) :
    ∀ (d k m : Nat), k + d = len → d < m → loopN F m (k : Int) = cond ((List.range' k d).any b) hit miss := by
  intro d
  induction d with
  | zero =>
    intro k m hk hm
    obtain ⟨m, rfl⟩ : ∃ j, m = j + 1 := ⟨m - 1, by omega⟩
    rw [loop_suc]
    have : k = len := by omega
    subst this
    rw [hE]; rfl
  | succ d ih =>
    intro k m hk hm
    obtain ⟨m, rfl⟩ : ∃ j, m = j + 1 := ⟨m - 1, by omega⟩
    rw [loop_suc, hF _ k (by omega), w64_suc (by omega), ih (k + 1) m (by omega) (by omega)]
    simp only [List.range'_succ, List.any_cons]
    cases b k <;> rfl

def gt (l : List Pl) (i : Nat) : Pl := (l[i]?).getD ⟨0, 0, 0, 0⟩
theorem gt_some {l : List Pl} {i : Nat} (h : i < l.length) : l[i]? = some (gt l i) := by
  unfold gt; rw [List.getElem?_eq_getElem h]; rfl
theorem gt_mem {l : List Pl} {i : Nat} (h : i < l.length) : gt l i ∈ l := by
  have := gt_some h
  exact List.mem_of_getElem? this
theorem gt_take {l : List Pl} {i j : Nat} (h : j < i) (hi : i ≤ l.length) : (l.take i)[j]? = some (gt l j) := by
  rw [List.getElem?_take_of_lt h]; exact gt_some (by omega)

def sAny4 (l : List Pl) (p : Pl) (i j : Nat) : Bool := (List.range' (j + 1) (l.length - (j + 1))).any fun k => cl4 (gt l i) (gt l j) (gt l k) p
def sAny3 (l : List Pl) (p : Pl) (i : Nat) : Bool := (List.range' (i + 1) (l.length - (i + 1))).any fun j => cl3 (gt l i) (gt l j) p || sAny4 l p i j
/-- Does a plane clash with some of a list? -/
def wth (l : List Pl) (p : Pl) : Bool := (List.range' 0 l.length).any fun i => cl2 (gt l i) p || sAny3 l p i
theorem lt_dec {a b : Nat} (h : a < b) : decide ((a : Int) < (b : Int)) = true := by simpa using h
theorem lt_self (a : Nat) : decide ((a : Int) < (a : Int)) = false := by simp

theorem sWith (l : List Pl) (p : Pl) (hl : ∀ q ∈ l, PB q) (hp : PB p) (hs : l.length ≤ big) (n : Nat) (hn : l.length + 6 ≤ n) : Dspec_l6With n l p = some (wth l p) := by
  have hg : ∀ {i}, i < l.length → PB (gt l i) := fun h => hl _ (gt_mem h)
  unfold Dspec_l6With
  have h := search (F := Dspec_l6With_2 n l (l.length : Int) p.A p.B p.C p.D) (len := l.length) (b := fun i => cl2 (gt l i) p || sAny3 l p i) (hit := some true) (miss := some false) hs ?_ ?_ l.length 0 n (by omega) (by omega)
  · rw [show (0 : Int) = ((0 : Nat) : Int) from rfl, h]
    unfold wth
    cases (List.range' 0 l.length).any fun i => cl2 (gt l i) p || sAny3 l p i <;> rfl
  · intro rec0 i hi
    unfold Dspec_l6With_2
    simp only [lt_dec hi, frk_t, lget_nat, gt_some hi, Option.bind_some]
    rw [sClash2 _ _ (hg hi) hp]
    simp only [Option.bind_some]
    have h := search (F := Dspec_l6With_1 n rec0 l (l.length : Int) p.A p.B p.C p.D (i : Int)) (len := l.length) (b := fun j => cl3 (gt l i) (gt l j) p || sAny4 l p i j) (hit := some true) (miss := rec0 (w64 ((i : Int) + 1))) hs ?_ ?_ (l.length - (i + 1)) (i + 1) n (by omega) (by omega)
    · rw [w64_suc (by omega), h]
      simp only [sAny3]
      cases cl2 (gt l i) p
      · rw [frk_f, Bool.false_or, w64_suc (show i < big by omega)]
      · rw [frk_t, Bool.true_or, cond_true]
    · intro rec1 j hj
      unfold Dspec_l6With_1
      simp only [lt_dec hj, frk_t, lget_nat, gt_some hi, gt_some hj, Option.bind_some]
      rw [sClash3 _ _ _ (hg hi) (hg hj) hp n (by omega)]
      simp only [Option.bind_some]
      have h := search (F := Dspec_l6With_0 n rec1 rec0 (i : Int) l (l.length : Int) p.A p.B p.C p.D (j : Int)) (len := l.length) (b := fun k => cl4 (gt l i) (gt l j) (gt l k) p) (hit := some true) (miss := rec1 (w64 ((j : Int) + 1))) hs ?_ ?_ (l.length - (j + 1)) (j + 1) n (by omega) (by omega)
      · rw [w64_suc (by omega), h]
        simp only [sAny4]
        cases cl3 (gt l i) (gt l j) p
        · rw [frk_f, Bool.false_or, w64_suc (show j < big by omega)]
        · rw [frk_t, Bool.true_or, cond_true]
      · intro rec2 k hk
        unfold Dspec_l6With_0
        simp only [lt_dec hk, frk_t, lget_nat, gt_some hi, gt_some hj, gt_some hk, Option.bind_some]
        rw [sClash4 _ _ _ _ (hg hi) (hg hj) (hg hk) hp n (by omega)]
        simp only [Option.bind_some, frk_cond]
      · intro rec2
        unfold Dspec_l6With_0
        simp only [lt_self, frk_f]
    · intro rec1
      unfold Dspec_l6With_1
      simp only [lt_self, frk_f]
  · intro rec0
    unfold Dspec_l6With_2
    simp only [lt_self, frk_f]

def iAny4 (l : List Pl) (p : Pl) (i j : Nat) : Bool := (List.range' 0 j).any fun k => cl4 (gt l k) (gt l j) (gt l i) p
def iAny3 (l : List Pl) (p : Pl) (i : Nat) : Bool := (List.range' 0 i).any fun j => cl3 (gt l j) (gt l i) p || iAny4 l p i j
def iAny2 (l : List Pl) (p : Pl) : Bool := (List.range' 0 l.length).any fun i => cl2 (gt l i) p || iAny3 l p i
theorem iAny_wth (l : List Pl) (p : Pl) : iAny2 l p = wth l p := by
  rw [Bool.eq_iff_iff]
  simp only [iAny2, iAny3, iAny4, wth, sAny3, sAny4, List.any_eq_true, List.mem_range'_1, Bool.or_eq_true]
  constructor
  · rintro ⟨i, hi, h | ⟨j, hj, h | ⟨k, hk, h⟩⟩⟩
    · exact ⟨i, hi, .inl h⟩
    · exact ⟨j, by omega, .inr ⟨i, by omega, .inl h⟩⟩
    · exact ⟨k, by omega, .inr ⟨j, by omega, .inr ⟨i, by omega, h⟩⟩⟩
  · rintro ⟨i, hi, h | ⟨j, hj, h | ⟨k, hk, h⟩⟩⟩
    · exact ⟨i, hi, .inl h⟩
    · exact ⟨j, by omega, .inr ⟨i, by omega, .inl h⟩⟩
    · exact ⟨k, by omega, .inr ⟨j, by omega, .inr ⟨i, by omega, h⟩⟩⟩

theorem iRoom (l : List Pl) (p : Pl) (hl : ∀ q ∈ l, PB q) (hp : PB p) (hs : l.length ≤ big) (n : Nat) (hn : l.length + 6 ≤ n) : Dimpl_room n l p = some (!wth l p) := by
  have hg : ∀ {i}, i < l.length → PB (gt l i) := fun h => hl _ (gt_mem h)
  have htl : ∀ {i}, i < l.length → (l.take i).length = i := fun h => by rw [List.length_take]; omega
  unfold Dimpl_room
  have h := search (F := Dimpl_room_2 n l l (l.length : Int) p.A p.B p.C p.D) (len := l.length) (b := fun i => cl2 (gt l i) p || iAny3 l p i) (hit := some false) (miss := some true) hs ?_ ?_ l.length 0 n (by omega) (by omega)
  · rw [show (0 : Int) = ((0 : Nat) : Int) from rfl, h, ← iAny_wth]
    unfold iAny2
    cases (List.range' 0 l.length).any fun i => cl2 (gt l i) p || iAny3 l p i <;> rfl
  · intro rec0 i hi
    unfold Dimpl_room_2
    simp only [lt_dec hi, frk_t, lget_nat, gt_some hi, Option.bind_some]
    rw [iClash2 _ _ _ (hg hi) hp]
    simp only [Option.bind_some, lsl_take l i (Nat.le_of_lt hi), htl hi]
    have h := search (F := Dimpl_room_1 n rec0 l l (l.length : Int) p.A p.B p.C p.D (i : Int) (l.take i) (i : Int) (gt l i).A (gt l i).B (gt l i).C (gt l i).D) (len := i) (b := fun j => cl3 (gt l j) (gt l i) p || iAny4 l p i j) (hit := some false) (miss := rec0 (w64 ((i : Int) + 1))) (by omega) ?_ ?_ i 0 n (by omega) (by omega)
    · rw [show (0 : Int) = ((0 : Nat) : Int) from rfl, h]
      simp only [iAny3]
      cases cl2 (gt l i) p
      · rw [frk_f, Bool.false_or]
      · rw [frk_t, Bool.true_or, cond_true]
    · intro rec1 j hj
      unfold Dimpl_room_1
      simp only [lt_dec hj, frk_t, lget_nat, gt_take hj (Nat.le_of_lt hi), Option.bind_some]
      rw [iClash3 _ _ _ (hg (by omega)) (hg hi) hp n (by omega)]
      simp only [Option.bind_some, lsl_take l j (by omega), htl (show j < l.length by omega)]
      have h := search (F := Dimpl_room_0 n rec1 rec0 (i : Int) (l.take i) (i : Int) (gt l i).A (gt l i).B (gt l i).C (gt l i).D l l (l.length : Int) p.A p.B p.C p.D (j : Int) (l.take j) (j : Int) (gt l j).A (gt l j).B (gt l j).C (gt l j).D) (len := j) (b := fun k => cl4 (gt l k) (gt l j) (gt l i) p) (hit := some false) (miss := rec1 (w64 ((j : Int) + 1))) (by omega) ?_ ?_ j 0 n (by omega) (by omega)
      · rw [show (0 : Int) = ((0 : Nat) : Int) from rfl, h]
        simp only [iAny4]
        cases cl3 (gt l j) (gt l i) p
        · rw [frk_f, Bool.false_or]
        · rw [frk_t, Bool.true_or, cond_true]
      · intro rec2 k hk
        unfold Dimpl_room_0
        simp only [lt_dec hk, frk_t, lget_nat, gt_take hk (show j ≤ l.length by omega), Option.bind_some]
        rw [iClash4 _ _ _ _ (hg (by omega)) (hg (by omega)) (hg hi) hp n (by omega)]
        simp only [Option.bind_some, frk_cond]
      · intro rec2
        unfold Dimpl_room_0
        simp only [lt_self, frk_f]
    · intro rec1
      unfold Dimpl_room_1
      simp only [lt_self, frk_f]
  · intro rec0
    unfold Dimpl_room_2
    simp only [lt_self, frk_f]
end Evl.T
