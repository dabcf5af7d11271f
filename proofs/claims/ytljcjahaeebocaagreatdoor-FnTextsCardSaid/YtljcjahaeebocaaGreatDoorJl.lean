/- Texts that belong together, joined. No condition. -/
import Derived.Test.YtljcjahaeebocaaGreatDoorJp
import Derived.Test.YtljcjahaeebocaaGreatDoorJm
/-! Egq -/
namespace Evl.T
open Go Evl

def bl' (l : List UInt8) : ByteArray := ⟨l.toArray⟩
theorem bl_size (l : List UInt8) : (bl' l).size = l.length := by simp [bl', ByteArray.size]
theorem bl_list (l : List UInt8) : (bl' l).data.toList = l := by simp [bl']
theorem bl_app (a b : List UInt8) : bl' a ++ bl' b = bl' (a ++ b) := by
  apply ByteArray.ext
  rw [ByteArray.data_append]
  simp [bl']
theorem scat_bl {a b : List UInt8} (h : a.length + b.length ≤ 1000000) : scat (bl' a) (bl' b) = some (bl' (a ++ b)) := by
  unfold scat
  rw [bl_size, bl_size, if_pos (by omega), bl_app]
theorem join_bl {L : List (List UInt8)} {s : List UInt8} (hL : L.length ≤ 1000000) (h : (Lib.join L s).length ≤ 1000000) : DJoin (L.map bl') (bl' s) = some (bl' (Lib.join L s)) := by
  have e : joinB (L.map bl') (bl' s) = bl' (Lib.join L s) := by
    unfold joinB
    rw [List.map_map, bl_list]
    have : (fun x : ByteArray => x.data.toList) ∘ bl' = id := by funext x; exact bl_list x
    rw [this, List.map_id]; rfl
  unfold DJoin
  rw [e, bl_size, List.length_map, if_pos ⟨by omega, by omega⟩]
theorem itoa_bl {a : Int} (h : a.natAbs ≤ 1000000) : DItoa a = some (bl' (Lib.itoa a)) := by
  unfold DItoa
  rw [if_pos ⟨by omega, by omega⟩]; rfl
/-- The decimal figures of a number below a thousand. -/
def dig3 (u : Nat) : List UInt8 := if u < 10 then [UInt8.ofNat (48 + u)] else if u < 100 then [UInt8.ofNat (48 + u / 10), UInt8.ofNat (48 + u % 10)] else [UInt8.ofNat (48 + u / 10 / 10), UInt8.ofNat (48 + u / 10 % 10), UInt8.ofNat (48 + u % 10)]
theorem dec3 {u : Nat} (h : u < 1000) : Lib.decDigits u = dig3 u := by
  unfold dig3
  by_cases h1 : u < 10
  · rw [if_pos h1, Lib.decDigits, dif_pos h1]
  · rw [if_neg h1, Lib.decDigits, dif_neg h1]
    by_cases h2 : u < 100
    · rw [if_pos h2, Lib.decDigits, dif_pos (by omega)]; rfl
    · rw [if_neg h2, Lib.decDigits, dif_neg (by omega), Lib.decDigits, dif_pos (by omega)]; rfl
theorem dig3_len (u : Nat) : (dig3 u).length ≤ 3 := by
  unfold dig3
  split
  · simp
  · split <;> simp
def sgb (g : Bool) : List UInt8 := if g then [45] else []
theorem itoa3 {a : Int} (h : a.natAbs < 1000) : Lib.itoa a = sgb (decide (a < 0)) ++ dig3 a.natAbs := by
  unfold Lib.itoa sgb
  by_cases h0 : a < 0
  · rw [if_pos h0, decide_eq_true h0, dec3 h]; rfl
  · rw [if_neg h0, decide_eq_false h0, show a.toNat = a.natAbs by omega, dec3 h]; rfl
theorem itoa_len {a : Int} (h : a.natAbs < 1000) : (Lib.itoa a).length ≤ 4 := by
  rw [itoa3 h, List.length_append]
  have := dig3_len a.natAbs
  have : (sgb (decide (a < 0))).length ≤ 1 := by unfold sgb; split <;> simp
  omega

end Evl.T

/-! Egr -/
namespace Evl.T
open Go Evl

/-- The text of a plane, of a list of planes. -/
def ptL (p : Pl) : List UInt8 := Lib.join [Lib.itoa p.A, Lib.itoa p.B, Lib.itoa p.C, Lib.itoa p.D] [32]
def paL (l : List Pl) : List UInt8 := Lib.join (l.map ptL) [44, 32]
theorem ptL_eq (p : Pl) : ptL p = Lib.itoa p.A ++ ([32] ++ Lib.itoa p.B ++ ([32] ++ Lib.itoa p.C ++ ([32] ++ Lib.itoa p.D))) := by
  unfold ptL; rw [Lib.join_cons]; simp [Lib.joinTail]
theorem ok_abs {p : Pl} (h : pOk p = true) : p.A.natAbs < 1000 ∧ p.B.natAbs < 1000 ∧ p.C.natAbs < 1000 ∧ p.D.natAbs < 1000 := by
  obtain ⟨h1, h2, h3, h4⟩ := pOk_PB h
  unfold B at h1 h2 h3 h4
  omega
theorem ptL_len {p : Pl} (h : pOk p = true) : (ptL p).length ≤ 19 := by
  obtain ⟨h1, h2, h3, h4⟩ := ok_abs h
  have := itoa_len h1; have := itoa_len h2; have := itoa_len h3; have := itoa_len h4
  rw [ptL_eq]
  simp only [List.length_append, List.length_cons, List.length_nil]
  omega
theorem iPlaneT {p : Pl} (h : pOk p = true) {n : Nat} (hn : 502 ≤ n) : Dimpl_PlaneText n p = some (bl' (ptL p)) := by
  obtain ⟨h1, h2, h3, h4⟩ := ok_abs h
  have hl := ptL_len h
  unfold Dimpl_PlaneText
  rw [iPlaneOk n p hn, Option.bind_some, h, Bool.not_true, frk_f, itoa_bl (by omega), Option.bind_some, chk_eq (by decide), itoa_bl (by omega), Option.bind_some, chk_eq (by decide), itoa_bl (by omega), Option.bind_some, chk_eq (by decide), itoa_bl (by omega), Option.bind_some, chk_eq (by decide)]
  have := join_bl (L := [Lib.itoa p.A, Lib.itoa p.B, Lib.itoa p.C, Lib.itoa p.D]) (s := [32]) (by simp) (by have := hl; unfold ptL at this; omega)
  show ((DJoin (List.map bl' [Lib.itoa p.A, Lib.itoa p.B, Lib.itoa p.C, Lib.itoa p.D]) (bl' [32])).bind fun v9 => some v9) = _
  rw [this]; rfl
theorem join_snoc (l : List (List UInt8)) (x s : List UInt8) : Lib.join (l ++ [x]) s = if l = [] then x else Lib.join l s ++ s ++ x := by
  cases l with
  | nil => rw [List.nil_append, Lib.join_one, if_pos rfl]
  | cons y l =>
    rw [if_neg (by simp), List.cons_append, Lib.join_cons, Lib.join_cons]
    simp [Lib.joinTail]
theorem paL_len : ∀ (l : List Pl), (∀ p ∈ l, pOk p = true) → (paL l).length ≤ 21 * l.length := by
  intro l h
  unfold paL
  cases l with
  | nil => simp [Lib.join_nil]
  | cons p l =>
    rw [List.map_cons, Lib.join_cons, List.length_append]
    have h1 := ptL_len (h p (by simp))
    have : ∀ r : List Pl, (∀ q ∈ r, pOk q = true) → (Lib.joinTail [44, 32] (r.map ptL)).length ≤ 21 * r.length := by
      intro r hr
      induction r with
      | nil => simp [Lib.joinTail]
      | cons q r ih =>
        have h2 := ptL_len (hr q (by simp))
        have h3 := ih fun x hx => hr x (by simp [hx])
        simp only [Lib.joinTail, List.map_cons, List.flatten_cons, List.length_append, List.length_cons, List.length_nil] at h3 ⊢
        omega
    have := this l fun q hq => h q (by simp [hq])
    simp only [List.length_cons]
    omega
theorem drop_getT {α : Type} {l r : List α} {x : α} {k : Nat} (h : l.drop k = x :: r) : k < l.length ∧ l[k]? = some x ∧ l.drop (k + 1) = r := by
  have hk : k < l.length := by
    apply Classical.byContradiction
    intro hn
    rw [List.drop_eq_nil_of_le (by omega)] at h; cases h
  rw [List.drop_eq_getElem_cons hk] at h
  cases h
  exact ⟨hk, List.getElem?_eq_getElem hk, rfl⟩
theorem take_ok {l : List Pl} (h : ∀ p ∈ l, pOk p = true) (k : Nat) : ∀ p ∈ l.take k, pOk p = true := fun p hp => h p (List.mem_of_mem_take hp)
theorem iPathL {l : List Pl} (h : ∀ p ∈ l, pOk p = true) (hl : l.length ≤ 24) {n : Nat} (hn : 502 ≤ n) : ∀ (r : List Pl) (k m : Nat), l.drop k = r → k ≤ l.length → r.length < m →
    loopN (Dimpl_PathText_2 n l (l.length : Int)) m ((k : Int), (l.take k).map fun p => bl' (ptL p)) = some (bl' (paL l)) := by
  intro r
  induction r with
  | nil =>
    intro k m hr hk hm
    obtain ⟨m, rfl⟩ : ∃ j, m = j + 1 := ⟨m - 1, by omega⟩
    have hk : k = l.length := by have := List.drop_eq_nil_iff.1 hr; omega
    rw [loop_suc]
    unfold Dimpl_PathText_2 Dimpl_PathText_1
    subst hk
    have e : (l.map fun p => bl' (ptL p)) = (l.map ptL).map bl' := by rw [List.map_map]; rfl
    simp only [lt_self, frk_f, List.take_length, e]
    rw [show ByteArray.mk #[44, 32] = bl' [44, 32] from rfl, join_bl (by simp; omega) (by have := paL_len l h; unfold paL at this; omega)]; rfl
  | cons x r ih =>
    intro k m hr hk hm
    simp only [List.length_cons] at hm
    obtain ⟨m, rfl⟩ : ∃ j, m = j + 1 := ⟨m - 1, by omega⟩
    obtain ⟨hkl, hx, hr'⟩ := drop_getT hr
    have hp := h x (by rw [← List.take_append_drop k l, hr]; simp)
    have e1 : l.take (k + 1) = l.take k ++ [x] := by rw [List.take_add_one, hx]; simp
    have ht : (l.take k).length = k := by rw [List.length_take]; omega
    rw [loop_suc]
    show frk (decide ((k : Int) < (l.length : Int))) ((lget l (k : Int)).bind fun v1 => (Dimpl_PlaneText n v1).bind fun v2 => chk (apB 16 (((l.take k).map fun p => bl' (ptL p)).length + 1)) _) _ = _
    rw [lt_dec hkl, frk_t, lget_nat, hx, Option.bind_some, iPlaneT hp hn, Option.bind_some, chk_eq (by rw [List.length_map, ht]; simp only [apB, Bool.and_eq_true, decide_eq_true_eq]; omega), w64_suc (by unfold big; omega)]
    have := ih (k + 1) m hr' (by omega) (by omega)
    rw [e1, List.map_append] at this
    exact this
end Evl.T

/-! Egs -/
namespace Evl.T
open Go Evl

/-- The text of a right solid. -/
def stL : Sol → List UInt8
  | .mk i _ [] => if i then [35] else [46]
  | .mk _ p [a, b] => [40] ++ ptL p ++ [32] ++ stL a ++ [32] ++ stL b ++ [41]
  | _ => []
theorem stL_leaf (i : Bool) (p : Pl) : stL (.mk i p []) = if i then [35] else [46] := rfl
theorem stL_node (i : Bool) (p : Pl) (a b : Sol) : stL (.mk i p [a, b]) = [40] ++ ptL p ++ [32] ++ stL a ++ [32] ++ stL b ++ [41] := rfl
theorem stL_len {s : Sol} {l : List Pl} (h : Rt s l) : (stL s).length ≤ 25 * nod s + 1 := by
  induction h with
  | @leaf i p path _ => rw [stL_leaf]; split <;> simp
  | @node p a b path hp _ _ _ _ _ iha ihb =>
    have := ptL_len hp
    rw [stL_node, nod2]
    simp only [List.length_append, List.length_cons, List.length_nil]
    omega
theorem treeI {s : Sol} {l : List Pl} (h : Rt s l) : nod s ≤ 1000 → E2 fun n m => loopN (Dimpl_Solid_text_b n) m s = some (bl' (stL s)) := by
  induction h with
  | @leaf i p path _ =>
    intro _
    refine E2.suc (E2.of fun n m => ?_)
    rw [loop_suc]
    cases i <;> rfl
  | @node p a b path hp _ _ _ ha hb iha ihb =>
    intro hn
    rw [nod2] at hn
    have la := stL_len ha
    have lb := stL_len hb
    have lp := ptL_len hp
    refine E2.suc ((iha (by omega)).and ((ihb (by omega)).and (e2_ge 502)) |>.mono fun n m ⟨a2, b2, hn, _⟩ => ?_)
    have fin : ∀ x y : Option ByteArray, x = some (bl' (stL a)) → y = some (bl' (stL b)) → ((scat (ByteArray.mk #[40]) (bl' (ptL p))).bind fun v2 => (scat v2 (ByteArray.mk #[32])).bind fun v3 => x.bind fun v5 => (scat v3 v5).bind fun v6 => (scat v6 (ByteArray.mk #[32])).bind fun v7 => y.bind fun v9 => (scat v7 v9).bind fun v10 => (scat v10 (ByteArray.mk #[41])).bind fun v11 => some v11) = some (bl' (stL (.mk false p [a, b]))) := by
      intro x y hx hy
      subst hx hy
      rw [show ByteArray.mk #[40] = bl' [40] from rfl, show ByteArray.mk #[32] = bl' [32] from rfl, show ByteArray.mk #[41] = bl' [41] from rfl, stL_node]
      rw [scat_bl (a := [40]) (b := ptL p) (by simp only [List.length_cons, List.length_nil]; omega), Option.bind_some]
      rw [scat_bl (a := [40] ++ ptL p) (b := [32]) (by simp only [List.length_append, List.length_cons, List.length_nil]; omega), Option.bind_some, Option.bind_some]
      rw [scat_bl (b := stL a) (by simp only [List.length_append, List.length_cons, List.length_nil]; omega), Option.bind_some]
      rw [scat_bl (b := [32]) (by simp only [List.length_append, List.length_cons, List.length_nil]; omega), Option.bind_some, Option.bind_some]
      rw [scat_bl (b := stL b) (by simp only [List.length_append, List.length_cons, List.length_nil]; omega), Option.bind_some]
      rw [scat_bl (b := [41]) (by simp only [List.length_append, List.length_cons, List.length_nil]; omega), Option.bind_some]
    rw [loop_suc]
    show ((Dimpl_PlaneText n p).bind fun v1 => _) = _
    rw [iPlaneT hp hn, Option.bind_some]
    exact fin _ _ a2 b2
end Evl.T

/-! Egn -/
namespace Evl.T
open Go Evl

/-- The byte at a place; 0 behind the end. -/
def pkv (t : ByteArray) (i : Int) : Int := (sget t i).getD 0
theorem pkv_end {t : ByteArray} {i : Int} (h : (t.size : Int) ≤ i) : pkv t i = 0 := by
  unfold pkv sget
  rw [dif_neg (by omega)]; rfl
theorem pkv_in {t : ByteArray} {i : Int} (h0 : 0 ≤ i) (h : i < (t.size : Int)) : sget t i = some (pkv t i) := by
  unfold pkv sget
  rw [dif_pos ⟨h0, by omega⟩]; rfl
theorem pkv_B (t : ByteArray) (i : Int) : 0 ≤ pkv t i ∧ pkv t i ≤ 255 := by
  unfold pkv sget
  split
  · rename_i h
    have := (t[i.toNat]'h.2).toNat_lt
    simp only [Option.getD_some]; omega
  · simp
theorem pkv_lt {t : ByteArray} {i : Int} (h : pkv t i ≠ 0) : i < (t.size : Int) := by
  apply Classical.byContradiction
  intro hn
  exact h (pkv_end (by omega))
theorem iPeek {t : ByteArray} {i : Int} (h0 : 0 ≤ i) : Dimpl_reader_peek (t, i, false) = some (pkv t i, (t, i, false)) := by
  unfold Dimpl_reader_peek Dimpl_reader_peek_0
  simp only [frk_f]
  by_cases h : (t.size : Int) ≤ i
  · rw [decide_eq_true (by simpa using h), frk_t, pkv_end h]
  · rw [decide_eq_false (by simpa using h), frk_f, pkv_in h0 (by omega)]; rfl
theorem iPeekB (t : ByteArray) (i : Int) : Dimpl_reader_peek (t, i, true) = some (0, (t, i, true)) := rfl
/-- A place of a text. -/
def At (t : ByteArray) (i : Int) : Prop := 0 ≤ i ∧ i ≤ (t.size : Int) ∧ t.size ≤ 1048576
theorem At.suc {t : ByteArray} {i : Int} (h : At t i) : w64 (i + 1) = i + 1 := w64_id (by have := h.1; omega) (by have := h.2; omega)
theorem iNumEnd (n : Nat) (mi : Bool) (v c : Int) (t : ByteArray) (i : Int) : Dimpl_reader_number_2 n mi v (c == 0) t i false = some (if mi then w64 (0 - v) else v, (t, i, c == 0)) := by
  unfold Dimpl_reader_number_2 Dimpl_reader_number_3
  cases mi <;> cases (c == 0) <;> rfl
theorem iFig {c : Int} : Dimpl_isFigure c = some (rIn c 48 57) := by
  unfold Dimpl_isFigure rIn
  cases decide (c ≥ 48) <;> rfl
/-- Does a number go on with this byte? -/
def goesN (mi : Bool) (v c b : Int) : Bool := rIn b 48 57 && (decide (c < 3) && (!((c == 1) && (v == 0)) && !(mi && ((c == 0) && (b == 48)))))
theorem iNumStep (n : Nat) (mi : Bool) (rec : Int × Int × ByteArray × Int × Bool → Option (Int × (ByteArray × Int × Bool))) (v c : Int) (t : ByteArray) (i : Int) (h : At t i) :
    Dimpl_reader_number_6 n mi rec (v, c, t, i, false) = if goesN mi v c (pkv t i) then rec (w64 (w64 (v * 10) + w64 (IntKind.u8.wrap (pkv t i - 48))), w64 (c + 1), t, w64 (i + 1), false) else some (if mi then w64 (0 - v) else v, (t, i, c == 0)) := by
  unfold Dimpl_reader_number_6 goesN Dimpl_reader_number_1 Dimpl_reader_number_4 Dimpl_reader_number_5
  simp only [iPeek h.1, Option.bind_some, iFig, iNumEnd]
  cases decide (c < 3) <;> cases rIn (pkv t i) 48 57 <;> cases (c == 1) <;> cases (v == 0) <;> cases mi <;> cases (c == 0) <;> cases (pkv t i == 48) <;> rfl
/-- What the readers do where no tree of two goes on. -/
def leafR (t : ByteArray) (i : Int) : Sol × (ByteArray × Int × Bool) := if pkv t i = 35 then (lfS true, (t, i + 1, false)) else if pkv t i = 46 then (lfS false, (t, i + 1, false)) else (lfS false, (t, i, true))
theorem iReadStep (n : Nat) (self : (ByteArray × Int × Bool) × Int → Option (Sol × (ByteArray × Int × Bool))) (t : ByteArray) (i d : Int) (h : At t i) :
    Dimpl_reader_tree_b n self ((t, i, false), d) = if pkv t i = 40 ∧ d < 24 then Dimpl_reader_tree_2 n self d false false 0 0 0 0 t i false else some (leafR t i) := by
  unfold Dimpl_reader_tree_b Dimpl_reader_tree_0 Dimpl_reader_tree_1 leafR
  simp only [iPeek h.1, Option.bind_some]
  by_cases h35 : pkv t i = 35
  · rw [h35, if_neg (by omega), if_pos rfl, h.suc]; rfl
  · have e35 : (pkv t i == 35) = false := by simpa using h35
    rw [e35, frk_f, if_neg h35]
    by_cases h46 : pkv t i = 46
    · rw [h46, if_neg (by omega), if_pos rfl, h.suc]; rfl
    · have e46 : (pkv t i == 46) = false := by simpa using h46
      rw [e46, frk_f, if_neg h46]
      by_cases h40 : pkv t i = 40
      · have e40 : (pkv t i != 40) = false := by simpa using h40
        rw [e40, frk_f]
        by_cases hd : d < 24
        · rw [decide_eq_false (by omega), if_pos ⟨h40, hd⟩]
        · rw [decide_eq_true (by omega), if_neg (fun h => hd h.2)]; rfl
      · have e40 : (pkv t i != 40) = true := by simpa using h40
        rw [e40, frk_t, if_neg (fun h => h40 h.1)]; rfl
end Evl.T

/-! Ese -/
namespace Evl.T
open Go Evl

def vl : List Int → Int
  | [] => 0
  | d :: l => d + 10000 * vl l
def Dg (l : List Int) : Prop := ∀ d ∈ l, 0 ≤ d ∧ d ≤ 9999
theorem Dg.head {d : Int} {l : List Int} (h : Dg (d :: l)) : 0 ≤ d ∧ d ≤ 9999 := h d (by simp)
theorem Dg.tail {d : Int} {l : List Int} (h : Dg (d :: l)) : Dg l := fun x hx => h x (by simp [hx])
theorem Dg.cons {d : Int} {l : List Int} (h1 : 0 ≤ d) (h2 : d ≤ 9999) (h : Dg l) : Dg (d :: l) := by
  intro x hx
  rcases List.mem_cons.1 hx with rfl | hx
  · exact ⟨h1, h2⟩
  · exact h x hx
theorem Dg.nil : Dg [] := fun _ h => absurd h (by simp)
theorem Dg.get {l : List Int} (h : Dg l) {i : Nat} {d : Int} (hd : l[i]? = some d) : 0 ≤ d ∧ d ≤ 9999 := h d (List.mem_of_getElem? hd)
theorem Dg.take {l : List Int} (h : Dg l) (i : Nat) : Dg (l.take i) := fun d hd => h d (List.mem_of_mem_take hd)
theorem Dg.drop {l : List Int} (h : Dg l) (i : Nat) : Dg (l.drop i) := fun d hd => h d (List.mem_of_mem_drop hd)
theorem vl_nn : ∀ {l : List Int}, Dg l → 0 ≤ vl l
  | [], _ => Int.le_refl _
  | d :: l, h => by have := vl_nn h.tail; have := h.head; unfold vl; omega
def dg (v : Nat) : List Int := if v = 0 then [] else ((v % 10000 : Nat) : Int) :: dg (v / 10000)
theorem dg_zero : dg 0 = [] := by rw [dg, if_pos rfl]
theorem dg_pos {v : Nat} (h : 0 < v) : dg v = ((v % 10000 : Nat) : Int) :: dg (v / 10000) := by rw [dg, if_neg (by omega)]
theorem Dg_dg (v : Nat) : Dg (dg v) := by
  induction v using Nat.strongRecOn with
  | ind v ih =>
    by_cases h : v = 0
    · subst h; rw [dg_zero]; exact Dg.nil
    · rw [dg_pos (by omega)]; exact Dg.cons (by omega) (by omega) (ih _ (by omega))
theorem vl_dg (v : Nat) : vl (dg v) = v := by
  induction v using Nat.strongRecOn with
  | ind v ih =>
    by_cases h : v = 0
    · subst h; rw [dg_zero]; rfl
    · rw [dg_pos (by omega)]; unfold vl; rw [ih _ (by omega)]; omega
theorem dg_inj {a b : Nat} (h : dg a = dg b) : a = b := by have := congrArg vl h; rw [vl_dg, vl_dg] at this; omega
theorem dg_len : ∀ (k v : Nat), v < 10000 ^ k → (dg v).length ≤ k
  | 0, v, h => by
      have : v = 0 := by simpa using h
      subst this; rw [dg_zero]; exact Nat.le_refl 0
  | k + 1, v, h => by
    by_cases h0 : v = 0
    · subst h0; rw [dg_zero]; simp
    · rw [dg_pos (by omega), List.length_cons]
      have := dg_len k (v / 10000) (by rw [Nat.pow_succ] at h; omega)
      omega
theorem dg_len3 {v : Nat} (h : v < 1000000000000) : (dg v).length ≤ 3 := dg_len 3 v (by simpa using h)
theorem dg_mono {a b : Nat} (h : b ≤ a) : (dg b).length ≤ (dg a).length := by
  induction a using Nat.strongRecOn generalizing b with
  | ind a ih =>
    by_cases h0 : b = 0
    · subst h0; rw [dg_zero]; simp
    · rw [dg_pos (v := b) (by omega), dg_pos (v := a) (by omega), List.length_cons, List.length_cons]
      have := ih (a / 10000) (by omega) (b := b / 10000) (by omega)
      omega
theorem dg_ne {v : Nat} : dg v ≠ [] ↔ 0 < v := by
  constructor
  · intro h
    by_cases h0 : v = 0
    · subst h0; exact absurd dg_zero h
    · omega
  · intro h; rw [dg_pos h]; simp
theorem dg_last (v : Nat) : (dg v).getLast? ≠ some 0 := by
  induction v using Nat.strongRecOn with
  | ind v ih =>
    by_cases h : v = 0
    · subst h; rw [dg_zero]; simp
    · rw [dg_pos (by omega)]
      by_cases h2 : v / 10000 = 0
      · rw [h2, dg_zero]; simp; omega
      · have := ih (v / 10000) (by omega)
        rw [dg_pos (v := v / 10000) (by omega)] at this ⊢
        rw [List.getLast?_cons_cons]; exact this
theorem dg_of : ∀ {l : List Int}, Dg l → l.getLast? ≠ some 0 → l = dg (vl l).toNat ∧ (l ≠ [] → 0 < vl l)
  | [], _, _ => ⟨by show [] = dg 0; rw [dg_zero], fun h => absurd rfl h⟩
  | [d], h, hl => by
    have hd := h.head
    have h0 : d ≠ 0 := by simpa using hl
    have e : vl [d] = d := by simp [vl]
    refine ⟨?_, fun _ => by rw [e]; omega⟩
    rw [e, dg_pos (by omega), show d.toNat / 10000 = 0 by omega, dg_zero]
    congr 1; omega
  | d :: e :: l, h, hl => by
    rw [List.getLast?_cons_cons] at hl
    obtain ⟨h1, h2⟩ := dg_of h.tail hl
    have h2 := h2 (by simp)
    have hd := h.head
    have e1 : vl (d :: e :: l) = d + 10000 * vl (e :: l) := rfl
    refine ⟨?_, fun _ => by omega⟩
    rw [e1, dg_pos (by omega), show (d + 10000 * vl (e :: l)).toNat / 10000 = (vl (e :: l)).toNat by omega, ← h1]
    congr 1; omega
theorem dg_of' {l : List Int} (h : Dg l) (hl : l.getLast? ≠ some 0) {v : Nat} (hv : vl l = v) : l = dg v := by
  have := (dg_of h hl).1; rw [hv] at this; exact this

theorem vl_app : ∀ (a b : List Int), vl (a ++ b) = vl a + 10000 ^ a.length * vl b
  | [], b => by simp [vl]
  | d :: a, b => by
    rw [List.cons_append]; show d + 10000 * vl (a ++ b) = (d + 10000 * vl a) + 10000 ^ (d :: a).length * vl b; rw [vl_app a b, List.length_cons, Int.pow_succ, Int.mul_add]
    have : (10000 : Int) ^ a.length * 10000 * vl b = 10000 * ((10000 : Int) ^ a.length * vl b) := by rw [Int.mul_comm ((10000 : Int) ^ a.length) 10000, Int.mul_assoc]
    omega
theorem vl_lt : ∀ {l : List Int}, Dg l → vl l < 10000 ^ l.length
  | [], _ => by simp [vl]
  | d :: l, h => by
    have := vl_lt h.tail; have := h.head
    unfold vl; rw [List.length_cons, Int.pow_succ]; omega
theorem vl_take_s {l : List Int} {i : Nat} {d : Int} (hd : l[i]? = some d) : vl (l.take (i + 1)) = vl (l.take i) + 10000 ^ i * d := by
  have hi := (List.getElem?_eq_some_iff.1 hd).1
  rw [List.take_add_one, hd, vl_app, List.length_take, Nat.min_eq_left (by omega)]
  simp [vl]
theorem vl_drop_s {l : List Int} {i : Nat} {d : Int} (hd : l[i]? = some d) : vl (l.drop i) = d + 10000 * vl (l.drop (i + 1)) := by
  obtain ⟨hi, he⟩ := List.getElem?_eq_some_iff.1 hd
  rw [List.drop_eq_getElem_cons hi, he]; rfl
theorem vl_drop_le {l : List Int} (h : Dg l) : ∀ (i : Nat), vl (l.drop i) ≤ vl l := by
  intro i
  induction i generalizing l with
  | zero => exact Int.le_refl _
  | succ i ih =>
    cases l with
    | nil => exact Int.le_refl _
    | cons d l =>
      have := ih h.tail; have := h.head; have := vl_nn h.tail
      rw [List.drop_succ_cons]
      have e : vl (d :: l) = d + 10000 * vl l := rfl
      omega

theorem apB8 {n : Nat} (h : n ≤ 1000000) : apB 8 n = true := by
  simp only [apB, Bool.and_eq_true, decide_eq_true_eq]; omega
theorem w64_prd {i : Nat} (h : i ≤ 1000000) : w64 (((i + 1 : Nat) : Int) - 1) = (i : Int) := by
  rw [w64_id (by omega) (by omega)]; omega
theorem dec_t {p : Prop} [Decidable p] (h : p) : decide p = true := by simp [h]
theorem dec_f {p : Prop} [Decidable p] (h : ¬ p) : decide p = false := by simp [h]

/-! l1Num -/
theorem numStep (n : Nat) (t0 : Bool) (t1 : List Int) (b : Bool) (rec0 : Int → Option Num) (a : Int) :
    Dspec_l1Num_2 n t0 t1 b rec0 a = frk (decide (a > 0)) ((lget t1 (w64 (a - 1))).bind fun v0 => frk (v0 == 0) (rec0 (w64 (a - 1))) (Dspec_l1Num_1 n t0 t1 a b)) (Dspec_l1Num_1 n t0 t1 a b) := rfl
theorem numEnd (n : Nat) (t0 : Bool) (l : List Int) (i : Nat) (b : Bool) (hi : i ≤ l.length) (hl : l.length ≤ 1000) :
    Dspec_l1Num_1 n t0 l (i : Int) b = some ⟨t0 && decide (0 < i), l.take i⟩ := by
  unfold Dspec_l1Num_1
  have hc : apB 8 (0 + (l.take i).length) = true := apB8 (by rw [List.length_take]; omega)
  rw [lsl_take _ _ hi]
  simp only [Option.bind_some]
  rw [chk_eq hc, chk_eq hc]
  cases t0
  · rw [frk_f]; rfl
  · rw [frk_t]
    have : decide ((i : Int) > 0) = decide (0 < i) := dec_iff (by omega)
    rw [this]; simp
theorem numLoop (n : Nat) (t0 b : Bool) (l : List Int) (hD : Dg l) (hl : l.length ≤ 1000) {v : Nat} (hv : vl l = v) : ∀ (i m : Nat), i ≤ l.length → vl (l.take i) = v → i < m →
    loopN (Dspec_l1Num_2 n t0 l b) m (i : Int) = some ⟨t0 && decide (0 < v), dg v⟩ := by
  intro i
  induction i with
  | zero =>
    intro m _ h0 hm
    obtain ⟨m, rfl⟩ : ∃ j, m = j + 1 := ⟨m - 1, by omega⟩
    have : v = 0 := by simp [vl] at h0; omega
    subst this
    rw [loop_suc, numStep, dec_f (by simp), frk_f, numEnd n t0 l 0 b (by omega) hl, dg_zero]
    rfl
  | succ i ih =>
    intro m hi h0 hm
    obtain ⟨m, rfl⟩ : ∃ j, m = j + 1 := ⟨m - 1, by omega⟩
    obtain ⟨d, hd⟩ : ∃ d, l[i]? = some d := ⟨l[i], List.getElem?_eq_getElem (by omega)⟩
    rw [loop_suc, numStep, dec_t (by omega), frk_t, w64_prd (by omega), lget_nat, hd, Option.bind_some]
    by_cases h : d = 0
    · subst h
      rw [show ((0 : Int) == 0) = true from rfl, frk_t]
      refine ih m (by omega) ?_ (by omega)
      rw [vl_take_s hd] at h0; omega
    · rw [show (d == 0) = false by simpa using h, frk_f, numEnd n t0 l (i + 1) b hi hl]
      have hlast : (l.take (i + 1)).getLast? ≠ some 0 := by
        rw [List.take_add_one, hd]; simpa using h
      have e := dg_of' (hD.take (i + 1)) hlast h0
      have hp := (dg_of (hD.take (i + 1)) hlast).2 (by rw [List.take_add_one, hd]; simp)
      rw [← e]
      have : decide (0 < i + 1) = decide (0 < v) := dec_iff ⟨fun _ => by omega, fun _ => by omega⟩
      rw [this]
theorem numOk (n : Nat) (t0 : Bool) (l : List Int) (hD : Dg l) (hl : l.length ≤ 1000) {v : Nat} (hv : vl l = v) (hn : l.length < n) : Dspec_l1Num n t0 l = some ⟨t0 && decide (0 < v), dg v⟩ := by
  unfold Dspec_l1Num
  exact numLoop n t0 false l hD hl hv l.length n (Nat.le_refl _) (by rw [List.take_length]; exact hv) hn

/-! Of -/
theorem ofStep (n : Nat) (t0 : Int) (b : Bool) (rec0 : (Int × List Int) → Option Num) (t3 : Int) (l : List Int) :
    Dspec_Of_2 n t0 b rec0 (t3, l) = frk (decide (t3 > 0)) (chk (apB 8 (l.length + 1)) (rec0 (IntKind.u64.wrap (Int.tdiv t3 10000), (l ++ [w64 (Int.tmod t3 10000)])))) (Dspec_Of_1 n t0 b l) := rfl
theorem u64w {x : Int} (h : 0 ≤ x) (h2 : x < 18446744073709551616) : IntKind.u64.wrap x = x := by
  have : IntKind.u64.wrap x = x % 18446744073709551616 := rfl
  omega
theorem ofLoop (n : Nat) (t0 : Int) (b : Bool) : ∀ (v : Nat) (l : List Int) (m : Nat), v < 18446744073709551616 → l.length + (dg v).length ≤ 1000 → (dg v).length < m →
    loopN (Dspec_Of_2 n t0 b) m ((v : Int), l) = Dspec_Of_1 n t0 b (l ++ dg v) := by
  intro v
  induction v using Nat.strongRecOn with
  | ind v ih =>
    intro l m h0 h1 hm
    obtain ⟨m, rfl⟩ : ∃ j, m = j + 1 := ⟨m - 1, by omega⟩
    rw [loop_suc, ofStep]
    by_cases h : v = 0
    · subst h; rw [dec_f (by simp), frk_f, dg_zero, List.append_nil]
    · rw [dec_t (by omega), frk_t]
      rw [dg_pos (by omega)] at h1 hm ⊢
      rw [List.length_cons] at h1 hm
      rw [chk_eq (apB8 (by omega))]
      have e1 : IntKind.u64.wrap (Int.tdiv (v : Int) 10000) = ((v / 10000 : Nat) : Int) := by
        rw [Int.tdiv_eq_ediv_of_nonneg (by omega), u64w (by omega) (by omega)]; omega
      have e2 : w64 (Int.tmod (v : Int) 10000) = ((v % 10000 : Nat) : Int) := by
        rw [Int.tmod_eq_emod_of_nonneg (by omega), w64_id (by omega) (by omega)]; omega
      rw [e1, e2, ih (v / 10000) (by omega) _ m (by omega) (by rw [List.length_append, List.length_singleton]; omega) (by omega), List.append_assoc]
      rfl
theorem ofOk (n : Nat) (x : Int) (h : x.natAbs < 1000000000000) (hn : 5 ≤ n) : Dspec_Of n x = some ⟨decide (x < 0), dg x.natAbs⟩ := by
  have hl := dg_len3 h
  have key : ∀ b, Dspec_Of_0 n x (x.natAbs : Int) b [] = some ⟨decide (x < 0), dg x.natAbs⟩ := by
    intro b
    unfold Dspec_Of_0
    rw [ofLoop n x b x.natAbs [] n (by omega) (by simp; omega) (by omega), List.nil_append]
    unfold Dspec_Of_1
    rw [numOk n _ _ (Dg_dg _) (by omega) (vl_dg _) (by omega), Option.bind_some]
    by_cases hx : x < 0
    · simp [hx]; omega
    · simp [hx]
  unfold Dspec_Of
  by_cases hx : x < 0
  · rw [dec_t hx, frk_t]
    have e : IntKind.u64.wrap ((IntKind.u64.wrap (w64 (0 - (w64 (x + 1))))) + 1) = (x.natAbs : Int) := by
      rw [w64_id (x := x + 1) (by omega) (by omega), w64_id (by omega) (by omega), u64w (x := 0 - (x + 1)) (by omega) (by omega), u64w (by omega) (by omega)]; omega
    rw [e, key]; rw [dec_t hx]
  · rw [dec_f hx, frk_f]
    have e : IntKind.u64.wrap x = (x.natAbs : Int) := by rw [u64w (by omega) (by omega)]; omega
    rw [e, key]; rw [dec_f hx]

/-! NumOk -/
theorem nokStep (n : Nat) (t3 : Int) (g : Bool) (l : List Int) (rec0 : Int → Option Bool) (a : Int) :
    Dspec_NumOk_2 n t3 g l rec0 a = frk (decide (a < t3)) (frk (decide (a ≤ 120)) ((lget l a).bind fun v0 => (Dspec_l1In v0 0 9999).bind fun v1 => frk (!v1) (some false) (rec0 (w64 (a + 1)))) (Dspec_NumOk_1 n t3 g l)) (Dspec_NumOk_1 n t3 g l) := rfl
theorem nokEnd (n : Nat) (g : Bool) (v : Nat) (hl : (dg v).length ≤ 100) (hg : g = true → 0 < v) : Dspec_NumOk_1 n ((dg v).length : Int) g (dg v) = some true := by
  unfold Dspec_NumOk_1
  rw [dec_t (by omega), frk_t]
  by_cases h : v = 0
  · subst h
    rw [dg_zero]
    have : g = false := by cases g with
      | false => rfl
      | true => have := hg rfl; omega
    subst this; rfl
  · have hp := List.length_pos_iff.2 (dg_ne.2 (show 0 < v by omega))
    obtain ⟨k, hk⟩ : ∃ k, (dg v).length = k + 1 := ⟨(dg v).length - 1, by omega⟩
    have hla := dg_last v
    rw [List.getLast?_eq_getElem?, hk] at hla
    obtain ⟨d, hd⟩ : ∃ d, (dg v)[k]? = some d := ⟨(dg v)[k], List.getElem?_eq_getElem (by omega)⟩
    rw [Nat.add_sub_cancel, hd] at hla
    have hd0 : d ≠ 0 := by simpa using hla
    rw [hk, show (((k + 1 : Nat) : Int) == 0) = false by simp; omega, frk_f, dec_t (by omega), frk_t, w64_prd (by omega), lget_nat, hd, Option.bind_some]
    simpa using hd0
theorem nokLoop (n : Nat) (g : Bool) (v : Nat) (hl : (dg v).length ≤ 100) (hg : g = true → 0 < v) : ∀ (k i m : Nat), i + k = (dg v).length → k < m →
    loopN (Dspec_NumOk_2 n ((dg v).length : Int) g (dg v)) m (i : Int) = some true := by
  intro k
  induction k with
  | zero =>
    intro i m h0 hm
    obtain ⟨m, rfl⟩ : ∃ j, m = j + 1 := ⟨m - 1, by omega⟩
    rw [loop_suc, nokStep, dec_f (by omega), frk_f, nokEnd n g v hl hg]
  | succ k ih =>
    intro i m h0 hm
    obtain ⟨m, rfl⟩ : ∃ j, m = j + 1 := ⟨m - 1, by omega⟩
    obtain ⟨d, hd⟩ : ∃ d, (dg v)[i]? = some d := ⟨(dg v)[i], List.getElem?_eq_getElem (by omega)⟩
    have := (Dg_dg v).get hd
    rw [loop_suc, nokStep, dec_t (by omega), frk_t, dec_t (by omega), frk_t, lget_nat, hd, Option.bind_some, sIn, Option.bind_some, rIn_iff.2 this, Bool.not_true, frk_f, w64_suc (by unfold big; omega)]
    exact ih (i + 1) m (by omega) (by omega)
theorem nokOk (n : Nat) (g : Bool) (v : Nat) (hv : v < 1000000000000) (hg : g = true → 0 < v) (hn : 5 ≤ n) : Dspec_NumOk n ⟨g, dg v⟩ = some true := by
  have hl := dg_len3 hv
  unfold Dspec_NumOk
  exact nokLoop n g v (by omega) hg (dg v).length 0 n (by omega) (by omega)
theorem magOk (n : Nat) (g : Bool) (v : Nat) (hv : v < 1000000000000) (hg : g = true → 0 < v) (hn : 5 ≤ n) : Dspec_l1Mag n ⟨g, dg v⟩ = some (dg v) := by
  unfold Dspec_l1Mag; rw [nokOk n g v hv hg hn]; rfl
theorem signOk (n : Nat) (g : Bool) (v : Nat) (hv : v < 1000000000000) (hg : g = true → 0 < v) (hn : 5 ≤ n) : Dspec_l1Sign n ⟨g, dg v⟩ = some g := by
  unfold Dspec_l1Sign; rw [nokOk n g v hv hg hn]; rfl
end Evl.T

/-! Egp -/
namespace Evl.T
open Go Evl

/-! bytes of a text -/
theorem pkv_drop {L w : List UInt8} {k : Nat} {c : UInt8} (h : L.drop k = c :: w) : pkv (bl' L) (k : Int) = (c.toNat : Int) ∧ k < L.length ∧ L.drop (k + 1) = w := by
  obtain ⟨h1, h2, h3⟩ := drop_getT h
  refine ⟨?_, h1, h3⟩
  unfold pkv sget
  have hk : k < (bl' L).size := by rw [bl_size]; exact h1
  rw [dif_pos ⟨by omega, by simpa using hk⟩]
  have e : (bl' L)[(k : Int).toNat]'(by simpa using hk) = c := by
    rw [List.getElem?_eq_getElem h1] at h2
    have := Option.some.inj h2
    rw [← this]; rfl
  rw [e]; rfl
theorem pkv_nil {L : List UInt8} {k : Nat} (h : L.drop k = []) : pkv (bl' L) (k : Int) = 0 := by
  have := List.drop_eq_nil_iff.1 h
  exact pkv_end (by rw [bl_size]; omega)
theorem at_bl {L : List UInt8} {k : Nat} (h : k ≤ L.length) (hl : L.length ≤ 1048576) : At (bl' L) (k : Int) := ⟨by omega, by rw [bl_size]; omega, by rw [bl_size]; omega⟩
/-- What stands behind is no figure. -/
def NoFig (w : List UInt8) : Prop := ∀ c v, w = c :: v → rIn (c.toNat : Int) 48 57 = false
theorem noFig_pk {L w : List UInt8} {k : Nat} (h : L.drop k = w) (hn : NoFig w) : rIn (pkv (bl' L) (k : Int)) 48 57 = false := by
  cases w with
  | nil => rw [pkv_nil h]; rfl
  | cons c v => rw [(pkv_drop h).1]; exact hn c v rfl
theorem noFig32 (w : List UInt8) : NoFig (32 :: w) := fun c v e => by cases e; rfl

/-! numbers -/
theorem figStep {n m : Nat} {mi : Bool} {v c : Nat} {L w : List UInt8} {k d : Nat} (hl : L.length ≤ 1048576) (hd : d < 10) (h : L.drop k = UInt8.ofNat (48 + d) :: w) (hc : c < 3) (h1 : c = 1 → v ≠ 0) (h2 : mi = true → c = 0 → d ≠ 0) (hv : v ≤ 99) :
    loopN (Dimpl_reader_number_6 n mi) (m + 1) ((v : Int), (c : Int), bl' L, (k : Int), false) = loopN (Dimpl_reader_number_6 n mi) m (((v * 10 + d : Nat) : Int), ((c + 1 : Nat) : Int), bl' L, ((k + 1 : Nat) : Int), false) := by
  obtain ⟨e, hk, -⟩ := pkv_drop h
  have ed : ((UInt8.ofNat (48 + d)).toNat : Int) = 48 + d := by
    have : (UInt8.ofNat (48 + d)).toNat = 48 + d := by simp; omega
    omega
  rw [ed] at e
  have hA := at_bl (k := k) (by omega) hl
  have hg : goesN mi (v : Int) (c : Int) (48 + (d : Int)) = true := by
    unfold goesN
    rw [rIn_iff.2 (by omega), dec_t (by omega)]
    have g1 : (((c : Int) == 1) && ((v : Int) == 0)) = false := by
      by_cases hc1 : c = 1
      · have := h1 hc1; simp; omega
      · have : ((c : Int) == 1) = false := by simp; omega
        rw [this]; rfl
    have g2 : (mi && (((c : Int) == 0) && ((48 + (d : Int)) == 48))) = false := by
      cases mi with
      | false => rfl
      | true =>
        by_cases hc0 : c = 0
        · have := h2 rfl hc0
          have : ((48 + (d : Int)) == 48) = false := by simp; omega
          rw [this]; simp
        · have : ((c : Int) == 0) = false := by simp; omega
          rw [this]; rfl
    rw [g1, g2]; rfl
  have w1 : w64 (w64 ((v : Int) * 10) + w64 (IntKind.u8.wrap (48 + (d : Int) - 48))) = ((v * 10 + d : Nat) : Int) := by
    have u : IntKind.u8.wrap (48 + (d : Int) - 48) = (d : Int) := by
      rw [show (48 : Int) + (d : Int) - 48 = (d : Int) by omega]
      unfold IntKind.wrap
      simp only [IntKind.bits, IntKind.signed]
      first
        | (rw [if_neg (by simp)]; omega)
        | (simp; omega)
        | omega
    rw [u, w64_id (x := (v : Int) * 10) (by omega) (by omega), w64_id (x := (d : Int)) (by omega) (by omega), w64_id (by omega) (by omega)]
    omega
  rw [loop_suc, iNumStep n mi _ _ _ _ _ hA, e, hg, if_pos rfl, w1, w64_suc (by unfold big; omega), w64_suc (by unfold big; omega)]
theorem figEnd {n m : Nat} {mi : Bool} {v c : Nat} {L : List UInt8} {k : Nat} (hl : L.length ≤ 1048576) (hk : k ≤ L.length) (h : rIn (pkv (bl' L) (k : Int)) 48 57 = false ∨ c = 3) (hc : c ≠ 0) (hv : v ≤ 1000) :
    loopN (Dimpl_reader_number_6 n mi) (m + 1) ((v : Int), (c : Int), bl' L, (k : Int), false) = some (if mi then -(v : Int) else v, (bl' L, (k : Int), false)) := by
  have hg : goesN mi (v : Int) (c : Int) (pkv (bl' L) (k : Int)) = false := by
    unfold goesN
    rcases h with h | h
    · rw [h]; rfl
    · rw [dec_f (show ¬ (c : Int) < 3 by omega)]; simp
  rw [loop_suc, iNumStep n mi _ _ _ _ _ (at_bl hk hl), hg]
  have : ((c : Int) == 0) = false := by simp; omega
  rw [this]
  cases mi
  · rfl
  · show some (w64 (0 - (v : Int)), _) = some (-(v : Int), _)
    rw [w64_id (by omega) (by omega)]; simp
theorem figs {n : Nat} {mi : Bool} {L w : List UInt8} {k u : Nat} (hl : L.length ≤ 1048576) (hu : u < 1000) (hm : mi = true → u ≠ 0) (h : L.drop k = dig3 u ++ w) (hw : NoFig w) (hn : 8 ≤ n) :
    loopN (Dimpl_reader_number_6 n mi) n (0, 0, bl' L, (k : Int), false) = some (if mi then -(u : Int) else u, (bl' L, ((k + (dig3 u).length : Nat) : Int), false)) := by
  obtain ⟨m, rfl⟩ : ∃ m, n = m + 4 := ⟨n - 4, by omega⟩
  have kl : ∀ {j : Nat} {v : List UInt8}, L.drop j = v → j ≤ L.length ∨ v = [] := fun {j v} e => by
    by_cases hj : j ≤ L.length
    · exact .inl hj
    · exact .inr (by rw [← e, List.drop_eq_nil_iff]; omega)
  unfold dig3 at h ⊢
  by_cases h1 : u < 10
  · rw [if_pos h1] at h ⊢
    have h : L.drop k = UInt8.ofNat (48 + u) :: w := h
    obtain ⟨-, hk, h'⟩ := pkv_drop h
    have s1 := figStep (n := m + 4) (m := m + 3) (mi := mi) (v := 0) (c := 0) hl h1 h (by omega) (by omega) (fun e _ => hm e) (by omega)
    simp only [Nat.zero_mul, Nat.zero_add] at s1
    refine Eq.trans s1 ?_
    exact figEnd hl (by omega) (.inl (noFig_pk h' hw)) (by omega) (by omega)
  · rw [if_neg h1] at h ⊢
    by_cases h2 : u < 100
    · rw [if_pos h2] at h ⊢
      have h : L.drop k = UInt8.ofNat (48 + u / 10) :: (UInt8.ofNat (48 + u % 10) :: w) := h
      obtain ⟨-, hk, h'⟩ := pkv_drop h
      obtain ⟨-, hk', h''⟩ := pkv_drop h'
      have s1 := figStep (n := m + 4) (m := m + 3) (mi := mi) (v := 0) (c := 0) hl (show u / 10 < 10 by omega) h (by omega) (by omega) (fun _ _ => by omega) (by omega)
      have s2 := figStep (n := m + 4) (m := m + 2) (mi := mi) (v := u / 10) (c := 1) hl (show u % 10 < 10 by omega) h' (by omega) (fun _ => by omega) (fun _ e => by cases e) (by omega)
      simp only [Nat.zero_mul, Nat.zero_add] at s1
      refine Eq.trans s1 (Eq.trans s2 ?_)
      rw [show u / 10 * 10 + u % 10 = u by omega]
      exact figEnd hl (by omega) (.inl (noFig_pk h'' hw)) (by omega) (by omega)
    · rw [if_neg h2] at h ⊢
      have h : L.drop k = UInt8.ofNat (48 + u / 10 / 10) :: (UInt8.ofNat (48 + u / 10 % 10) :: (UInt8.ofNat (48 + u % 10) :: w)) := h
      obtain ⟨-, hk, h'⟩ := pkv_drop h
      obtain ⟨-, hk', h''⟩ := pkv_drop h'
      obtain ⟨-, hk'', h3⟩ := pkv_drop h''
      have s1 := figStep (n := m + 4) (m := m + 3) (mi := mi) (v := 0) (c := 0) hl (show u / 10 / 10 < 10 by omega) h (by omega) (by omega) (fun _ _ => by omega) (by omega)
      have s2 := figStep (n := m + 4) (m := m + 2) (mi := mi) (v := u / 10 / 10) (c := 1) hl (show u / 10 % 10 < 10 by omega) h' (by omega) (fun _ => by omega) (fun _ e => by cases e) (by omega)
      have s3 := figStep (n := m + 4) (m := m + 1) (mi := mi) (v := u / 10 / 10 * 10 + u / 10 % 10) (c := 2) hl (show u % 10 < 10 by omega) h'' (by omega) (fun e => by cases e) (fun _ e => by cases e) (by omega)
      simp only [Nat.zero_mul, Nat.zero_add] at s1
      refine Eq.trans s1 (Eq.trans s2 (Eq.trans s3 ?_))
      rw [show (u / 10 / 10 * 10 + u / 10 % 10) * 10 + u % 10 = u by omega]
      exact figEnd hl (by omega) (.inr rfl) (by omega) (by omega)
theorem dig3_head (u : Nat) (hu : u < 1000) : ∃ d v, dig3 u = UInt8.ofNat (48 + d) :: v ∧ d < 10 := by
  unfold dig3
  split
  · exact ⟨u, [], rfl, by omega⟩
  · split
    · exact ⟨u / 10, _, rfl, by omega⟩
    · exact ⟨u / 10 / 10, _, rfl, by omega⟩
theorem numRead {a : Int} (ha : a.natAbs < 1000) {L w : List UInt8} {k : Nat} (hl : L.length ≤ 1048576) (h : L.drop k = Lib.itoa a ++ w) (hw : NoFig w) {n : Nat} (hn : 8 ≤ n) :
    Dimpl_reader_number n (bl' L, (k : Int), false) = some (a, (bl' L, ((k + (Lib.itoa a).length : Nat) : Int), false)) := by
  rw [itoa3 ha] at h ⊢
  by_cases h0 : a < 0
  · rw [dec_t h0] at h ⊢
    have h : L.drop k = 45 :: (dig3 a.natAbs ++ w) := h
    obtain ⟨e, hk, h'⟩ := pkv_drop h
    have e45 : pkv (bl' L) (k : Int) = 45 := e
    have hA := at_bl (k := k) (by omega) hl
    have := figs (n := n) (mi := true) hl ha (fun _ => by omega) h' hw hn
    unfold Dimpl_reader_number Dimpl_reader_number_0
    simp only [frk_t, iPeek hA.1, Option.bind_some, e45, beq_self_eq_true, hA.suc]
    refine Eq.trans this ?_
    rw [if_pos rfl, show -((a.natAbs : Nat) : Int) = a by omega, show k + 1 + (dig3 a.natAbs).length = k + (sgb true ++ dig3 a.natAbs).length by simp [sgb]; omega]
  · rw [dec_f h0] at h ⊢
    have h : L.drop k = dig3 a.natAbs ++ w := h
    obtain ⟨d, v, hd, hd10⟩ := dig3_head a.natAbs ha
    have hne : (pkv (bl' L) (k : Int) == 45) = false := by
      have h2 := h
      rw [hd] at h2
      rw [(pkv_drop h2).1]
      have : (UInt8.ofNat (48 + d)).toNat = 48 + d := by simp; omega
      rw [this]; simp; omega
    have hk : k ≤ L.length := by
      have h2 := h
      rw [hd] at h2
      have := (pkv_drop h2).2.1
      omega
    have hA := at_bl (k := k) hk hl
    have := figs (n := n) (mi := false) hl ha (fun e => by cases e) h hw hn
    unfold Dimpl_reader_number Dimpl_reader_number_0
    simp only [iPeek hA.1, Option.bind_some, hne, frk_f]
    refine Eq.trans this ?_
    rw [if_neg (by simp), show ((a.natAbs : Nat) : Int) = a by omega]; rfl
theorem takeRead {L w : List UInt8} {k : Nat} {c : UInt8} (hl : L.length ≤ 1048576) (h : L.drop k = c :: w) : Dimpl_reader_take (bl' L, (k : Int), false) (c.toNat : Int) = some (bl' L, ((k + 1 : Nat) : Int), false) := by
  obtain ⟨e, hk, -⟩ := pkv_drop h
  have hA := at_bl (k := k) (by omega) hl
  unfold Dimpl_reader_take Dimpl_reader_take_0
  rw [iPeek hA.1]
  simp only [frk_f, Option.bind_some, e, bne_self_eq_false, hA.suc, Bool.not_false, frk_t]; rfl
theorem takeEnd {L : List UInt8} {k : Nat} {c : Int} (hl : L.length ≤ 1048576) (hk : k ≤ L.length) (h : L.drop k = []) (hc : c ≠ 0) : Dimpl_reader_take (bl' L, (k : Int), false) c = some (bl' L, (k : Int), true) := by
  have hA := at_bl (k := k) hk hl
  have hne : (pkv (bl' L) (k : Int) != c) = true := by rw [pkv_nil h]; simpa using fun e => hc e.symm
  unfold Dimpl_reader_take
  rw [iPeek hA.1]
  simp only [Option.bind_some, hne, frk_t]
theorem drop_add {L u w : List UInt8} {k : Nat} (h : L.drop k = u ++ w) : L.drop (k + u.length) = w := by
  rw [← List.drop_drop, h, List.drop_left]
end Evl.T

/-! Egt -/
namespace Evl.T
open Go Evl

/-- How a subtree is read. -/
def Rd (L : List UInt8) (s : Sol) (d : Nat) : Prop := ∀ (k : Nat) (w : List UInt8), L.drop k = stL s ++ w → E2 fun n m => loopN (Dimpl_reader_tree_b n) m ((bl' L, (k : Int), false), (d : Int)) = some (s, (bl' L, ((k + (stL s).length : Nat) : Int), false))
theorem nodeRead {p : Pl} {a b : Sol} {L w : List UInt8} {k d : Nat} (hp : pOk p = true) (hl : L.length ≤ 1048576) (h : L.drop k = [40] ++ ptL p ++ [32] ++ stL a ++ [32] ++ stL b ++ w) (hd : d < 24) (ra : Rd L a (d + 1)) (rb : Rd L b (d + 1)) :
    E2 fun n m => loopN (Dimpl_reader_tree_b n) (m + 1) ((bl' L, (k : Int), false), (d : Int)) = (Dimpl_reader_take (bl' L, ((k + ([40] ++ ptL p ++ [32] ++ stL a ++ [32] ++ stL b).length : Nat) : Int), false) 41).bind fun v => some (.mk false p [a, b], v) := by
  obtain ⟨q1, q2, q3, q4⟩ := ok_abs hp
  have h0 : L.drop k = 40 :: (Lib.itoa p.A ++ (32 :: (Lib.itoa p.B ++ (32 :: (Lib.itoa p.C ++ (32 :: (Lib.itoa p.D ++ (32 :: (stL a ++ (32 :: (stL b ++ w))))))))))) := by
    rw [h, ptL_eq]; simp
  obtain ⟨e0, hk, h1⟩ := pkv_drop h0
  have e40 : pkv (bl' L) (k : Int) = 40 := e0
  have hA := at_bl (k := k) (by omega) hl
  have t32 : ∀ {j : Nat} {v : List UInt8}, L.drop j = 32 :: v → Dimpl_reader_take (bl' L, (j : Int), false) 32 = some (bl' L, ((j + 1 : Nat) : Int), false) ∧ L.drop (j + 1) = v := fun {j v} e => ⟨takeRead hl e, (pkv_drop e).2.2⟩
  have n1 := fun (n : Nat) (hn : 8 ≤ n) => numRead q1 hl h1 (noFig32 _) hn
  obtain ⟨t1, h2⟩ := t32 (drop_add h1)
  have n2 := fun (n : Nat) (hn : 8 ≤ n) => numRead q2 hl h2 (noFig32 _) hn
  obtain ⟨t2, h3⟩ := t32 (drop_add h2)
  have n3 := fun (n : Nat) (hn : 8 ≤ n) => numRead q3 hl h3 (noFig32 _) hn
  obtain ⟨t3, h4⟩ := t32 (drop_add h3)
  have n4 := fun (n : Nat) (hn : 8 ≤ n) => numRead q4 hl h4 (noFig32 _) hn
  obtain ⟨t4, h5⟩ := t32 (drop_add h4)
  have r5 := ra _ _ h5
  obtain ⟨t6, h6⟩ := t32 (drop_add h5)
  have r7 := rb _ _ h6
  refine (r5.and (r7.and (e2_ge 40))).mono fun n m ⟨g5, g7, hn, _⟩ => ?_
  have m1 := n1 n (by omega)
  have m2 := n2 n (by omega)
  have m3 := n3 n (by omega)
  have m4 := n4 n (by omega)
  rw [loop_suc, iReadStep n _ _ _ _ hA, if_pos ⟨e40, by omega⟩]
  unfold Dimpl_reader_tree_2
  have w1 : w64 ((k : Int) + 1) = ((k + 1 : Nat) : Int) := w64_suc (by unfold big; omega)
  have w2 : w64 ((d : Int) + 1) = ((d + 1 : Nat) : Int) := w64_suc (by unfold big; omega)
  simp only [frk_f, w1, w2, m1, t1, m2, t2, m3, t3, m4, t4, g5, t6, g7, Option.bind_some]
  have ep : k + 1 + (Lib.itoa p.A).length + 1 + (Lib.itoa p.B).length + 1 + (Lib.itoa p.C).length + 1 + (Lib.itoa p.D).length + 1 + (stL a).length + 1 + (stL b).length = k + ([40] ++ ptL p ++ [32] ++ stL a ++ [32] ++ stL b).length := by
    rw [ptL_eq]; simp only [List.length_append, List.length_cons, List.length_nil]; omega
  rw [ep]
  rfl
theorem len_snoc (u : List UInt8) : (u ++ [41]).length = u.length + 1 := by simp
theorem zPl_eq {p : Pl} (h : zPl p = true) : p = ⟨0, 0, 0, 0⟩ := by
  unfold zPl at h
  simp only [Bool.and_true, Bool.and_eq_true, beq_iff_eq] at h
  cases p; simp_all
theorem treeRead {s : Sol} {path : List Pl} (h : Rt s path) {L : List UInt8} (hl : L.length ≤ 1048576) : Rd L s path.length := by
  induction h with
  | @leaf i p path hz =>
    intro k w hd
    have ep := zPl_eq hz
    subst ep
    rw [stL_leaf] at hd ⊢
    cases i with
    | true =>
      have hd : L.drop k = 35 :: w := hd
      obtain ⟨e, hk, -⟩ := pkv_drop hd
      have e35 : pkv (bl' L) (k : Int) = 35 := e
      refine E2.suc (E2.of fun n m => ?_)
      rw [loop_suc, iReadStep n _ _ _ _ (at_bl (by omega) hl), if_neg (by rw [e35]; omega)]
      unfold leafR
      rw [if_pos e35]; rfl
    | false =>
      have hd : L.drop k = 46 :: w := hd
      obtain ⟨e, hk, -⟩ := pkv_drop hd
      have e46 : pkv (bl' L) (k : Int) = 46 := e
      refine E2.suc (E2.of fun n m => ?_)
      rw [loop_suc, iReadStep n _ _ _ _ (at_bl (by omega) hl), if_neg (by rw [e46]; omega)]
      unfold leafR
      rw [if_neg (by rw [e46]; omega), if_pos e46]; rfl
  | @node p a b path hp hpl _ _ _ _ iha ihb =>
    intro k w hd
    rw [List.length_append, List.length_singleton] at iha ihb
    rw [stL_node] at hd ⊢
    have h1 : L.drop k = ([40] ++ ptL p ++ [32] ++ stL a ++ [32] ++ stL b) ++ (41 :: w) := by rw [hd]; simp
    have hT : Dimpl_reader_take (bl' L, ((k + ([40] ++ ptL p ++ [32] ++ stL a ++ [32] ++ stL b).length : Nat) : Int), false) 41 = _ := takeRead hl (drop_add h1)
    refine E2.suc ((nodeRead (w := 41 :: w) hp hl h1 hpl iha ihb).mono fun n m e => ?_)
    rw [e, hT, Option.bind_some, len_snoc]; rfl
theorem stL_pos {s : Sol} {path : List Pl} (h : Rt s path) : 0 < (stL s).length := by
  cases h with
  | @leaf i p _ _ => rw [stL_leaf]; cases i <;> decide
  | node _ _ _ _ _ _ => rw [stL_node]; simp
/-- A text without its last byte ends too early. -/
theorem cutRead {s : Sol} (h : Rt s []) (hl : (stL s).length ≤ 1048576) : ∃ y, E2 fun n m => loopN (Dimpl_reader_tree_b n) m ((bl' (stL s).dropLast, 0, false), 0) = some (y, (bl' (stL s).dropLast, (((stL s).length - 1 : Nat) : Int), true)) := by
  cases h with
  | @leaf i p _ hz =>
    have e : (stL (.mk i p [])).dropLast = [] := by rw [stL_leaf]; cases i <;> rfl
    have e1 : (stL (.mk i p [])).length - 1 = 0 := by rw [stL_leaf]; cases i <;> rfl
    rw [e, e1]
    have pk : pkv (bl' []) 0 = 0 := pkv_nil (L := []) (k := 0) rfl
    have hA : At (bl' []) 0 := at_bl (L := []) (k := 0) (by simp) (by simp)
    refine ⟨lfS false, E2.suc (E2.of fun n m => ?_)⟩
    rw [loop_suc, iReadStep n _ _ _ _ hA, if_neg (by rw [pk]; omega)]
    unfold leafR
    rw [if_neg (by rw [pk]; omega), if_neg (by rw [pk]; omega)]; rfl
  | @node p a b _ hp _ _ _ ha hb =>
    have e : (stL (.mk false p [a, b])).dropLast = [40] ++ ptL p ++ [32] ++ stL a ++ [32] ++ stL b := by
      rw [stL_node, List.dropLast_concat]
    have e1 : (stL (.mk false p [a, b])).length - 1 = 0 + ([40] ++ ptL p ++ [32] ++ stL a ++ [32] ++ stL b).length := by
      rw [stL_node, len_snoc]; omega
    have hl' : ([40] ++ ptL p ++ [32] ++ stL a ++ [32] ++ stL b).length ≤ 1048576 := by
      rw [stL_node, len_snoc] at hl; omega
    rw [e, e1]
    have ra := treeRead ha hl'
    have rb := treeRead hb hl'
    have h0 : ([40] ++ ptL p ++ [32] ++ stL a ++ [32] ++ stL b).drop 0 = [40] ++ ptL p ++ [32] ++ stL a ++ [32] ++ stL b ++ [] := by rw [List.drop_zero, List.append_nil]
    have hT := takeEnd (L := [40] ++ ptL p ++ [32] ++ stL a ++ [32] ++ stL b) (k := 0 + ([40] ++ ptL p ++ [32] ++ stL a ++ [32] ++ stL b).length) (c := 41) hl' (by omega) (by rw [Nat.zero_add]; exact List.drop_length) (by decide)
    refine ⟨.mk false p [a, b], E2.suc ((nodeRead (d := 0) (w := []) hp hl' h0 (by omega) ra rb).mono fun n m e => ?_)⟩
    have e' : loopN (Dimpl_reader_tree_b n) (m + 1) ((bl' ([40] ++ ptL p ++ [32] ++ stL a ++ [32] ++ stL b), 0, false), 0) = _ := e
    rw [e', hT, Option.bind_some]

/-! texts parsed -/
open Classical in
theorem parse1 {s : Sol} (h : Right s) : Ev fun n => Dimpl_ParseSolid n (bl' (stL s)) = some (s, -1) := by
  have hl := stL_len h.1
  have := h.2
  have R := treeRead h.1 (L := stL s) (by omega) 0 [] (by simp)
  refine (R.ev.and (iSolidOk s)).mono fun n ⟨e, k⟩ => ?_
  have e' : loopN (Dimpl_reader_tree_b n) n ((bl' (stL s), 0, false), 0) = some (s, (bl' (stL s), ((0 + (stL s).length : Nat) : Int), false)) := e
  rw [Nat.zero_add] at e'
  unfold Dimpl_ParseSolid Dimpl_reader_tree Dimpl_ParseSolid_0
  rw [e']
  simp only [Option.bind_some, frk_f, bl_size, sol_eq', k, decide_eq_true h, Bool.not_true]
  rw [dec_f (by omega), frk_f]
theorem parse2 {s : Sol} (h : Right s) : Ev fun n => Dimpl_ParseSolid n (bl' (stL s ++ [32])) = some (lfS false, ((stL s).length : Int)) := by
  have hl := stL_len h.1
  have := h.2
  have R := treeRead h.1 (L := stL s ++ [32]) (by simp; omega) 0 [32] (by simp)
  refine R.ev.mono fun n e => ?_
  have e' : loopN (Dimpl_reader_tree_b n) n ((bl' (stL s ++ [32]), 0, false), 0) = some (s, (bl' (stL s ++ [32]), ((0 + (stL s).length : Nat) : Int), false)) := e
  rw [Nat.zero_add] at e'
  unfold Dimpl_ParseSolid Dimpl_reader_tree Dimpl_ParseSolid_0
  rw [e']
  simp only [Option.bind_some, frk_f, bl_size]
  rw [dec_t (by simp; omega), frk_t]; rfl
theorem parse3 {s : Sol} (h : Right s) : Ev fun n => Dimpl_ParseSolid n (bl' (stL s).dropLast) = some (lfS false, (((stL s).length - 1 : Nat) : Int)) := by
  have hl := stL_len h.1
  have := h.2
  obtain ⟨y, R⟩ := cutRead h.1 (by omega)
  refine R.ev.mono fun n e => ?_
  unfold Dimpl_ParseSolid Dimpl_reader_tree
  rw [e]; rfl
end Evl.T

/-! Ego -/
namespace Evl.T
open Go Evl

structure CelB (c : List Pl) : Prop where
  ok : ∀ q ∈ c, pOk q = true
  len : c.length ≤ 24
theorem ok_flpB {p : Pl} (h : pOk p = true) : pOk (flp p) = true := by
  have hp := pOk_PB h
  unfold pOk at h ⊢
  revert h
  obtain ⟨a, b, c, d⟩ := p
  obtain ⟨h1, h2, h3, h4⟩ := hp
  unfold B at h1 h2 h3 h4
  simp only at h1 h2 h3 h4
  unfold flp
  simp only [Int.zero_sub, Int.natAbs_neg, Bool.and_eq_true, Bool.or_eq_true, decide_eq_true_eq, bne_iff_ne, ne_eq, beq_iff_eq, rIn_iff, Int.neg_eq_zero]
  omega
theorem CelB.snoc {c : List Pl} {p : Pl} (h : CelB c) (hl : c.length < 24) (hp : pOk p = true) : CelB (c ++ [p]) :=
  ⟨fun q hq => by
    rcases List.mem_append.1 hq with hq | hq
    · exact h.ok q hq
    · rw [List.mem_singleton.1 hq]; exact hp, by rw [List.length_append, List.length_singleton]; omega⟩
theorem iClStepB (n : Nat) (self : (Sol × Bool × (List Pl)) → Option (List (List Pl))) (s : Sol) (b : Bool) (path : List Pl) :
    Dimpl_Solid_cells_b n self (s, b, path) = (Dimpl_Solid_isLeaf s).bind fun v0 => frk v0 (frk (s.inn == b) ((Dslices_Clone path).bind fun v1 => some [v1]) (some [])) ((lget s.kids 0).bind fun v2 => (Dimpl_with path s.pl).bind fun v3 => (self (v2, b, v3)).bind fun v4 => (lget s.kids 1).bind fun v5 => (Dimpl_flip s.pl).bind fun v6 => (Dimpl_with path v6).bind fun v7 => (self (v5, b, v7)).bind fun v8 => chk (apB 24 (v4.length + v8.length)) (some (v4 ++ v8))) := rfl
theorem aB24B {n : Nat} (h : n ≤ 1000000) : apB 24 n = true := by
  unfold apB; simp only [Bool.and_eq_true, decide_eq_true_eq]; omega
theorem aBig {n : Nat} (h : n ≤ 1000000000) : apB 32 n = true := by
  unfold apB; simp only [Bool.and_eq_true, decide_eq_true_eq]; omega
theorem clnB {l : List Pl} (h : l.length ≤ 1000) : Dslices_Clone l = some l := by
  unfold Dslices_Clone
  rw [chk_eq (aBig (by omega))]; rfl
theorem cellsI {s : Sol} {path : List Pl} (h : Rt s path) : CelB path → ∃ L : List (List Pl), (∀ c ∈ L, CelB c) ∧ L.length ≤ nod s + 1 ∧ E2 fun n m => nod s ≤ 1000 → loopN (Dimpl_Solid_cells_b n) m (s, true, path) = some L := by
  induction h with
  | @leaf i p path hz =>
    intro hc
    have hl := hc.len
    cases i with
    | true =>
      refine ⟨[path], fun c h => by rw [List.mem_singleton.1 h]; exact hc, by simp, E2.suc (E2.of fun n m _ => ?_)⟩
      rw [loop_suc, iClStepB]
      show frk true _ _ = _
      rw [frk_t]
      show frk true _ _ = _
      rw [frk_t, clnB (by omega)]; rfl
    | false => exact ⟨[], by simp, by simp, E2.suc (E2.of fun n m _ => by rw [loop_suc, iClStepB]; rfl)⟩
  | @node p x y path hp hl h1 h2 _ _ ihx ihy =>
    intro hc
    have hpb := pOk_PB hp
    obtain ⟨L1, c1, l1, e1⟩ := ihx (hc.snoc hl hp)
    obtain ⟨L2, c2, l2, e2⟩ := ihy (hc.snoc hl (ok_flpB hp))
    refine ⟨L1 ++ L2, fun c h => (List.mem_append.1 h).elim (c1 c) (c2 c), by rw [List.length_append, nod2]; omega, E2.suc ((e1.and e2).mono fun n m ⟨g1, g2⟩ hn => ?_)⟩
    rw [nod2] at hn
    have p2 := g1 (by omega)
    have p4 := g2 (by omega)
    rw [loop_suc, iClStepB]
    show ((Dimpl_with path p).bind fun v3 => (loopN (Dimpl_Solid_cells_b n) m (x, true, v3)).bind fun v4 => (Dimpl_flip p).bind fun v6 => (Dimpl_with path v6).bind fun v7 => (loopN (Dimpl_Solid_cells_b n) m (y, true, v7)).bind fun v8 => chk (apB 24 (v4.length + v8.length)) (some (v4 ++ v8))) = _
    rw [iPath _ _ (by omega), Option.bind_some, p2, Option.bind_some, iFlip p hpb, Option.bind_some, iPath _ _ (by omega), Option.bind_some, p4, Option.bind_some, chk_eq (aB24B (by omega))]
end Evl.T

/-! Eps -/
namespace Evl.T
open Go Evl

theorem wth_iff (l : List Pl) (p : Pl) : wth l p = true ↔ ∃ i, i < l.length ∧ (cl2 (gt l i) p = true ∨ ∃ j, i < j ∧ j < l.length ∧ (cl3 (gt l i) (gt l j) p = true ∨ ∃ k, j < k ∧ k < l.length ∧ cl4 (gt l i) (gt l j) (gt l k) p = true)) := by
  unfold wth sAny3 sAny4
  simp only [List.any_eq_true, List.mem_range'_1, Bool.or_eq_true]
  constructor
  · rintro ⟨i, hi, h | ⟨j, hj, h | ⟨k, hk, h⟩⟩⟩
    · exact ⟨i, by omega, .inl h⟩
    · exact ⟨i, by omega, .inr ⟨j, by omega, by omega, .inl h⟩⟩
    · exact ⟨i, by omega, .inr ⟨j, by omega, by omega, .inr ⟨k, by omega, by omega, h⟩⟩⟩
  · rintro ⟨i, hi, h | ⟨j, hj, hj2, h | ⟨k, hk, hk2, h⟩⟩⟩
    · exact ⟨i, by omega, .inl h⟩
    · exact ⟨i, by omega, .inr ⟨j, by omega, .inl h⟩⟩
    · exact ⟨i, by omega, .inr ⟨j, by omega, .inr ⟨k, by omega, h⟩⟩⟩
/-- One plane less: no clash comes. -/
theorem wth_less {l1 l2 : List Pl} {x p : Pl} (h : wth (l1 ++ x :: l2) p = false) : wth (l1 ++ l2) p = false := by
  have key : ¬ wth (l1 ++ x :: l2) p = true := by simp [h]
  rw [← Bool.not_eq_true]
  intro h2
  apply key
  rw [wth_iff] at h2 ⊢
  let f : Nat → Nat := fun i => if i < l1.length then i else i + 1
  have fd : ∀ i, f i = if i < l1.length then i else i + 1 := fun _ => rfl
  have f1 : ∀ i j, i < j → f i < f j := fun i j hij => by
    rw [fd, fd]
    split <;> split <;> omega
  have f2 : ∀ i, i < (l1 ++ l2).length → f i < (l1 ++ x :: l2).length := fun i hi => by
    simp only [List.length_append, List.length_cons] at hi ⊢
    rw [fd]
    split <;> omega
  have f3 : ∀ i, gt (l1 ++ x :: l2) (f i) = gt (l1 ++ l2) i := fun i => by
    unfold gt
    show (((l1 ++ x :: l2)[if i < l1.length then i else i + 1]?).getD _) = _
    split
    · rename_i hi; rw [List.getElem?_append_left hi, List.getElem?_append_left hi]
    · rename_i hi
      rw [List.getElem?_append_right (by omega), List.getElem?_append_right (by omega), show i + 1 - l1.length = (i - l1.length) + 1 by omega, List.getElem?_cons_succ]
  obtain ⟨i, hi, h | ⟨j, hj, hj2, h | ⟨k, hk, hk2, h⟩⟩⟩ := h2
  · exact ⟨f i, f2 i hi, .inl (by rw [f3]; exact h)⟩
  · exact ⟨f i, f2 i hi, .inr ⟨f j, f1 _ _ hj, f2 j hj2, .inl (by rw [f3, f3]; exact h)⟩⟩
  · exact ⟨f i, f2 i hi, .inr ⟨f j, f1 _ _ hj, f2 j hj2, .inr ⟨f k, f1 _ _ hk, f2 k hk2, by rw [f3, f3, f3]; exact h⟩⟩⟩
theorem Rt.less {s : Sol} {path : List Pl} (h : Rt s path) : ∀ (l1 l2 : List Pl) (x : Pl), path = l1 ++ x :: l2 → Rt s (l1 ++ l2) := by
  induction h with
  | leaf hz => intro _ _ _ _; exact .leaf hz
  | @node p a b path h1 h2 h3 h4 _ _ iha ihb =>
    intro l1 l2 x e
    subst e
    refine .node h1 (by simp at h2 ⊢; omega) (wth_less h3) (wth_less h4) ?_ ?_
    · have := iha l1 (l2 ++ [p]) x (by simp)
      simpa using this
    · have := ihb l1 (l2 ++ [flp p]) x (by simp)
      simpa using this
theorem Rt.lens {s : Sol} {path : List Pl} (h : Rt s path) : Lens s := by
  induction h with
  | leaf hz => exact .mk (by simp [big]) (by simp)
  | node _ _ _ _ _ _ iha ihb =>
    refine .mk (by simp [big]) fun x hx => ?_
    simp only [List.mem_cons, List.not_mem_nil, or_false] at hx
    rcases hx with rfl | rfl
    · exact iha
    · exact ihb
end Evl.T

/-! Epl -/
namespace Evl.T
open Go Evl

/-! the same tree -/
def plEq (p q : Pl) : Bool := p.A == q.A && (p.B == q.B && (p.C == q.C && (p.D == q.D && true)))
theorem plEq_iff (p q : Pl) : plEq p q = true ↔ p = q := by
  cases p; cases q; simp [plEq]
theorem plEq_no {p q : Pl} (h : p ≠ q) : plEq p q = false := by
  rw [← Bool.not_eq_true, plEq_iff]; exact h
theorem iSameStep (n : Nat) (self : Sol × Sol → Option Bool) (i j : Bool) (p q : Pl) (k l : List Sol) : Dimpl_SameTree_b n self (.mk i p k, .mk j q l) =
    frk (i == j) (frk (plEq p q) ((frk ((k.length : Int) != (l.length : Int)) (some false) (loopN (Dslices_EqualFuncfimpl_SameTree_in_0 n self l k (k.length : Int)) n 0)).bind fun v0 => some v0) (some false)) (some false) := rfl
open Classical in
theorem kidsLoop (self : Sol × Sol → Option Bool) (F : (Int → Option Bool) → Int → Option Bool) (k l : List Sol) (hl : k.length ≤ big) (hkl : k.length = l.length) (hs : ∀ x ∈ k, ∀ y, self (x, y) = some (decide (x = y)))
    (hF : ∀ rec (t : Int), F rec t = frk (decide (t < (k.length : Int))) ((lget k t).bind fun v0 => (lget l t).bind fun v1 => (self (v0, v1)).bind fun v2 => frk (!v2) (some false) (rec (w64 (t + 1)))) (some true)) (n : Nat) (hn : k.length < n) :
    loopN F n 0 = some (decide (k = l)) := by
  have := search (F := F) (len := k.length) (b := fun t => decide (k[t]? ≠ l[t]?)) (hit := some false) (miss := some true) hl ?_ ?_ k.length 0 n (by omega) hn
  · rw [show (0 : Int) = ((0 : Nat) : Int) from rfl, this]
    by_cases h : k = l
    · subst h
      have : (List.range' 0 k.length).any (fun t => decide (k[t]? ≠ k[t]?)) = false := by simp
      rw [this]; simp
    · have : (List.range' 0 k.length).any (fun t => decide (k[t]? ≠ l[t]?)) = true := by
        rw [List.any_eq_true]
        apply Classical.byContradiction
        intro hno
        apply h
        apply List.ext_getElem?
        intro t
        rcases Nat.lt_or_ge t k.length with ht | ht
        · apply Classical.byContradiction
          intro hne
          exact hno ⟨t, by simp; omega, by simpa using hne⟩
        · rw [List.getElem?_eq_none ht, List.getElem?_eq_none (by omega)]
      rw [this]; simp [h]
  · intro rec t ht
    obtain ⟨x, hx⟩ : ∃ x, k[t]? = some x := ⟨k[t], List.getElem?_eq_getElem ht⟩
    obtain ⟨y, hy⟩ : ∃ y, l[t]? = some y := ⟨l[t]'(by omega), List.getElem?_eq_getElem (by omega)⟩
    rw [hF, lt_dec ht, frk_t, lget_nat, lget_nat, hx, hy, Option.bind_some, Option.bind_some, hs x (List.mem_of_getElem? hx) y, Option.bind_some]
    by_cases h : x = y
    · subst h; simp [frk_f]
    · simp [h, frk_t]
  · intro rec
    rw [hF, lt_self, frk_f]
open Classical in
theorem iSame : ∀ a, Lens a → E2 fun n m => ∀ b, loopN (Dimpl_SameTree_b n) m (a, b) = some (decide (a = b)) := by
  refine sol_ind fun i p k ih hl => ?_
  cases hl with
  | mk hk hx =>
    have h1 := E2.all fun x hxm => ih x hxm (hx x hxm)
    have h2 : E2 fun n _ => k.length < n := ⟨k.length + 1, fun n hn _ _ => by omega⟩
    refine E2.suc ((h1.and h2).mono fun n m ⟨h1, h2⟩ b => ?_)
    obtain ⟨j, q, l⟩ := b
    rw [loop_suc, iSameStep]
    by_cases e1 : i = j
    · subst e1
      rw [beq_self_eq_true, frk_t]
      by_cases e2 : p = q
      · subst e2
        rw [(plEq_iff p p).2 rfl, frk_t]
        by_cases e3 : k.length = l.length
        · rw [show ((k.length : Int) != (l.length : Int)) = false by simp [e3], frk_f, kidsLoop _ (Dslices_EqualFuncfimpl_SameTree_in_0 n (loopN (Dimpl_SameTree_b n) m) l k (k.length : Int)) k l hk e3 h1 (fun _ _ => rfl) n h2]
          simp
        · rw [show ((k.length : Int) != (l.length : Int)) = true by simp; omega, frk_t]
          have : k ≠ l := fun e => e3 (by rw [e])
          simp [this]
      · rw [plEq_no e2, frk_f]; simp [e2]
    · rw [show (i == j) = false by simp [e1], frk_f]; simp [e1]
end Evl.T

/-! Epo -/
namespace Evl.T
open Go Evl

/-! lists with weights -/
def sm (f : Pl → Int) : List (Int × Pl) → Int
  | [] => 0
  | x :: r => x.1 * f x.2 + sm f r
theorem sm_cons (f : Pl → Int) (x : Int × Pl) (r : List (Int × Pl)) : sm f (x :: r) = x.1 * f x.2 + sm f r := rfl
theorem sm_nil (f : Pl → Int) : sm f [] = 0 := rfl
/-- Weights above 0 on planes whose normals cancel each other, and whose Ds do not come above 0. -/
structure Cert (c : List (Int × Pl)) : Prop where
  pos : ∀ x ∈ c, 0 < x.1
  a : sm Pl.A c = 0
  b : sm Pl.B c = 0
  cc : sm Pl.C c = 0
  d : sm Pl.D c ≤ 0
  ne : c ≠ []
def tw (t : List (Int × Int × Pl)) : List (Int × Pl) := t.map fun x => (x.1, x.2.2)
def tv (t : List (Int × Int × Pl)) : List (Int × Pl) := t.map fun x => (x.2.1, x.2.2)
def tm (a b : Int) (t : List (Int × Int × Pl)) : List (Int × Pl) := t.map fun x => (a * x.1 + b * x.2.1, x.2.2)
theorem sm_tm (f : Pl → Int) (a b : Int) (t : List (Int × Int × Pl)) : sm f (tm a b t) = a * sm f (tw t) + b * sm f (tv t) := by
  induction t with
  | nil => simp [tm, tw, tv, sm]
  | cons x r ih =>
    simp only [tm, tw, tv, List.map_cons, sm_cons] at ih ⊢
    rw [ih]; grind
def pst (c : List (Int × Pl)) : List (Int × Pl) := c.filter fun x => decide (0 < x.1)
theorem sm_pst (f : Pl → Int) (c : List (Int × Pl)) (h : ∀ x ∈ c, 0 ≤ x.1) : sm f (pst c) = sm f c := by
  induction c with
  | nil => rfl
  | cons x r ih =>
    have ih := ih fun y hy => h y (List.mem_cons_of_mem _ hy)
    have hx := h x List.mem_cons_self
    unfold pst at ih ⊢
    by_cases hp : 0 < x.1
    · rw [List.filter_cons_of_pos (by simpa using hp), sm_cons, sm_cons, ih]
    · rw [List.filter_cons_of_neg (by simpa using hp), sm_cons, ih, show x.1 = 0 by omega]; omega
theorem pst_pos {c : List (Int × Pl)} {x : Int × Pl} (h : x ∈ pst c) : 0 < x.1 := by
  unfold pst at h; simpa using (List.mem_filter.1 h).2
theorem pst_sub (c : List (Int × Pl)) : (pst c).Sublist c := List.filter_sublist
theorem pst_lt {c : List (Int × Pl)} {x : Int × Pl} (h : x ∈ c) (h0 : x.1 = 0) : (pst c).length < c.length := by
  rcases Nat.lt_or_ge (pst c).length c.length with h1 | h1
  · exact h1
  · have e := (pst_sub c).eq_of_length_le h1
    rw [← e] at h; have := pst_pos h; omega

theorem mul_can {a b c : Int} (h : a * c ≤ b * c) (hc : 0 < c) : a ≤ b := Int.le_of_mul_le_mul_right h hc
/-- An entry whose second weight is greatest by its first. -/
theorem most (t : List (Int × Int × Pl)) (h : ∀ x ∈ t, 0 < x.1) (hn : t ≠ []) : ∃ m ∈ t, ∀ x ∈ t, x.2.1 * m.1 ≤ m.2.1 * x.1 := by
  induction t with
  | nil => exact absurd rfl hn
  | cons x r ih =>
    have hx := h x List.mem_cons_self
    by_cases hr : r = []
    · subst hr
      exact ⟨x, List.mem_cons_self, fun y hy => by rw [List.mem_singleton.1 hy]; exact Int.le_refl _⟩
    · obtain ⟨m, hm, h1⟩ := ih (fun y hy => h y (List.mem_cons_of_mem _ hy)) hr
      have hmp := h m (List.mem_cons_of_mem _ hm)
      by_cases hc : x.2.1 * m.1 ≤ m.2.1 * x.1
      · refine ⟨m, List.mem_cons_of_mem _ hm, fun y hy => ?_⟩
        rcases List.mem_cons.1 hy with rfl | hy
        · exact hc
        · exact h1 y hy
      · refine ⟨x, List.mem_cons_self, fun y hy => ?_⟩
        rcases List.mem_cons.1 hy with rfl | hy
        · exact Int.le_refl _
        · have hyp := h y (List.mem_cons_of_mem _ hy)
          have h2 := h1 y hy
          refine mul_can (c := m.1) ?_ hmp
          have h3 : y.2.1 * m.1 * x.1 ≤ m.2.1 * y.1 * x.1 := Int.mul_le_mul_of_nonneg_right h2 (by omega)
          have h4 : m.2.1 * x.1 * y.1 ≤ x.2.1 * m.1 * y.1 := Int.mul_le_mul_of_nonneg_right (by omega) (by omega)
          have e1 : y.2.1 * x.1 * m.1 = y.2.1 * m.1 * x.1 := by grind
          have e2 : m.2.1 * y.1 * x.1 = m.2.1 * x.1 * y.1 := by grind
          have e3 : x.2.1 * y.1 * m.1 = x.2.1 * m.1 * y.1 := by grind
          omega
theorem least (t : List (Int × Int × Pl)) (h : ∀ x ∈ t, 0 < x.1) (hn : t ≠ []) : ∃ m ∈ t, ∀ x ∈ t, m.2.1 * x.1 ≤ x.2.1 * m.1 := by
  obtain ⟨m, hm, h1⟩ := most (t.map fun x => (x.1, -x.2.1, x.2.2)) (fun x hx => by
    obtain ⟨y, hy, rfl⟩ := List.mem_map.1 hx; exact h y hy) (by simpa using hn)
  obtain ⟨k, hk, rfl⟩ := List.mem_map.1 hm
  refine ⟨k, hk, fun x hx => ?_⟩
  have := h1 _ (List.mem_map.2 ⟨x, hx, rfl⟩)
  simp only [Int.neg_mul] at this
  omega
theorem snd_tm (a b : Int) (t : List (Int × Int × Pl)) : (tm a b t).map (·.2) = t.map (·.2.2) := by simp [tm]
/-- Where weights and another row that cancels go not alike, fewer planes do. -/
theorem red (t : List (Int × Int × Pl)) (hc : Cert (tw t)) (ha : sm Pl.A (tv t) = 0) (hb : sm Pl.B (tv t) = 0) (hcc : sm Pl.C (tv t) = 0)
    (hne : ∃ x ∈ t, ∃ y ∈ t, x.1 * y.2.1 ≠ y.1 * x.2.1) : ∃ c, Cert c ∧ c.length < t.length ∧ (c.map (·.2)).Sublist (t.map (·.2.2)) := by
  have hp : ∀ x ∈ t, 0 < x.1 := fun x hx => hc.pos _ (List.mem_map.2 ⟨x, hx, rfl⟩)
  obtain ⟨x, hx, y, hy, hxy⟩ := hne
  have hn : t ≠ [] := fun h => by rw [h] at hx; cases hx
  obtain ⟨m, hm, h1⟩ := most t hp hn
  obtain ⟨k, hk, h2⟩ := least t hp hn
  have hmp := hp m hm; have hkp := hp k hk
  have hlt : k.2.1 * m.1 < m.2.1 * k.1 := by
    rcases Int.lt_or_le (k.2.1 * m.1) (m.2.1 * k.1) with h | h
    · exact h
    · exfalso
      have same : ∀ z ∈ t, z.2.1 * m.1 = m.2.1 * z.1 := fun z hz => by
        have a1 := h1 z hz; have a2 := h2 z hz
        have hzp := hp z hz
        have b1 : m.2.1 * k.1 * z.1 ≤ k.2.1 * m.1 * z.1 := Int.mul_le_mul_of_nonneg_right h (by omega)
        have b2 : k.2.1 * z.1 * m.1 ≤ z.2.1 * k.1 * m.1 := Int.mul_le_mul_of_nonneg_right a2 (by omega)
        have b3 : m.2.1 * z.1 ≤ z.2.1 * m.1 := mul_can (c := k.1) (by
          have e1 : m.2.1 * z.1 * k.1 = m.2.1 * k.1 * z.1 := by grind
          have e2 : k.2.1 * m.1 * z.1 = k.2.1 * z.1 * m.1 := by grind
          have e3 : z.2.1 * m.1 * k.1 = z.2.1 * k.1 * m.1 := by grind
          omega) hkp
        omega
      have s1 := same x hx; have s2 := same y hy
      apply hxy
      have : (x.1 * y.2.1) * m.1 = (y.1 * x.2.1) * m.1 := by grind
      exact Int.eq_of_mul_eq_mul_right (by omega) this
  have main : ∀ (a b : Int), (∀ z ∈ t, 0 ≤ a * z.1 + b * z.2.1) → (∃ z ∈ t, 0 < a * z.1 + b * z.2.1) → (∃ z ∈ t, a * z.1 + b * z.2.1 = 0) → a * sm Pl.D (tw t) + b * sm Pl.D (tv t) ≤ 0 →
      ∃ c, Cert c ∧ c.length < t.length ∧ (c.map (·.2)).Sublist (t.map (·.2.2)) := by
    intro a b q1 q2 q3 q4
    have hge : ∀ z ∈ tm a b t, 0 ≤ z.1 := fun z hz => by obtain ⟨w, hw, rfl⟩ := List.mem_map.1 hz; exact q1 w hw
    refine ⟨pst (tm a b t), ⟨fun z hz => pst_pos hz, ?_, ?_, ?_, ?_, ?_⟩, ?_, ?_⟩
    · rw [sm_pst _ _ hge, sm_tm, hc.a, ha]; simp
    · rw [sm_pst _ _ hge, sm_tm, hc.b, hb]; simp
    · rw [sm_pst _ _ hge, sm_tm, hc.cc, hcc]; simp
    · rw [sm_pst _ _ hge, sm_tm]; exact q4
    · obtain ⟨z, hz, h0⟩ := q2
      intro h
      have : (a * z.1 + b * z.2.1, z.2.2) ∈ pst (tm a b t) := List.mem_filter.2 ⟨List.mem_map.2 ⟨z, hz, rfl⟩, by simpa using h0⟩
      rw [h] at this; cases this
    · obtain ⟨z, hz, h0⟩ := q3
      have := pst_lt (c := tm a b t) (x := (a * z.1 + b * z.2.1, z.2.2)) (List.mem_map.2 ⟨z, hz, rfl⟩) h0
      rwa [show (tm a b t).length = t.length by simp [tm]] at this
    · rw [← snd_tm a b t]; exact (pst_sub _).map _
  have hD := hc.d
  by_cases hs : m.2.1 * sm Pl.D (tw t) + (-m.1) * sm Pl.D (tv t) ≤ 0
  · refine main m.2.1 (-m.1) (fun z hz => ?_) ⟨k, hk, ?_⟩ ⟨m, hm, ?_⟩ hs
    · have := h1 z hz; rw [Int.neg_mul, Int.mul_comm m.1]; omega
    · rw [Int.neg_mul, Int.mul_comm m.1]; omega
    · grind
  · refine main (-k.2.1) k.1 (fun z hz => ?_) ⟨m, hm, ?_⟩ ⟨k, hk, ?_⟩ ?_
    · have := h2 z hz; rw [Int.neg_mul, Int.mul_comm k.1]; omega
    · rw [Int.neg_mul, Int.mul_comm k.1]; omega
    · grind
    · have q1 : 0 < (m.2.1 * sm Pl.D (tw t) + (-m.1) * sm Pl.D (tv t)) * k.1 := Int.mul_pos (by omega) hkp
      have q2 : (m.2.1 * k.1 - k.2.1 * m.1) * sm Pl.D (tw t) ≤ 0 := Int.mul_nonpos_of_nonneg_of_nonpos (by omega) hD
      refine mul_can (c := m.1) ?_ hmp
      have e : ((-k.2.1) * sm Pl.D (tw t) + k.1 * sm Pl.D (tv t)) * m.1 = (m.2.1 * k.1 - k.2.1 * m.1) * sm Pl.D (tw t) - (m.2.1 * sm Pl.D (tw t) + (-m.1) * sm Pl.D (tv t)) * k.1 := by grind
      rw [e]; omega

/-! clashes and sublists -/
theorem sub_get {x : Pl} {r : List Pl} : ∀ {l : List Pl}, (x :: r).Sublist l → ∃ j, j < l.length ∧ gt l j = x ∧ r.Sublist (l.drop (j + 1)) := by
  intro l
  induction l with
  | nil => intro h; cases h
  | cons y l ih =>
    intro h
    cases h with
    | cons _ h =>
      obtain ⟨j, h1, h2, h3⟩ := ih h
      exact ⟨j + 1, by simp only [List.length_cons]; omega, h2, h3⟩
    | cons_cons _ h => exact ⟨0, by simp, rfl, h⟩
theorem gt_drop (l : List Pl) (i j : Nat) : gt (l.drop i) j = gt l (i + j) := by unfold gt; rw [List.getElem?_drop]
theorem get_sub {l : List Pl} {i : Nat} {r : List Pl} (h : i < l.length) (hr : r.Sublist (l.drop (i + 1))) : (gt l i :: r).Sublist (l.drop i) := by
  rw [List.drop_eq_getElem_cons h, show gt l i = l[i] by unfold gt; rw [List.getElem?_eq_getElem h]; rfl]
  exact hr.cons_cons _
theorem drop_up {l r : List Pl} {i j : Nat} (h : i ≤ j) (hr : r.Sublist (l.drop j)) : r.Sublist (l.drop i) := by
  have e : l.drop j = (l.drop i).drop (j - i) := by rw [List.drop_drop]; congr 1; omega
  rw [e] at hr
  exact hr.trans (List.drop_sublist _ _)
theorem drop_any {l r : List Pl} {j : Nat} (hr : r.Sublist (l.drop j)) : r.Sublist l := drop_up (Nat.zero_le j) hr
theorem wth_sub (l : List Pl) (p : Pl) : wth l p = true ↔ (∃ q, [q].Sublist l ∧ cl2 q p = true) ∨ (∃ q r, [q, r].Sublist l ∧ cl3 q r p = true) ∨ (∃ q r s, [q, r, s].Sublist l ∧ cl4 q r s p = true) := by
  rw [wth_iff]
  constructor
  · rintro ⟨i, hi, h | ⟨j, hj, hj2, h | ⟨k, hk, hk2, h⟩⟩⟩
    · exact .inl ⟨_, drop_any (get_sub hi (List.nil_sublist _)), h⟩
    · exact .inr (.inl ⟨_, _, drop_any (get_sub hi (drop_up (j := j) hj (get_sub hj2 (List.nil_sublist _)))), h⟩)
    · exact .inr (.inr ⟨_, _, _, drop_any (get_sub hi (drop_up (j := j) hj (get_sub hj2 (drop_up (j := k) hk (get_sub hk2 (List.nil_sublist _)))))), h⟩)
  · rintro (⟨q, h1, h⟩ | ⟨q, r, h1, h⟩ | ⟨q, r, s, h1, h⟩)
    · obtain ⟨i, hi, rfl, _⟩ := sub_get h1
      exact ⟨i, hi, .inl h⟩
    · obtain ⟨i, hi, rfl, h2⟩ := sub_get h1
      obtain ⟨j, hj, rfl, _⟩ := sub_get h2
      rw [gt_drop] at h; rw [List.length_drop] at hj
      exact ⟨i, hi, .inr ⟨i + 1 + j, by omega, by omega, .inl h⟩⟩
    · obtain ⟨i, hi, rfl, h2⟩ := sub_get h1
      obtain ⟨j, hj, rfl, h3⟩ := sub_get h2
      obtain ⟨k, hk, rfl, _⟩ := sub_get h3
      rw [gt_drop, gt_drop, gt_drop] at h; rw [List.length_drop] at hj hk; rw [List.length_drop] at hk
      exact ⟨i, hi, .inr ⟨i + 1 + j, by omega, by omega, .inr ⟨i + 1 + (j + 1 + k), by omega, by omega, h⟩⟩⟩

/-- A path that has room, as it grows. -/
inductive Opn : List Pl → Prop
  | nil : Opn []
  | snoc {l p} : Opn l → wth l p = false → Opn (l ++ [p])
theorem sub_snoc {r l : List Pl} {p q : Pl} (h : (r ++ [p]).Sublist (l ++ [q])) : (r ++ [p]).Sublist l ∨ (p = q ∧ r.Sublist l) := by
  have h := h.reverse
  rw [List.reverse_append, List.reverse_append] at h
  simp only [List.reverse_singleton, List.singleton_append] at h
  cases h with
  | cons _ h => left; have := h.reverse; simpa using this
  | cons_cons _ h => right; exact ⟨rfl, by have := h.reverse; simpa using this⟩
theorem Opn.last {l : List Pl} (h : Opn l) {r : List Pl} {p : Pl} (hs : (r ++ [p]).Sublist l) : ∃ l', r.Sublist l' ∧ wth l' p = false := by
  induction h with
  | nil => have := hs.length_le; simp at this
  | @snoc l q _ hw ih =>
    rcases sub_snoc hs with h | ⟨rfl, h⟩
    · exact ih h
    · exact ⟨l, h, hw⟩
/-- Is a plane's normal something? -/
def Nz (p : Pl) : Prop := p.A ≠ 0 ∨ p.B ≠ 0 ∨ p.C ≠ 0
theorem pOk_Nz {p : Pl} (h : pOk p = true) : Nz p := by
  unfold pOk at h; simp only [Bool.and_eq_true, decide_eq_true_eq] at h; exact h.2.2.2.2.1

theorem cr_dep (p q : Pl) : cr0 p q = 0 ∧ cr1 p q = 0 ∧ cr2 p q = 0 → Nz p → Nz q → ∃ x y, x ≠ 0 ∧ y ≠ 0 ∧ x * p.A + y * q.A = 0 ∧ x * p.B + y * q.B = 0 ∧ x * p.C + y * q.C = 0 := by
  obtain ⟨a, b, c, d⟩ := p; obtain ⟨e, f, g, i⟩ := q
  unfold Nz cr0 cr1 cr2
  simp only
  rintro ⟨h0, h1, h2⟩ hp hq
  have z : ∀ x y : Int, x ≠ 0 → x * y = 0 → y = 0 := fun x y hx h => (Int.mul_eq_zero.1 h).resolve_left hx
  by_cases ha : a = 0
  · by_cases hb : b = 0
    · have hc : c ≠ 0 := by rcases hp with h | h | h <;> first | exact absurd ha h | exact absurd hb h | exact h
      refine ⟨g, -c, ?_, by omega, ?_, ?_, ?_⟩
      · rintro rfl
        have := z c e hc (by grind); have := z c f hc (by grind)
        rcases hq with h | h | h <;> omega
      · grind
      · grind
      · grind
    · refine ⟨f, -b, ?_, by omega, ?_, ?_, ?_⟩
      · rintro rfl
        have := z b e hb (by grind); have := z b g hb (by grind)
        rcases hq with h | h | h <;> omega
      · grind
      · grind
      · grind
  · refine ⟨e, -a, ?_, by omega, ?_, ?_, ?_⟩
    · rintro rfl
      have := z a f ha (by grind); have := z a g ha (by grind)
      rcases hq with h | h | h <;> omega
    · grind
    · grind
    · grind
end Evl.T

/-! Epq -/
namespace Evl.T
open Go Evl

theorem sm_app (f : Pl → Int) (a b : List (Int × Pl)) : sm f (a ++ b) = sm f a + sm f b := by
  induction a with
  | nil => simp [sm]
  | cons x r ih => simp only [List.cons_append, sm_cons, ih]; omega
theorem sm_zero (f : Pl → Int) (b : List (Int × Pl)) : sm f (b.map fun x => ((0 : Int), x.2)) = 0 := by
  induction b with
  | nil => rfl
  | cons x r ih => simp only [List.map_cons, sm_cons, ih]; omega
theorem red2 (pre : List (Int × Int × Pl)) (rest : List (Int × Pl)) (hc : Cert (tw pre ++ rest)) (ha : sm Pl.A (tv pre) = 0) (hb : sm Pl.B (tv pre) = 0) (hcc : sm Pl.C (tv pre) = 0)
    (hne : (∃ x ∈ pre, ∃ y ∈ pre, x.1 * y.2.1 ≠ y.1 * x.2.1) ∨ (rest ≠ [] ∧ ∃ x ∈ pre, x.2.1 ≠ 0)) :
    ∃ c, Cert c ∧ c.length < (tw pre ++ rest).length ∧ (c.map (·.2)).Sublist ((tw pre ++ rest).map (·.2)) := by
  let t := pre ++ rest.map fun x => (x.1, (0 : Int), x.2)
  have e1 : tw t = tw pre ++ rest := by simp [t, tw, Function.comp_def]
  have e2 : ∀ f, sm f (tv t) = sm f (tv pre) := fun f => by
    have : tv t = tv pre ++ rest.map fun x => ((0 : Int), x.2) := by simp [t, tv, Function.comp_def]
    rw [this, sm_app, sm_zero]; omega
  have e3 : t.map (·.2.2) = (tw pre ++ rest).map (·.2) := by simp [t, tw, Function.comp_def]
  have e4 : t.length = (tw pre ++ rest).length := by simp [t, tw]
  obtain ⟨c, h1, h2, h3⟩ := red t (by rw [e1]; exact hc) (by rw [e2]; exact ha) (by rw [e2]; exact hb) (by rw [e2]; exact hcc) (by
    rcases hne with ⟨x, hx, y, hy, h⟩ | ⟨hr, x, hx, h⟩
    · exact ⟨x, List.mem_append_left _ hx, y, List.mem_append_left _ hy, h⟩
    · obtain ⟨y, r, rfl⟩ := List.exists_cons_of_ne_nil hr
      refine ⟨x, List.mem_append_left _ hx, (y.1, 0, y.2), List.mem_append_right _ (by simp), ?_⟩
      have hy : 0 < y.1 := hc.pos y (List.mem_append_right _ (by simp))
      intro h0
      simp only [Int.mul_zero] at h0
      rcases Int.mul_eq_zero.1 h0.symm with h1 | h1
      · omega
      · exact h h1)
  exact ⟨c, h1, by omega, by rw [← e3]; exact h3⟩

theorem same2 {w1 w2 : Int} {p q : Pl} (h1 : 0 < w1) (h2 : 0 < w2) (hq : Nz q) (ha : w1 * p.A + w2 * q.A = 0) (hb : w1 * p.B + w2 * q.B = 0) (hc : w1 * p.C + w2 * q.C = 0)
    (hd : w1 * p.D + w2 * q.D ≤ 0) : cl2 p q = true := by
  obtain ⟨a, b, c, d⟩ := p; obtain ⟨e, f, g, i⟩ := q
  simp only at ha hb hc hd
  have z : ∀ y : Int, w1 * y = 0 → y = 0 := fun y h => (Int.mul_eq_zero.1 h).resolve_left (by omega)
  have hpos : 0 < d3 e f g e f g := d3_pos (fun h => by
    unfold Nz at hq; simp only at hq
    rcases hq with h' | h' | h'
    · exact h' h.1
    · exact h' h.2.1
    · exact h' h.2.2)
  unfold cl2
  rw [decide_eq_true_iff]
  simp only [cr0, cr1, cr2, dt]
  refine ⟨⟨z _ (by grind), z _ (by grind), z _ (by grind), ?_⟩, ?_⟩
  · have e1 : w1 * (a * e + b * f + c * g) = -(w2 * d3 e f g e f g) := by unfold d3; grind
    have e2 : 0 < w2 * d3 e f g e f g := Int.mul_pos h2 hpos
    rcases Int.lt_or_le (a * e + b * f + c * g) 0 with h | h
    · exact h
    · have := Int.mul_nonneg (Int.le_of_lt h1) h; omega
  · have n : ∀ x y : Int, w1 * x + w2 * y = 0 → w1 * (x.natAbs : Int) = w2 * (y.natAbs : Int) := fun x y h => by
      have := na_mul (a := w1) (b := x) (c := w2) (d := -y) (by grind)
      rw [Int.natAbs_neg] at this
      rwa [Int.natAbs_of_nonneg (a := w1) (by omega), Int.natAbs_of_nonneg (a := w2) (by omega)] at this
    have na := n _ _ ha; have nb := n _ _ hb; have nc := n _ _ hc
    push_cast
    refine mul_can (c := w1) ?_ h1
    have e1 : ((↑e.natAbs + ↑f.natAbs + ↑g.natAbs) * d + (↑a.natAbs + ↑b.natAbs + ↑c.natAbs) * i) * w1 = ((e.natAbs : Int) + f.natAbs + g.natAbs) * (w1 * d + w2 * i) := by grind
    rw [e1, Int.zero_mul]
    exact Int.mul_nonpos_of_nonneg_of_nonpos (by omega) hd

/-- Numbers that go as weights above 0: all above 0, or all below. -/
theorem sgn_of {w k x y : Int} (hw : 0 < w) (hk : 0 < k) (h : w * x = k * y) : (0 < y → 0 < x) ∧ (y < 0 → x < 0) ∧ w * (x.natAbs : Int) = k * (y.natAbs : Int) := by
  refine ⟨fun hy => ?_, fun hy => ?_, ?_⟩
  · have := Int.mul_pos hk hy
    rcases Int.lt_or_le 0 x with h1 | h1
    · exact h1
    · have := Int.mul_nonpos_of_nonneg_of_nonpos (Int.le_of_lt hw) h1; omega
  · have : k * y < 0 := Int.mul_neg_of_pos_of_neg hk hy
    rcases Int.lt_or_le x 0 with h1 | h1
    · exact h1
    · have := Int.mul_nonneg (Int.le_of_lt hw) h1; omega
  · have := na_mul h
    rwa [Int.natAbs_of_nonneg (a := w) (by omega), Int.natAbs_of_nonneg (a := k) (by omega)] at this
theorem same3 {w1 w2 w3 x y z : Int} {p q r : Pl} (h1 : 0 < w1) (h2 : 0 < w2) (h3 : 0 < w3) (hz : z ≠ 0) (hx : w3 * x = w1 * z) (hy : w3 * y = w2 * z)
    (hd : w1 * p.D + w2 * q.D + w3 * r.D ≤ 0) : sk x y z p.D q.D r.D = true := by
  have sx := sgn_of h3 h1 hx; have sy := sgn_of h3 h2 hy
  unfold sk
  rw [decide_eq_true_iff]
  refine ⟨?_, ?_⟩
  · rcases Int.lt_or_lt_of_ne hz with h | h
    · exact .inr ⟨sx.2.1 h, sy.2.1 h, h⟩
    · exact .inl ⟨sx.1 h, sy.1 h, h⟩
  · refine mul_can (c := w3) ?_ h3
    have e : ((x.natAbs : Int) * p.D + (y.natAbs : Int) * q.D + (z.natAbs : Int) * r.D) * w3 = (z.natAbs : Int) * (w1 * p.D + w2 * q.D + w3 * r.D) := by
      have a1 := sx.2.2; have a2 := sy.2.2; grind
    rw [e, Int.zero_mul]
    exact Int.mul_nonpos_of_nonneg_of_nonpos (by omega) hd
theorem same4 {w1 w2 w3 w4 : Int} {p q r s : Pl} (h1 : 0 < w1) (h2 : 0 < w2) (h3 : 0 < w3) (h4 : 0 < w4) (hz : 0 - det3 p q r ≠ 0)
    (hx : w4 * det3 q r s = w1 * (0 - det3 p q r)) (hy : w4 * (0 - det3 p r s) = w2 * (0 - det3 p q r)) (hv : w4 * det3 p q s = w3 * (0 - det3 p q r))
    (hd : w1 * p.D + w2 * q.D + w3 * r.D + w4 * s.D ≤ 0) : cl4 p q r s = true := by
  have sx := sgn_of h4 h1 hx; have sy := sgn_of h4 h2 hy; have sv := sgn_of h4 h3 hv
  unfold cl4
  generalize det3 q r s = a at *
  generalize (0 - det3 p r s) = b at *
  generalize det3 p q s = c at *
  generalize (0 - det3 p q r) = z at *
  rw [decide_eq_true_iff]
  refine ⟨?_, ?_⟩
  · rcases Int.lt_or_lt_of_ne hz with h | h
    · exact .inr ⟨sx.2.1 h, sy.2.1 h, sv.2.1 h, h⟩
    · exact .inl ⟨sx.1 h, sy.1 h, sv.1 h, h⟩
  · refine mul_can (c := w4) ?_ h4
    have e : ((a.natAbs : Int) * p.D + (b.natAbs : Int) * q.D + (c.natAbs : Int) * r.D + (z.natAbs : Int) * s.D) * w4 = (z.natAbs : Int) * (w1 * p.D + w2 * q.D + w3 * r.D + w4 * s.D) := by
      have a1 := sx.2.2; have a2 := sy.2.2; have a3 := sv.2.2; grind
    rw [e, Int.zero_mul]
    exact Int.mul_nonpos_of_nonneg_of_nonpos (by omega) hd

/-- The crosses of three planes without a determinant, at each place. -/
theorem cross_dep {p q r : Pl} (h : det3 p q r = 0) :
    (cr0 q r * p.A + cr0 r p * q.A + cr0 p q * r.A = 0 ∧ cr0 q r * p.B + cr0 r p * q.B + cr0 p q * r.B = 0 ∧ cr0 q r * p.C + cr0 r p * q.C + cr0 p q * r.C = 0) ∧
    (cr1 q r * p.A + cr1 r p * q.A + cr1 p q * r.A = 0 ∧ cr1 q r * p.B + cr1 r p * q.B + cr1 p q * r.B = 0 ∧ cr1 q r * p.C + cr1 r p * q.C + cr1 p q * r.C = 0) ∧
    (cr2 q r * p.A + cr2 r p * q.A + cr2 p q * r.A = 0 ∧ cr2 q r * p.B + cr2 r p * q.B + cr2 p q * r.B = 0 ∧ cr2 q r * p.C + cr2 r p * q.C + cr2 p q * r.C = 0) := by
  obtain ⟨a, b, c, d⟩ := p; obtain ⟨e, f, g, i⟩ := q; obtain ⟨j, k, l, m⟩ := r
  simp only [det3, cr0, cr1, cr2] at h ⊢
  refine ⟨⟨?_, ?_, ?_⟩, ⟨?_, ?_, ?_⟩, ?_, ?_, ?_⟩ <;> grind
theorem det_dep (p q r s : Pl) :
    det3 q r s * p.A + (0 - det3 p r s) * q.A + det3 p q s * r.A + (0 - det3 p q r) * s.A = 0 ∧
    det3 q r s * p.B + (0 - det3 p r s) * q.B + det3 p q s * r.B + (0 - det3 p q r) * s.B = 0 ∧
    det3 q r s * p.C + (0 - det3 p r s) * q.C + det3 p q s * r.C + (0 - det3 p q r) * s.C = 0 := by
  obtain ⟨a, b, c, d⟩ := p; obtain ⟨e, f, g, i⟩ := q; obtain ⟨j, k, l, m⟩ := r; obtain ⟨u, v, w, x⟩ := s
  simp only [det3]
  refine ⟨?_, ?_, ?_⟩ <;> grind
theorem det_zero {w1 w2 w3 : Int} {p q r : Pl} (h1 : 0 < w1) (ha : w1 * p.A + w2 * q.A + w3 * r.A = 0) (hb : w1 * p.B + w2 * q.B + w3 * r.B = 0) (hc : w1 * p.C + w2 * q.C + w3 * r.C = 0) : det3 p q r = 0 := by
  obtain ⟨a, b, c, d⟩ := p; obtain ⟨e, f, g, i⟩ := q; obtain ⟨j, k, l, m⟩ := r
  simp only [det3] at ha hb hc ⊢
  refine (Int.mul_eq_zero.1 (show w1 * _ = 0 from ?_)).resolve_left (by omega)
  have e1 : w1 * a = -(w2 * e) - w3 * j := by omega
  have e2 : w1 * b = -(w2 * f) - w3 * k := by omega
  have e3 : w1 * c = -(w2 * g) - w3 * l := by omega
  rw [Int.mul_add, Int.mul_add, ← Int.mul_assoc, ← Int.mul_assoc, ← Int.mul_assoc, e1, e2, e3]
  grind
/-- Three planes without a determinant: some row cancels them. -/
theorem dep3 {p q r : Pl} (h : det3 p q r = 0) (hp : Nz p) (hq : Nz q) : ∃ x y z : Int, (x ≠ 0 ∨ z ≠ 0) ∧
    x * p.A + y * q.A + z * r.A = 0 ∧ x * p.B + y * q.B + z * r.B = 0 ∧ x * p.C + y * q.C + z * r.C = 0 := by
  by_cases hw : cr0 p q = 0 ∧ cr1 p q = 0 ∧ cr2 p q = 0
  · obtain ⟨x, y, h1, h2, h3, h4, h5⟩ := cr_dep p q hw hp hq
    exact ⟨x, y, 0, .inl h1, by omega, by omega, by omega⟩
  · obtain ⟨c0, c1, c2⟩ := cross_dep h
    by_cases h0 : cr0 p q = 0
    · by_cases h1 : cr1 p q = 0
      · exact ⟨_, _, _, .inr fun h2 => hw ⟨h0, h1, h2⟩, c2⟩
      · exact ⟨_, _, _, .inr h1, c1⟩
    · exact ⟨_, _, _, .inr h0, c0⟩
end Evl.T

/-! Epr -/
namespace Evl.T
open Go Evl

theorem no_cert {l : List Pl} (ho : Opn l) (hz : ∀ q ∈ l, Nz q) : ∀ (n : Nat) (c : List (Int × Pl)), c.length < n → Cert c → (c.map (·.2)).Sublist l → False := by
  intro n
  induction n with
  | zero => intro c h; omega
  | succ n ih =>
    intro c hn hc hs
    have go : (∃ c', Cert c' ∧ c'.length < c.length ∧ (c'.map (·.2)).Sublist (c.map (·.2))) → False := fun ⟨c', h1, h2, h3⟩ => ih c' (by omega) h1 (h3.trans hs)
    have nz : ∀ x ∈ c, Nz x.2 := fun x hx => hz _ (hs.subset (List.mem_map.2 ⟨x, hx, rfl⟩))
    have ps := hc.pos
    have ha := hc.a; have hb := hc.b; have hcc := hc.cc; have hd := hc.d
    match c, hc, hs, go, nz, ps, ha, hb, hcc, hd with
    | [], hc, _, _, _, _, _, _, _, _ => exact hc.ne rfl
    | [(w, p)], _, _, _, nz, ps, ha, hb, hcc, _ =>
      have hw := ps _ (List.mem_singleton.2 rfl)
      have hn := nz _ (List.mem_singleton.2 rfl)
      simp only [sm, Int.add_zero] at ha hb hcc hw
      have z : ∀ y : Int, w * y = 0 → y = 0 := fun y h => (Int.mul_eq_zero.1 h).resolve_left (by omega)
      rcases hn with h | h | h
      · exact h (z _ ha)
      · exact h (z _ hb)
      · exact h (z _ hcc)
    | [(w1, p), (w2, q)], _, hs, _, nz, ps, ha, hb, hcc, hd =>
      have h1 : 0 < w1 := ps (w1, p) (by simp)
      have h2 : 0 < w2 := ps (w2, q) (by simp)
      have nq : Nz q := nz (w2, q) (by simp)
      simp only [sm, Int.add_zero] at ha hb hcc hd
      have hcl := same2 h1 h2 nq ha hb hcc hd
      obtain ⟨l', h3, h4⟩ := ho.last (r := [p]) (p := q) hs
      rw [(wth_sub l' q).2 (.inl ⟨p, h3, hcl⟩)] at h4
      cases h4
    | [(w1, p), (w2, q), (w3, r)], hc, hs, go, nz, ps, ha, hb, hcc, hd =>
      have h1 : 0 < w1 := ps (w1, p) (by simp)
      have h2 : 0 < w2 := ps (w2, q) (by simp)
      have h3 : 0 < w3 := ps (w3, r) (by simp)
      have np : Nz p := nz (w1, p) (by simp)
      have nq : Nz q := nz (w2, q) (by simp)
      simp only [sm, Int.add_zero] at ha hb hcc hd
      have hdet : det3 p q r = 0 := det_zero (w2 := w2) (w3 := w3) h1 (by omega) (by omega) (by omega)
      by_cases hw : cr0 p q = 0 ∧ cr1 p q = 0 ∧ cr2 p q = 0
      · obtain ⟨x, y, hx, hy, e1, e2, e3⟩ := cr_dep p q hw np nq
        refine go (red2 [(w1, x, p), (w2, y, q)] [(w3, r)] hc ?_ ?_ ?_ (.inr ⟨by simp, (w1, x, p), by simp, hx⟩))
        · simp only [tv, List.map_cons, List.map_nil, sm]; omega
        · simp only [tv, List.map_cons, List.map_nil, sm]; omega
        · simp only [tv, List.map_cons, List.map_nil, sm]; omega
      · obtain ⟨c0, c1, c2⟩ := cross_dep hdet
        obtain ⟨⟨a1, a2, a3⟩, b1, b2, b3⟩ := par3 hdet
        have pX := prj a1 a2 a3; have pY := prj b1 b2 b3
        have key : ∀ x y z : Int, z ≠ 0 → (x * p.A + y * q.A + z * r.A = 0 ∧ x * p.B + y * q.B + z * r.B = 0 ∧ x * p.C + y * q.C + z * r.C = 0) →
            d3 (cr0 q r) (cr1 q r) (cr2 q r) (cr0 p q) (cr1 p q) (cr2 p q) * z = x * d3 (cr0 p q) (cr1 p q) (cr2 p q) (cr0 p q) (cr1 p q) (cr2 p q) →
            d3 (cr0 r p) (cr1 r p) (cr2 r p) (cr0 p q) (cr1 p q) (cr2 p q) * z = y * d3 (cr0 p q) (cr1 p q) (cr2 p q) (cr0 p q) (cr1 p q) (cr2 p q) → False := by
          intro x y z hz0 ⟨d1, d2, d3'⟩ hX hY
          by_cases hx : w3 * x = w1 * z
          · by_cases hy : w3 * y = w2 * z
            · have hk := same3 (p := p) (q := q) (r := r) h1 h2 h3 hz0 hx hy (by omega)
              rw [sk_cl3 hdet hw hz0 hX hY] at hk
              obtain ⟨l', h3, h4⟩ := ho.last (r := [p, q]) (p := r) hs
              rw [(wth_sub l' r).2 (.inr (.inl ⟨p, q, h3, hk⟩))] at h4
              cases h4
            · refine go (red2 [(w1, x, p), (w2, y, q), (w3, z, r)] [] hc ?_ ?_ ?_ (.inl ⟨(w3, z, r), by simp, (w2, y, q), by simp, hy⟩))
              · simp only [tv, List.map_cons, List.map_nil, sm]; omega
              · simp only [tv, List.map_cons, List.map_nil, sm]; omega
              · simp only [tv, List.map_cons, List.map_nil, sm]; omega
          · refine go (red2 [(w1, x, p), (w2, y, q), (w3, z, r)] [] hc ?_ ?_ ?_ (.inl ⟨(w3, z, r), by simp, (w1, x, p), by simp, hx⟩))
            · simp only [tv, List.map_cons, List.map_nil, sm]; omega
            · simp only [tv, List.map_cons, List.map_nil, sm]; omega
            · simp only [tv, List.map_cons, List.map_nil, sm]; omega
        by_cases h0 : cr0 p q = 0
        · by_cases h1 : cr1 p q = 0
          · exact key _ _ _ (fun h2 => hw ⟨h0, h1, h2⟩) c2 pX.2.2 pY.2.2
          · exact key _ _ _ h1 c1 pX.2.1 pY.2.1
        · exact key _ _ _ h0 c0 pX.1 pY.1
    | (w1, p) :: (w2, q) :: (w3, r) :: (w4, s) :: rest, hc, hs, go, nz, ps, ha, hb, hcc, hd =>
      have h1 : 0 < w1 := ps (w1, p) (by simp)
      have h2 : 0 < w2 := ps (w2, q) (by simp)
      have h3 : 0 < w3 := ps (w3, r) (by simp)
      have h4 : 0 < w4 := ps (w4, s) (by simp)
      have np : Nz p := nz (w1, p) (by simp)
      have nq : Nz q := nz (w2, q) (by simp)
      by_cases hz0 : 0 - det3 p q r = 0
      · obtain ⟨x, y, z, hxz, e1, e2, e3⟩ := dep3 (p := p) (q := q) (r := r) (by omega) np nq
        refine go (red2 [(w1, x, p), (w2, y, q), (w3, z, r)] ((w4, s) :: rest) hc ?_ ?_ ?_ (.inr ⟨by simp, ?_⟩))
        · simp only [tv, List.map_cons, List.map_nil, sm]; omega
        · simp only [tv, List.map_cons, List.map_nil, sm]; omega
        · simp only [tv, List.map_cons, List.map_nil, sm]; omega
        · rcases hxz with h | h
          · exact ⟨(w1, x, p), by simp, h⟩
          · exact ⟨(w3, z, r), by simp, h⟩
      · obtain ⟨e1, e2, e3⟩ := det_dep p q r s
        have rd := red2 [(w1, det3 q r s, p), (w2, 0 - det3 p r s, q), (w3, det3 p q s, r), (w4, 0 - det3 p q r, s)] rest hc
          (by simp only [tv, List.map_cons, List.map_nil, sm]; omega) (by simp only [tv, List.map_cons, List.map_nil, sm]; omega) (by simp only [tv, List.map_cons, List.map_nil, sm]; omega)
        by_cases hr : rest = []
        · subst hr
          by_cases hx : w4 * det3 q r s = w1 * (0 - det3 p q r)
          · by_cases hy : w4 * (0 - det3 p r s) = w2 * (0 - det3 p q r)
            · by_cases hv : w4 * det3 p q s = w3 * (0 - det3 p q r)
              · simp only [sm, Int.add_zero] at hd
                have hk := same4 h1 h2 h3 h4 hz0 hx hy hv (by omega)
                obtain ⟨l', h3, h4⟩ := ho.last (r := [p, q, r]) (p := s) hs
                rw [(wth_sub l' s).2 (.inr (.inr ⟨p, q, r, h3, hk⟩))] at h4
                cases h4
              · exact go (rd (.inl ⟨(w4, 0 - det3 p q r, s), by simp, (w3, det3 p q s, r), by simp, hv⟩))
            · exact go (rd (.inl ⟨(w4, 0 - det3 p q r, s), by simp, (w2, 0 - det3 p r s, q), by simp, hy⟩))
          · exact go (rd (.inl ⟨(w4, 0 - det3 p q r, s), by simp, (w1, det3 q r s, p), by simp, hx⟩))
        · exact go (rd (.inr ⟨hr, (w4, 0 - det3 p q r, s), by simp, hz0⟩))

/-! a clash gives weights -/
/-- Weights on some of a list, and one on a plane more. -/
def Half (l : List Pl) (p : Pl) : Prop := ∃ (c : List (Int × Pl)) (m : Int), 0 < m ∧ c ≠ [] ∧ (∀ x ∈ c, 0 < x.1) ∧ (c.map (·.2)).Sublist l ∧
  sm Pl.A c + m * p.A = 0 ∧ sm Pl.B c + m * p.B = 0 ∧ sm Pl.C c + m * p.C = 0 ∧ sm Pl.D c + m * p.D ≤ 0
theorem half2 {p q : Pl} {l : List Pl} (hs : [q].Sublist l) (hq : Nz q) (h : cl2 q p = true) : Half l p := by
  unfold cl2 at h
  rw [decide_eq_true_iff] at h
  obtain ⟨⟨h0, h1, h2, h3⟩, h4⟩ := h
  obtain ⟨a, b, c, d⟩ := p; obtain ⟨e, f, g, i⟩ := q
  simp only [cr0, cr1, cr2, dt, Nz] at h0 h1 h2 h3 h4 hq
  have hN : 0 < d3 e f g e f g := d3_pos (fun h => by
    rcases hq with h' | h' | h'
    · exact h' h.1
    · exact h' h.2.1
    · exact h' h.2.2)
  have ca : (0 - (e * a + f * b + g * c)) * e + d3 e f g e f g * a = 0 := by unfold d3; grind
  have cb : (0 - (e * a + f * b + g * c)) * f + d3 e f g e f g * b = 0 := by unfold d3; grind
  have cc : (0 - (e * a + f * b + g * c)) * g + d3 e f g e f g * c = 0 := by unfold d3; grind
  generalize d3 e f g e f g = N at *
  have hM : 0 < 0 - (e * a + f * b + g * c) := by omega
  generalize 0 - (e * a + f * b + g * c) = M at *
  refine ⟨[(M, ⟨e, f, g, i⟩)], N, hN, by simp, ?_, hs, ?_, ?_, ?_, ?_⟩
  · intro x hx; rw [List.mem_singleton.1 hx]; exact hM
  · simp only [sm]; omega
  · simp only [sm]; omega
  · simp only [sm]; omega
  · simp only [sm, Int.add_zero]
    have n : ∀ x y : Int, M * x + N * y = 0 → M * (x.natAbs : Int) = N * (y.natAbs : Int) := fun x y h => by
      have := na_mul (a := M) (b := x) (c := N) (d := -y) (by grind)
      rw [Int.natAbs_neg] at this
      rwa [Int.natAbs_of_nonneg (a := M) (by omega), Int.natAbs_of_nonneg (a := N) (by omega)] at this
    have na := n _ _ ca; have nb := n _ _ cb; have nc := n _ _ cc
    push_cast at h4
    have hQ : 0 < (e.natAbs : Int) + f.natAbs + g.natAbs := by
      rcases hq with h' | h' | h' <;> omega
    refine mul_can (c := (e.natAbs : Int) + f.natAbs + g.natAbs) ?_ hQ
    have e1 : (M * i + N * d) * ((e.natAbs : Int) + f.natAbs + g.natAbs) = N * (((a.natAbs : Int) + b.natAbs + c.natAbs) * i + ((e.natAbs : Int) + f.natAbs + g.natAbs) * d) := by grind
    rw [e1, Int.zero_mul]
    exact Int.mul_nonpos_of_nonneg_of_nonpos (by omega) h4
theorem lin3 {x0 x1 x2 y0 y1 y2 w0 w1 w2 a b c : Int} (h0 : x0 * a + y0 * b + w0 * c = 0) (h1 : x1 * a + y1 * b + w1 * c = 0) (h2 : x2 * a + y2 * b + w2 * c = 0) :
    d3 x0 x1 x2 w0 w1 w2 * a + d3 y0 y1 y2 w0 w1 w2 * b + d3 w0 w1 w2 w0 w1 w2 * c = 0 := by
  have e : d3 x0 x1 x2 w0 w1 w2 * a + d3 y0 y1 y2 w0 w1 w2 * b + d3 w0 w1 w2 w0 w1 w2 * c = w0 * (x0 * a + y0 * b + w0 * c) + w1 * (x1 * a + y1 * b + w1 * c) + w2 * (x2 * a + y2 * b + w2 * c) := by unfold d3; grind
  rw [e, h0, h1, h2]; simp
theorem half3 {p q r : Pl} {l : List Pl} (hs : [q, r].Sublist l) (h : cl3 q r p = true) : Half l p := by
  unfold cl3 at h
  rw [decide_eq_true_iff] at h
  obtain ⟨h0, h1, ⟨h2, h3⟩, h4⟩ := h
  obtain ⟨⟨c1, c2, c3⟩, ⟨c4, c5, c6⟩, c7, c8, c9⟩ := cross_dep h0
  refine ⟨[(d3 (cr0 r p) (cr1 r p) (cr2 r p) (cr0 q r) (cr1 q r) (cr2 q r), q), (d3 (cr0 p q) (cr1 p q) (cr2 p q) (cr0 q r) (cr1 q r) (cr2 q r), r)], d3 (cr0 q r) (cr1 q r) (cr2 q r) (cr0 q r) (cr1 q r) (cr2 q r), h1, by simp, ?_, hs, ?_, ?_, ?_, ?_⟩
  · intro x hx
    simp only [List.mem_cons, List.not_mem_nil, or_false] at hx
    rcases hx with rfl | rfl
    · exact h2
    · exact h3
  · simp only [sm, Int.add_zero]; exact lin3 c1 c4 c7
  · simp only [sm, Int.add_zero]; exact lin3 c2 c5 c8
  · simp only [sm, Int.add_zero]; exact lin3 c3 c6 c9
  · simp only [sm]; omega
theorem half4 {p q r s : Pl} {l : List Pl} (hs : [q, r, s].Sublist l) (h : cl4 q r s p = true) : Half l p := by
  unfold cl4 at h
  rw [decide_eq_true_iff] at h
  obtain ⟨h0, h4⟩ := h
  obtain ⟨c1, c2, c3⟩ := det_dep q r s p
  generalize det3 r s p = a at *
  generalize (0 - det3 q s p) = b at *
  generalize det3 q r p = c at *
  generalize (0 - det3 q r s) = z at *
  have ps : 0 < (a.natAbs : Int) ∧ 0 < (b.natAbs : Int) ∧ 0 < (c.natAbs : Int) ∧ 0 < (z.natAbs : Int) := by omega
  have key : ∀ x y u v : Int, a * x + b * y + c * u + z * v = 0 → (a.natAbs : Int) * x + ((b.natAbs : Int) * y + ((c.natAbs : Int) * u + 0)) + (z.natAbs : Int) * v = 0 := fun x y u v h => by
    rcases h0 with h0 | h0
    · rw [Int.natAbs_of_nonneg (by omega), Int.natAbs_of_nonneg (by omega), Int.natAbs_of_nonneg (by omega), Int.natAbs_of_nonneg (by omega)]; omega
    · rw [Int.ofNat_natAbs_of_nonpos (by omega), Int.ofNat_natAbs_of_nonpos (by omega), Int.ofNat_natAbs_of_nonpos (by omega), Int.ofNat_natAbs_of_nonpos (by omega)]; grind
  refine ⟨[((a.natAbs : Int), q), ((b.natAbs : Int), r), ((c.natAbs : Int), s)], (z.natAbs : Int), ps.2.2.2, by simp, ?_, hs, key _ _ _ _ c1, key _ _ _ _ c2, key _ _ _ _ c3, ?_⟩
  · intro x hx
    simp only [List.mem_cons, List.not_mem_nil, or_false] at hx
    rcases hx with rfl | rfl | rfl
    · exact ps.1
    · exact ps.2.1
    · exact ps.2.2.1
  · simp only [sm]; omega
theorem half_of {l : List Pl} {p : Pl} (hz : ∀ q ∈ l, Nz q) (h : wth l p = true) : Half l p := by
  rcases (wth_sub l p).1 h with ⟨q, h1, h2⟩ | ⟨q, r, h1, h2⟩ | ⟨q, r, s, h1, h2⟩
  · exact half2 h1 (hz q (h1.subset List.mem_cons_self)) h2
  · exact half3 h1 h2
  · exact half4 h1 h2
/-- Weights on some of a list, as weights on all of it. -/
theorem pad {l : List Pl} : ∀ {c : List (Int × Pl)}, (c.map (·.2)).Sublist l → (∀ x ∈ c, 0 < x.1) → ∃ z : List (Int × Pl), z.map (·.2) = l ∧ (∀ x ∈ z, 0 ≤ x.1) ∧ ∀ f, sm f z = sm f c := by
  induction l with
  | nil =>
    intro c h _
    have : c = [] := by have := h.length_le; simpa using this
    subst this
    exact ⟨[], rfl, by simp, fun _ => rfl⟩
  | cons y l ih =>
    intro c h hp
    have skip : (c.map (·.2)).Sublist l → ∃ z : List (Int × Pl), z.map (·.2) = y :: l ∧ (∀ x ∈ z, 0 ≤ x.1) ∧ ∀ f, sm f z = sm f c := fun h => by
      obtain ⟨z, h1, h2, h3⟩ := ih h hp
      refine ⟨(0, y) :: z, by simp [h1], fun x hx => ?_, fun f => ?_⟩
      · rcases List.mem_cons.1 hx with rfl | hx
        · exact Int.le_refl _
        · exact h2 x hx
      · rw [sm_cons, h3]; omega
    match c, h, hp, skip with
    | [], _, _, skip => exact skip (List.nil_sublist _)
    | x :: c, h, hp, skip =>
      simp only [List.map_cons] at h
      cases h with
      | cons _ h => exact skip h
      | cons_cons _ h =>
        obtain ⟨z, h1, h2, h3⟩ := ih h fun x hx => hp x (List.mem_cons_of_mem _ hx)
        refine ⟨(x.1, x.2) :: z, by simp [h1], fun w hw => ?_, fun f => ?_⟩
        · rcases List.mem_cons.1 hw with rfl | hw
          · exact Int.le_of_lt (hp x List.mem_cons_self)
          · exact h2 w hw
        · rw [sm_cons, sm_cons, h3]
def mix (a b : Int) : List (Int × Pl) → List (Int × Pl) → List (Int × Pl)
  | x :: c, y :: d => (a * x.1 + b * y.1, x.2) :: mix a b c d
  | _, _ => []
theorem sm_mix (f : Pl → Int) (a b : Int) : ∀ (c d : List (Int × Pl)), c.map (·.2) = d.map (·.2) → sm f (mix a b c d) = a * sm f c + b * sm f d
  | [], [], _ => by simp [mix, sm]
  | x :: c, y :: d, h => by
    simp only [List.map_cons, List.cons.injEq] at h
    simp only [mix, sm_cons]
    rw [sm_mix f a b c d h.2, h.1]; grind
  | [], _ :: _, h => by simp at h
  | _ :: _, [], h => by simp at h
theorem mix_snd (a b : Int) : ∀ (c d : List (Int × Pl)), c.map (·.2) = d.map (·.2) → (mix a b c d).map (·.2) = c.map (·.2)
  | [], [], _ => rfl
  | x :: c, y :: d, h => by
    simp only [List.map_cons, List.cons.injEq] at h
    simp only [mix, List.map_cons]
    rw [mix_snd a b c d h.2]
  | [], _ :: _, h => by simp at h
  | _ :: _, [], h => by simp at h
theorem mix_ge {a b : Int} (ha : 0 ≤ a) (hb : 0 ≤ b) : ∀ (c d : List (Int × Pl)), (∀ x ∈ c, 0 ≤ x.1) → (∀ x ∈ d, 0 ≤ x.1) → ∀ x ∈ mix a b c d, 0 ≤ x.1
  | [], _, _, _ => by simp [mix]
  | _ :: _, [], _, _ => by simp [mix]
  | x :: c, y :: d, hc, hd => by
    intro z hz
    simp only [mix] at hz
    rcases List.mem_cons.1 hz with rfl | hz
    · have h1 := Int.mul_nonneg ha (hc x List.mem_cons_self)
      have h2 := Int.mul_nonneg hb (hd y List.mem_cons_self)
      show 0 ≤ a * x.1 + b * y.1
      omega
    · exact mix_ge ha hb c d (fun w hw => hc w (List.mem_cons_of_mem _ hw)) (fun w hw => hd w (List.mem_cons_of_mem _ hw)) z hz
theorem sm_pos {c : List (Int × Pl)} (h : ∀ x ∈ c, 0 < x.1) (hn : c ≠ []) : 0 < sm (fun _ => 1) c := by
  have ge : ∀ c : List (Int × Pl), (∀ x ∈ c, 0 < x.1) → 0 ≤ sm (fun _ => 1) c := fun c => by
    induction c with
    | nil => intro _; exact Int.le_refl _
    | cons x r ih =>
      intro h
      have h1 := h x List.mem_cons_self
      have h2 := ih fun y hy => h y (List.mem_cons_of_mem _ hy)
      rw [sm_cons]; omega
  obtain ⟨x, r, rfl⟩ := List.exists_cons_of_ne_nil hn
  have h1 := h x List.mem_cons_self
  have h2 := ge r fun y hy => h y (List.mem_cons_of_mem _ hy)
  rw [sm_cons]; omega
/-- Along a path that has room, a plane or its other side has room. -/
theorem flip_room {l : List Pl} (ho : Opn l) (hz : ∀ q ∈ l, Nz q) (p : Pl) : wth l p = false ∨ wth l (flp p) = false := by
  cases h1 : wth l p with
  | false => exact .inl rfl
  | true =>
    cases h2 : wth l (flp p) with
    | false => exact .inr rfl
    | true =>
      exfalso
      obtain ⟨c, m, hm, hcn, hcp, hcs, ca, cb, cc, cd⟩ := half_of hz h1
      obtain ⟨d, k, hk, hdn, hdp, hds, da, db, dc, dd⟩ := half_of hz h2
      obtain ⟨z, z1, z2, z3⟩ := pad hcs hcp
      obtain ⟨y, y1, y2, y3⟩ := pad hds hdp
      have hzy : z.map (·.2) = y.map (·.2) := by rw [z1, y1]
      have ge := mix_ge (a := k) (b := m) (by omega) (by omega) z y z2 y2
      have e : ∀ f, sm f (pst (mix k m z y)) = k * sm f c + m * sm f d := fun f => by rw [sm_pst _ _ ge, sm_mix f k m z y hzy, z3, y3]
      simp only [flp] at da db dc dd
      refine no_cert ho hz _ (pst (mix k m z y)) (Nat.lt_succ_self _) ⟨fun x hx => pst_pos hx, ?_, ?_, ?_, ?_, ?_⟩ ?_
      · rw [e]; grind
      · rw [e]; grind
      · rw [e]; grind
      · rw [e]
        have e1 : k * sm Pl.D c + m * sm Pl.D d = k * (sm Pl.D c + m * p.D) + m * (sm Pl.D d + k * (0 - p.D)) := by grind
        rw [e1]
        have h1 := Int.mul_nonpos_of_nonneg_of_nonpos (Int.le_of_lt hk) cd
        have h2 := Int.mul_nonpos_of_nonneg_of_nonpos (Int.le_of_lt hm) dd
        omega
      · intro h
        have := e fun _ => 1
        rw [h, sm_nil] at this
        have h1 := Int.mul_pos hk (sm_pos hcp hcn)
        have h2 := Int.mul_pos hm (sm_pos hdp hdn)
        omega
      · have := (pst_sub (mix k m z y)).map (·.2)
        rw [mix_snd k m z y hzy, z1] at this
        exact this
end Evl.T

/-! Esf -/
namespace Evl.T
open Go Evl

/-! l1CmpMag -/
theorem cmpStep (n : Nat) (a b : List Int) (rec0 : Int → Option Int) (i : Int) :
    Dspec_l1CmpMag_0 n a b rec0 i = frk (decide (i ≥ 0)) ((lget a i).bind fun v0 => (lget b i).bind fun v1 => frk (v0 != v1) ((lget a i).bind fun v2 => (lget b i).bind fun v3 => frk (decide (v2 < v3)) (some (-1)) (some 1)) (rec0 (w64 (i - 1)))) (some 0) := rfl
theorem pow_step {x y P : Int} (hP : 0 ≤ P) (h : x < y) : P * x + P ≤ P * y := by
  have : P * (x + 1) ≤ P * y := Int.mul_le_mul_of_nonneg_left (by omega) hP
  rw [Int.mul_add, Int.mul_one] at this; exact this
theorem cmpLoop (n : Nat) {a b : List Int} (ha : Dg a) (hb : Dg b) (hl : a.length = b.length) (hl2 : a.length ≤ 1000) : ∀ (i m : Nat), i ≤ a.length → i < m →
    ∃ r, loopN (Dspec_l1CmpMag_0 n a b) m ((i : Int) - 1) = some r ∧ (r ≥ 0 ↔ vl (b.take i) ≤ vl (a.take i)) := by
  intro i
  induction i with
  | zero =>
    intro m _ hm
    obtain ⟨m, rfl⟩ : ∃ j, m = j + 1 := ⟨m - 1, by omega⟩
    refine ⟨0, ?_, by simp [vl]⟩
    rw [loop_suc, cmpStep, dec_f (by omega), frk_f]
  | succ i ih =>
    intro m hi hm
    obtain ⟨m, rfl⟩ : ∃ j, m = j + 1 := ⟨m - 1, by omega⟩
    obtain ⟨x, hx⟩ : ∃ d, a[i]? = some d := ⟨a[i], List.getElem?_eq_getElem (by omega)⟩
    obtain ⟨y, hy⟩ : ∃ d, b[i]? = some d := ⟨b[i], List.getElem?_eq_getElem (by omega)⟩
    have e : ((i + 1 : Nat) : Int) - 1 = (i : Int) := by omega
    rw [loop_suc, cmpStep, e, dec_t (by omega), frk_t, lget_nat, lget_nat, hx, hy, Option.bind_some, Option.bind_some]
    simp only [Option.bind_some]
    have p1 := vl_lt (ha.take i)
    have p2 := vl_lt (hb.take i)
    rw [List.length_take, Nat.min_eq_left (by omega)] at p1 p2
    have q1 := vl_nn (ha.take i)
    have q2 := vl_nn (hb.take i)
    have hP : (0 : Int) ≤ 10000 ^ i := Int.pow_nonneg (by omega)
    rw [vl_take_s hx, vl_take_s hy]
    by_cases h : x = y
    · subst h
      rw [show (x != x) = false by simp, frk_f, w64_id (by omega) (by omega)]
      obtain ⟨r, h1, h2⟩ := ih m (by omega) (by omega)
      exact ⟨r, h1, h2.trans (by omega)⟩
    · rw [show (x != y) = true by simpa using h, frk_t]
      by_cases h2 : x < y
      · refine ⟨-1, by rw [dec_t h2, frk_t], ?_⟩
        have := pow_step hP h2
        omega
      · refine ⟨1, by rw [dec_f h2, frk_f], ?_⟩
        have := pow_step hP (show y < x by omega)
        omega
theorem cmpOk (n : Nat) (a b : Nat) (hl : (dg a).length ≤ 100) (hl2 : (dg b).length ≤ 100) (hn : 101 ≤ n) : ∃ r, Dspec_l1CmpMag n (dg a) (dg b) = some r ∧ (r ≥ 0 ↔ b ≤ a) := by
  unfold Dspec_l1CmpMag
  by_cases h : (dg a).length = (dg b).length
  · rw [show (((dg a).length : Int) != ((dg b).length : Int)) = false by rw [h]; simp, frk_f, w64_id (by omega) (by omega)]
    obtain ⟨r, h1, h2⟩ := cmpLoop n (Dg_dg a) (Dg_dg b) h (by omega) (dg a).length n (Nat.le_refl _) (by omega)
    refine ⟨r, h1, h2.trans ?_⟩
    rw [List.take_length, h, List.take_length, vl_dg, vl_dg]; omega
  · rw [show (((dg a).length : Int) != ((dg b).length : Int)) = true by simpa using by omega, frk_t]
    by_cases h2 : (dg a).length < (dg b).length
    · refine ⟨-1, by rw [dec_t (by omega), frk_t], ?_⟩
      constructor
      · intro h; omega
      · intro h; have := dg_mono h; omega
    · refine ⟨1, by rw [dec_f (by omega), frk_f], ?_⟩
      constructor
      · intro _
        by_cases hh : b ≤ a
        · exact hh
        · have := dg_mono (show a ≤ b by omega); omega
      · intro _; omega

/-! l1Guess -/
theorem guessStep1 (n : Nat) (a b : List Int) (rec0 : Int × Int → Option Int) (t5 t6 : Int) :
    Dspec_l1Guess_6 n a b rec0 (t5, t6) = frk (decide (t6 ≥ 0)) (frk (decide (t6 ≥ (w64 ((b.length : Int) - 3)))) ((lget a t6).bind fun v0 => rec0 (w64 ((w64 (t5 * 10000)) + v0), w64 (t6 - 1))) (Dspec_l1Guess_1 n b t5 0 (w64 ((b.length : Int) - 1)))) (Dspec_l1Guess_1 n b t5 0 (w64 ((b.length : Int) - 1))) := rfl
theorem guessStep2 (n : Nat) (b : List Int) (t5 : Int) (rec1 : Int × Int → Option Int) (t7 t8 : Int) :
    Dspec_l1Guess_5 n b t5 rec1 (t7, t8) = frk (decide (t8 ≥ 0)) (frk (decide (t8 ≥ (w64 ((b.length : Int) - 3)))) ((lget b t8).bind fun v1 => rec1 (w64 ((w64 (t7 * 10000)) + v1), w64 (t8 - 1))) (Dspec_l1Guess_3 n t5 t7 (decide ((b.length : Int) > 3)))) (Dspec_l1Guess_3 n t5 t7 (decide ((b.length : Int) > 3))) := rfl
theorem vl_small {a : List Int} (ha : Dg a) (hl : a.length ≤ 3) : vl a < 1000000000000 := by
  have h := vl_lt ha
  have : a.length = 0 ∨ a.length = 1 ∨ a.length = 2 ∨ a.length = 3 := by omega
  rcases this with e | e | e | e <;> rw [e] at h <;> omega
theorem guessL1 (n : Nat) {a b : List Int} (ha : Dg a) (hl : a.length ≤ 3) (hlb : b.length ≤ 3) : ∀ (i m : Nat), i ≤ a.length → i < m →
    loopN (Dspec_l1Guess_6 n a b) m (vl (a.drop i), (i : Int) - 1) = Dspec_l1Guess_1 n b (vl a) 0 (w64 ((b.length : Int) - 1)) := by
  intro i
  induction i with
  | zero =>
    intro m _ hm
    obtain ⟨m, rfl⟩ : ∃ j, m = j + 1 := ⟨m - 1, by omega⟩
    rw [loop_suc, guessStep1, dec_f (by omega), frk_f]; rfl
  | succ i ih =>
    intro m hi hm
    obtain ⟨m, rfl⟩ : ∃ j, m = j + 1 := ⟨m - 1, by omega⟩
    obtain ⟨x, hx⟩ : ∃ d, a[i]? = some d := ⟨a[i], List.getElem?_eq_getElem (by omega)⟩
    have e : ((i + 1 : Nat) : Int) - 1 = (i : Int) := by omega
    have b1 := vl_small ha hl
    have b2 := vl_drop_le ha i
    have b3 := vl_nn (ha.drop i)
    have b4 := vl_nn (ha.drop (i + 1))
    have b5 := ha.get hx
    have e2 := vl_drop_s hx
    rw [loop_suc, guessStep1, e, dec_t (by omega), frk_t, dec_t (by rw [w64_id (by omega) (by omega)]; omega), frk_t, lget_nat, hx, Option.bind_some]
    rw [w64_id (x := vl (a.drop (i + 1)) * 10000) (by omega) (by omega), show vl (a.drop (i + 1)) * 10000 + x = vl (a.drop i) by omega, w64_id (x := vl (a.drop i)) (by omega) (by omega), w64_id (x := (i : Int) - 1) (by omega) (by omega)]
    exact ih m (by omega) (by omega)
theorem guessL2 (n : Nat) {b : List Int} (ha : Dg b) (hl : b.length ≤ 3) (t5 : Int) : ∀ (i m : Nat), i ≤ b.length → i < m →
    loopN (Dspec_l1Guess_5 n b t5) m (vl (b.drop i), (i : Int) - 1) = Dspec_l1Guess_3 n t5 (vl b) false := by
  intro i
  induction i with
  | zero =>
    intro m _ hm
    obtain ⟨m, rfl⟩ : ∃ j, m = j + 1 := ⟨m - 1, by omega⟩
    rw [loop_suc, guessStep2, dec_f (by omega), frk_f, dec_f (by omega)]; rfl
  | succ i ih =>
    intro m hi hm
    obtain ⟨m, rfl⟩ : ∃ j, m = j + 1 := ⟨m - 1, by omega⟩
    obtain ⟨x, hx⟩ : ∃ d, b[i]? = some d := ⟨b[i], List.getElem?_eq_getElem (by omega)⟩
    have e : ((i + 1 : Nat) : Int) - 1 = (i : Int) := by omega
    have b1 := vl_small ha hl
    have b2 := vl_drop_le ha i
    have b3 := vl_nn (ha.drop i)
    have b4 := vl_nn (ha.drop (i + 1))
    have b5 := ha.get hx
    have e2 := vl_drop_s hx
    rw [loop_suc, guessStep2, e, dec_t (by omega), frk_t, dec_t (by rw [w64_id (by omega) (by omega)]; omega), frk_t, lget_nat, hx, Option.bind_some]
    rw [w64_id (x := vl (b.drop (i + 1)) * 10000) (by omega) (by omega), show vl (b.drop (i + 1)) * 10000 + x = vl (b.drop i) by omega, w64_id (x := vl (b.drop i)) (by omega) (by omega), w64_id (x := (i : Int) - 1) (by omega) (by omega)]
    exact ih m (by omega) (by omega)
theorem guessOk (n a b : Nat) (ha : a < 1000000000000) (hb : 0 < b) (hab : b ≤ a) (hn : 5 ≤ n) : Dspec_l1Guess n (dg a) (dg b) = some ((a / b : Nat) : Int) := by
  have l1 := dg_len3 ha
  have l2 := dg_len3 (show b < 1000000000000 by omega)
  unfold Dspec_l1Guess
  rw [w64_id (by omega) (by omega)]
  have e1 := guessL1 n (b := dg b) (Dg_dg a) l1 l2 (dg a).length n (Nat.le_refl _) (by omega)
  rw [List.drop_length] at e1
  have e1' : loopN (Dspec_l1Guess_6 n (dg a) (dg b)) n ((0 : Int), ((dg a).length : Int) - 1) = _ := e1
  rw [e1']
  unfold Dspec_l1Guess_1
  rw [w64_id (by omega) (by omega)]
  have e2 := guessL2 n (Dg_dg b) l2 (vl (dg a)) (dg b).length n (Nat.le_refl _) (by omega)
  rw [List.drop_length] at e2
  have e2' : loopN (Dspec_l1Guess_5 n (dg b) (vl (dg a))) n ((0 : Int), ((dg b).length : Int) - 1) = _ := e2
  rw [e2', vl_dg, vl_dg]
  unfold Dspec_l1Guess_3 Dspec_l1Guess_4
  rw [frk_f]
  have hq : 0 < a / b := Nat.div_pos hab hb
  have hq2 : a / b ≤ a := Nat.div_le_self a b
  have e3 : qt .i64 (a : Int) (b : Int) = some ((a / b : Nat) : Int) := by
    unfold qt
    rw [if_neg (by omega), Int.tdiv_eq_ediv_of_nonneg (by omega)]
    have : IntKind.i64.wrap ((a : Int) / (b : Int)) = ((a / b : Nat) : Int) := by
      have e : (a : Int) / (b : Int) = ((a / b : Nat) : Int) := by simp
      rw [e]; exact w64_id (by omega) (by omega)
    rw [this]
  rw [e3]
  simp only [Option.bind_some]
  rw [dec_t (by omega), frk_t]

/-! l1SubMag -/
def subR : List Int → List Int → Int → List Int
  | [], _, _ => []
  | x :: xs, ys, c => if x - c - ys.headD 0 < 0 then (x - c - ys.headD 0 + 10000) :: subR xs ys.tail 1 else (x - c - ys.headD 0) :: subR xs ys.tail 0
theorem hd_ok {ys : List Int} (h : Dg ys) : 0 ≤ ys.headD 0 ∧ ys.headD 0 ≤ 9999 := by
  cases ys with
  | nil => simp
  | cons y ys => exact h.head
theorem tl_ok {ys : List Int} (h : Dg ys) : Dg ys.tail := by
  cases ys with
  | nil => exact Dg.nil
  | cons y ys => exact h.tail
theorem vl_hd (ys : List Int) : vl ys = ys.headD 0 + 10000 * vl ys.tail := by
  cases ys with
  | nil => rfl
  | cons y ys => rfl
theorem subR_Dg : ∀ (xs ys : List Int) (c : Int), Dg xs → Dg ys → 0 ≤ c → c ≤ 1 → Dg (subR xs ys c)
  | [], _, _, _, _, _, _ => Dg.nil
  | x :: xs, ys, c, h1, h2, h3, h4 => by
    have := h1.head; have := hd_ok h2
    unfold subR
    split
    · exact Dg.cons (by omega) (by omega) (subR_Dg xs ys.tail 1 h1.tail (tl_ok h2) (by omega) (by omega))
    · exact Dg.cons (by omega) (by omega) (subR_Dg xs ys.tail 0 h1.tail (tl_ok h2) (by omega) (by omega))
theorem subR_vl : ∀ (xs ys : List Int) (c : Int), Dg xs → Dg ys → 0 ≤ c → c ≤ 1 → vl ys + c ≤ vl xs → vl (subR xs ys c) = vl xs - vl ys - c
  | [], ys, c, _, h2, h3, _, h5 => by
    have := vl_nn h2
    have e : vl [] = 0 := rfl
    show vl [] = _
    omega
  | x :: xs, ys, c, h1, h2, h3, h4, h5 => by
    have := h1.head; have := hd_ok h2
    have e1 := vl_hd ys
    have e2 : vl (x :: xs) = x + 10000 * vl xs := rfl
    unfold subR
    split
    · have := subR_vl xs ys.tail 1 h1.tail (tl_ok h2) (by omega) (by omega) (by omega)
      show x - c - ys.headD 0 + 10000 + 10000 * vl (subR xs ys.tail 1) = _
      omega
    · have := subR_vl xs ys.tail 0 h1.tail (tl_ok h2) (by omega) (by omega) (by omega)
      show x - c - ys.headD 0 + 10000 * vl (subR xs ys.tail 0) = _
      omega
theorem subR_len : ∀ (xs ys : List Int) (c : Int), (subR xs ys c).length = xs.length
  | [], _, _ => rfl
  | x :: xs, ys, c => by
    unfold subR
    split
    · rw [List.length_cons, List.length_cons, subR_len]
    · rw [List.length_cons, List.length_cons, subR_len]
theorem subStep (n : Nat) (a b : List Int) (rec0 : Int × Int × List Int → Option (List Int)) (t6 t7 : Int) (l : List Int) :
    Dspec_l1SubMag_2 n a b rec0 (t6, t7, l) = frk (decide (t7 < (a.length : Int))) ((lget a t7).bind fun v0 => frk (decide (t7 < (b.length : Int))) ((lget b t7).bind fun v1 => Dspec_l1SubMag_0 n rec0 a b 0 t7 (w64 ((w64 (v0 - t6)) - v1)) (decide ((w64 ((w64 (v0 - t6)) - v1)) < 0)) l) (Dspec_l1SubMag_0 n rec0 a b 0 t7 (w64 (v0 - t6)) (decide ((w64 (v0 - t6)) < 0)) l)) (some l) := rfl
theorem subMid (n : Nat) (a b : List Int) (rec0 : Int × Int × List Int → Option (List Int)) (t : Int) (i : Nat) (l : List Int) (ht : -20000 ≤ t) (ht2 : t ≤ 20000) (hl : l.length ≤ 1000) (hi : i ≤ 1000) :
    Dspec_l1SubMag_0 n rec0 a b 0 (i : Int) t (decide (t < 0)) l = if t < 0 then rec0 (1, ((i + 1 : Nat) : Int), l ++ [t + 10000]) else rec0 (0, ((i + 1 : Nat) : Int), l ++ [t]) := by
  unfold Dspec_l1SubMag_0 Dspec_l1SubMag_1
  rw [chk_eq (apB8 (by omega)), chk_eq (apB8 (by omega)), w64_suc (by unfold big; omega), w64_id (x := t + 10000) (by omega) (by omega), frk_if]
  by_cases h : t < 0
  · rw [if_pos h, dec_t h, if_pos rfl]
  · rw [if_neg h, dec_f h, if_neg (by decide)]
theorem subLoop (n : Nat) {a b : List Int} (ha : Dg a) (hb : Dg b) (hl : a.length ≤ 100) : ∀ (k i m : Nat) (c : Int) (l : List Int), i + k = a.length → k < m → 0 ≤ c → c ≤ 1 → l.length = i →
    loopN (Dspec_l1SubMag_2 n a b) m (c, (i : Int), l) = some (l ++ subR (a.drop i) (b.drop i) c) := by
  intro k
  induction k with
  | zero =>
    intro i m c l h0 hm _ _ _
    obtain ⟨m, rfl⟩ : ∃ j, m = j + 1 := ⟨m - 1, by omega⟩
    rw [loop_suc, subStep, dec_f (by omega), frk_f, show a.drop i = [] from List.drop_eq_nil_of_le (by omega)]
    show some l = some (l ++ [])
    rw [List.append_nil]
  | succ k ih =>
    intro i m c l h0 hm hc hc2 hll
    obtain ⟨m, rfl⟩ : ∃ j, m = j + 1 := ⟨m - 1, by omega⟩
    obtain ⟨x, hx⟩ : ∃ d, a[i]? = some d := ⟨a[i], List.getElem?_eq_getElem (by omega)⟩
    obtain ⟨hi, he⟩ := List.getElem?_eq_some_iff.1 hx
    have hxd := ha.get hx
    have fin : ∀ y : Int, y = (b.drop i).headD 0 → Dspec_l1SubMag_0 n (loopN (Dspec_l1SubMag_2 n a b) m) a b 0 (i : Int) (x - c - y) (decide (x - c - y < 0)) l = some (l ++ subR (a.drop i) (b.drop i) c) := by
      intro y hy
      have hyd := hd_ok (hb.drop i)
      rw [← hy] at hyd
      rw [subMid n a b _ (x - c - y) i l (by omega) (by omega) (by omega) (by omega), List.drop_eq_getElem_cons hi, he]
      unfold subR
      rw [← hy, List.tail_drop]
      by_cases h : x - c - y < 0
      · rw [if_pos h, if_pos h, ih (i + 1) m 1 _ (by omega) (by omega) (by omega) (by omega) (by simp [hll]), List.append_assoc]; rfl
      · rw [if_neg h, if_neg h, ih (i + 1) m 0 _ (by omega) (by omega) (by omega) (by omega) (by simp [hll]), List.append_assoc]; rfl
    rw [loop_suc, subStep, dec_t (by omega), frk_t, lget_nat, hx, Option.bind_some]
    by_cases hb2 : i < b.length
    · obtain ⟨y, hy⟩ : ∃ d, b[i]? = some d := ⟨b[i], List.getElem?_eq_getElem hb2⟩
      have hyd := hb.get hy
      rw [dec_t (by omega), frk_t, lget_nat, hy, Option.bind_some, w64_id (x := x - c) (by omega) (by omega), w64_id (by omega) (by omega)]
      refine fin y ?_
      rw [List.drop_eq_getElem_cons hb2]
      have := (List.getElem?_eq_some_iff.1 hy).2
      rw [this]; rfl
    · rw [dec_f (by omega), frk_f, w64_id (x := x - c) (by omega) (by omega)]
      have := fin 0 (by rw [show b.drop i = [] from List.drop_eq_nil_of_le (by omega)]; rfl)
      rw [show x - c - 0 = x - c by omega] at this
      exact this
theorem subOk (n : Nat) {a b : List Int} (ha : Dg a) (hb : Dg b) (hl : a.length ≤ 100) (hv : vl b ≤ vl a) (hn : 101 ≤ n) : ∃ r, Dspec_l1SubMag n a b = some r ∧ Dg r ∧ vl r = vl a - vl b ∧ r.length = a.length := by
  refine ⟨subR a b 0, ?_, subR_Dg a b 0 ha hb (by omega) (by omega), ?_, subR_len a b 0⟩
  · unfold Dspec_l1SubMag
    exact subLoop n ha hb hl a.length 0 n 0 [] (by omega) (by omega) (by omega) (by omega) rfl
  · have := subR_vl a b 0 ha hb (by omega) (by omega) (by omega); omega

/-! l1MulMag by a number of two digits -/
theorem mulStep1 (n : Nat) (rec0 : (Int × List Int) → Option (List Int)) (t0 t1 : List Int) (t6 : Int) (rec1 : (Int × Int × List Int) → Option (List Int)) (t7 t8 : Int) (l15 : List Int) :
    Dspec_l1MulMag_1 n rec0 t0 t1 t6 rec1 (t7, t8, l15) = frk (decide (t8 < (t1.length : Int))) ((lget t0 t6).bind fun v1 => (lget t1 t8).bind fun v2 => (lget l15 (w64 (t6 + t8))).bind fun v3 => (lget l15 (w64 (t6 + t8))).bind fun _v4 => rec1 (w64 (Int.tdiv (w64 ((w64 ((w64 (v1 * v2)) + v3)) + t7)) 10000), w64 (t8 + 1), (l15.set (Int.toNat (w64 (t6 + t8))) (Int.tmod (w64 ((w64 ((w64 (v1 * v2)) + v3)) + t7)) 10000)))) (Dspec_l1MulMag_0 n rec0 t0 t1 t6 t7 l15) := rfl
theorem mulStep2 (n : Nat) (t0 t1 : List Int) (rec0 : (Int × List Int) → Option (List Int)) (t6 : Int) (l15 : List Int) :
    Dspec_l1MulMag_2 n t0 t1 rec0 (t6, l15) = frk (decide (t6 < (t0.length : Int))) (loopN (Dspec_l1MulMag_1 n rec0 t0 t1 t6) n (0, 0, l15)) (some l15) := rfl
theorem get_pre {α : Type} (p : List α) (k : Nat) (z : List α) : (p ++ z)[p.length + k]? = z[k]? := by
  rw [List.getElem?_append_right (by omega)]; congr 1; omega
theorem set_pre {α : Type} (p : List α) (k : Nat) (z : List α) (x : α) : (p ++ z).set (p.length + k) x = p ++ z.set k x := by
  rw [List.set_append_right _ _ (by omega)]; congr 2; omega
theorem mul_nn {x y : Int} (hx : 0 ≤ x ∧ x ≤ 9999) (hy : 0 ≤ y ∧ y ≤ 9999) : 0 ≤ x * y ∧ x * y ≤ 99980001 := by
  refine ⟨Int.mul_nonneg hx.1 hy.1, ?_⟩
  have h1 : x * y ≤ 9999 * y := Int.mul_le_mul_of_nonneg_right hx.2 hy.1
  omega
theorem mulCell (n : Nat) (rec0 : (Int × List Int) → Option (List Int)) (xs ys : List Int) (rec1 : (Int × Int × List Int) → Option (List Int)) (c : Int) (j : Nat) (p zs : List Int) {x y z : Int}
    (hx : xs[p.length]? = some x) (hy : ys[j]? = some y) (hz : zs[j]? = some z) (hp : p.length ≤ 1000) (hj : j ≤ 1000)
    (bx : 0 ≤ x ∧ x ≤ 9999) (by' : 0 ≤ y ∧ y ≤ 9999) (bz : 0 ≤ z ∧ z ≤ 9999) (bc : 0 ≤ c ∧ c ≤ 9999) :
    Dspec_l1MulMag_1 n rec0 xs ys (p.length : Int) rec1 (c, (j : Int), p ++ zs) = rec1 ((x * y + z + c) / 10000, ((j + 1 : Nat) : Int), p ++ zs.set j ((x * y + z + c) % 10000)) := by
  have hjl : j < ys.length := (List.getElem?_eq_some_iff.1 hy).1
  have hb := mul_nn bx by'
  have e : w64 ((p.length : Int) + (j : Int)) = ((p.length + j : Nat) : Int) := by rw [w64_id (by omega) (by omega)]; omega
  rw [mulStep1, dec_t (by omega), frk_t, lget_nat, hx, Option.bind_some, lget_nat, hy, Option.bind_some, e, lget_nat, get_pre, hz, Option.bind_some, Option.bind_some, Int.toNat_natCast, set_pre]
  rw [w64_id (x := x * y) (by omega) (by omega), w64_id (x := x * y + z) (by omega) (by omega), w64_id (x := x * y + z + c) (by omega) (by omega), Int.tdiv_eq_ediv_of_nonneg (by omega), Int.tmod_eq_emod_of_nonneg (by omega), w64_id (by omega) (by omega), w64_suc (by unfold big; omega)]
theorem mulRow (n : Nat) (rec0 : (Int × List Int) → Option (List Int)) (xs : List Int) (y0 y1 : Int) (m : Nat) (p zs : List Int) {x z0 z1 z2 : Int}
    (hx : xs[p.length]? = some x) (hp : p.length ≤ 1000) (hm : 3 ≤ m)
    (bx : 0 ≤ x ∧ x ≤ 9999) (by0 : 0 ≤ y0 ∧ y0 ≤ 9999) (by1 : 0 ≤ y1 ∧ y1 ≤ 9999) (bz0 : 0 ≤ z0 ∧ z0 ≤ 9999) (bz1 : 0 ≤ z1 ∧ z1 ≤ 9999) :
    ∃ d0 d1 c, loopN (Dspec_l1MulMag_1 n rec0 xs [y0, y1] (p.length : Int)) m (0, 0, p ++ z0 :: z1 :: z2 :: zs) = rec0 (((p.length + 1 : Nat) : Int), p ++ d0 :: d1 :: c :: zs) ∧
      (0 ≤ d0 ∧ d0 ≤ 9999) ∧ (0 ≤ d1 ∧ d1 ≤ 9999) ∧ (0 ≤ c ∧ c ≤ 9999) ∧ d0 + 10000 * d1 + 100000000 * c = x * y0 + 10000 * (x * y1) + z0 + 10000 * z1 := by
  obtain ⟨m, rfl⟩ : ∃ j, m = j + 3 := ⟨m - 3, by omega⟩
  have h0 := mul_nn bx by0
  have h1 := mul_nn bx by1
  have s1 := mulCell n rec0 xs [y0, y1] (loopN (Dspec_l1MulMag_1 n rec0 xs [y0, y1] (p.length : Int)) (m + 2)) 0 0 p (z0 :: z1 :: z2 :: zs) hx (y := y0) rfl rfl hp (by omega) bx by0 bz0 (by omega)
  have s2 := mulCell n rec0 xs [y0, y1] (loopN (Dspec_l1MulMag_1 n rec0 xs [y0, y1] (p.length : Int)) (m + 1)) ((x * y0 + z0 + 0) / 10000) 1 p ((x * y0 + z0 + 0) % 10000 :: z1 :: z2 :: zs) hx (y := y1) rfl rfl hp (by omega) bx by1 bz1 (by omega)
  refine ⟨(x * y0 + z0 + 0) % 10000, (x * y1 + z1 + (x * y0 + z0 + 0) / 10000) % 10000, (x * y1 + z1 + (x * y0 + z0 + 0) / 10000) / 10000, ?_, by omega, by omega, by omega, by omega⟩
  rw [loop_suc]
  refine s1.trans ?_
  rw [loop_suc]
  refine s2.trans ?_
  rw [loop_suc, mulStep1, dec_f (by show ¬ (((1 + 1 : Nat) : Int) < ((2 : Nat) : Int)); omega), frk_f]
  unfold Dspec_l1MulMag_0
  have e : w64 ((p.length : Int) + (([y0, y1] : List Int).length : Int)) = ((p.length + 2 : Nat) : Int) := by
    show w64 ((p.length : Int) + ((2 : Nat) : Int)) = _
    rw [w64_id (by omega) (by omega)]; omega
  rw [e, lget_nat, get_pre, Int.toNat_natCast, set_pre, w64_suc (by unfold big; omega)]
  rfl
theorem vl_rep (k : Nat) : vl (List.replicate k 0) = 0 := by
  induction k with
  | zero => rfl
  | succ k ih => rw [List.replicate_succ]; unfold vl; omega
theorem Dg_rep (k : Nat) : Dg (List.replicate k 0) := fun d hd => by have := (List.mem_replicate.1 hd).2; omega
theorem mulLoop (n : Nat) (y0 y1 : Int) (by0 : 0 ≤ y0 ∧ y0 ≤ 9999) (by1 : 0 ≤ y1 ∧ y1 ≤ 9999) (hn : 3 ≤ n) {xs : List Int} (hD : Dg xs) (hl : xs.length ≤ 100) :
    ∀ (k m : Nat) (p : List Int) (z0 z1 : Int), p.length + k = xs.length → k < m → 0 ≤ z0 ∧ z0 ≤ 9999 → 0 ≤ z1 ∧ z1 ≤ 9999 →
    ∃ r, loopN (Dspec_l1MulMag_2 n xs [y0, y1]) m ((p.length : Int), p ++ z0 :: z1 :: List.replicate k 0) = some (p ++ r) ∧ Dg r ∧ vl r = z0 + 10000 * z1 + vl (xs.drop p.length) * (y0 + 10000 * y1) ∧ r.length = k + 2 := by
  intro k
  induction k with
  | zero =>
    intro m p z0 z1 h0 hm b0 b1
    obtain ⟨m, rfl⟩ : ∃ j, m = j + 1 := ⟨m - 1, by omega⟩
    refine ⟨[z0, z1], ?_, Dg.cons b0.1 b0.2 (Dg.cons b1.1 b1.2 Dg.nil), ?_, rfl⟩
    · rw [loop_suc, mulStep2, dec_f (by omega), frk_f]; rfl
    · rw [List.drop_eq_nil_of_le (by omega)]; simp [vl]
  | succ k ih =>
    intro m p z0 z1 h0 hm b0 b1
    obtain ⟨m, rfl⟩ : ∃ j, m = j + 1 := ⟨m - 1, by omega⟩
    obtain ⟨x, hx⟩ : ∃ d, xs[p.length]? = some d := ⟨xs[p.length], List.getElem?_eq_getElem (by omega)⟩
    have bx := hD.get hx
    obtain ⟨d0, d1, c, e1, q0, q1, q2, q3⟩ := mulRow n (loopN (Dspec_l1MulMag_2 n xs [y0, y1]) m) xs y0 y1 n p (List.replicate k 0) (z2 := 0) hx (by omega) hn bx by0 by1 b0 b1
    obtain ⟨r, r1, r2, r3, r4⟩ := ih m (p ++ [d0]) d1 c (by simp; omega) (by omega) q1 q2
    refine ⟨d0 :: r, ?_, Dg.cons q0.1 q0.2 r2, ?_, by rw [List.length_cons, r4]⟩
    · rw [loop_suc, mulStep2, dec_t (by omega), frk_t, List.replicate_succ, e1]
      have e2 : (p ++ [d0]).length = p.length + 1 := by simp
      rw [e2, List.append_assoc, List.append_assoc] at r1
      exact r1
    · have e2 : (p ++ [d0]).length = p.length + 1 := by simp
      rw [e2] at r3
      rw [vl_drop_s hx]
      show d0 + 10000 * vl r = _
      rw [r3]
      generalize vl (xs.drop (p.length + 1)) = V
      have e3 : (x + 10000 * V) * (y0 + 10000 * y1) = (x * y0 + 10000 * (x * y1)) + 10000 * (V * (y0 + 10000 * y1)) := by
        rw [Int.add_mul, Int.mul_add, Int.mul_assoc 10000]
        congr 2
        rw [← Int.mul_assoc, Int.mul_comm x 10000, Int.mul_assoc]
      rw [e3]
      generalize V * (y0 + 10000 * y1) = W
      omega
theorem mkB8 {k : Int} (h : 0 ≤ k) (h2 : k ≤ 1000000) : mkB k 8 = true := by
  simp only [mkB, Bool.and_eq_true, decide_eq_true_eq]; omega
theorem mulOk (n : Nat) (y0 y1 : Int) (by0 : 0 ≤ y0 ∧ y0 ≤ 9999) (by1 : 0 ≤ y1 ∧ y1 ≤ 9999) {xs : List Int} (hD : Dg xs) (hl : xs.length ≤ 100) (hn : 101 ≤ n) :
    ∃ r, Dspec_l1MulMag n xs [y0, y1] = some r ∧ Dg r ∧ vl r = vl xs * (y0 + 10000 * y1) ∧ r.length = xs.length + 2 := by
  have e : w64 ((xs.length : Int) + (([y0, y1] : List Int).length : Int)) = ((xs.length + 2 : Nat) : Int) := by
    show w64 ((xs.length : Int) + ((2 : Nat) : Int)) = _
    rw [w64_id (by omega) (by omega)]; omega
  obtain ⟨r, r1, r2, r3, r4⟩ := mulLoop n y0 y1 by0 by1 (by omega) hD hl xs.length n [] 0 0 (by simp) (by omega) (by omega) (by omega)
  refine ⟨r, ?_, r2, by rw [r3]; show 0 + 10000 * 0 + vl (xs.drop 0) * _ = _; rw [List.drop_zero]; omega, r4⟩
  unfold Dspec_l1MulMag
  rw [e, chk_eq (mkB8 (by omega) (by omega)), Int.toNat_natCast]
  exact r1
end Evl.T

/-! Esg -/
namespace Evl.T
open Go Evl

def BIG : Nat := 1000000000000
theorem divStep0 (n : Nat) (rec0 : (Int × List Int × List Int) → Option ((List Int) × (List Int))) (t0 t1 : List Int) (t8 : Int) (rec1 : (List Int × List Int) → Option ((List Int) × (List Int))) (l12 l29 : List Int) :
    Dspec_l1DivMag_0 n rec0 t0 t1 t8 rec1 (l12, l29) = (Dspec_l1CmpMag n l29 t1).bind fun v4 => frk (decide (v4 ≥ 0)) ((Dspec_l1Guess n l29 t1).bind fun v5 => (lget l12 t8).bind fun v6 => (lget l12 t8).bind fun _v7 => (Dspec_l1MulMag n t1 [Int.tmod v5 10000, w64 (Int.tdiv v5 10000)]).bind fun v8 => (Dspec_l1Num n false v8).bind fun v9 => (Dspec_l1SubMag n l29 v9.D).bind fun v10 => (Dspec_l1Num n false v10).bind fun v11 => rec1 ((l12.set (Int.toNat t8) (w64 (v6 + v5))), v11.D)) (rec0 (w64 (t8 - 1), l12, l29)) := rfl
theorem divStep1 (n : Nat) (t0 t1 : List Int) (rec0 : (Int × List Int × List Int) → Option ((List Int) × (List Int))) (t8 : Int) (l12 l13 : List Int) :
    Dspec_l1DivMag_1 n t0 t1 rec0 (t8, l12, l13) = frk (decide (t8 ≥ 0)) ((lget t0 t8).bind fun v1 => chk (apB 8 (1 + l13.length)) ((Dspec_l1Num n false ([v1] ++ l13)).bind fun v3 => loopN (Dspec_l1DivMag_0 n rec0 t0 t1 t8) n (l12, v3.D))) (some (l12, l13)) := rfl
theorem divOut (n : Nat) (rec0 : (Int × List Int × List Int) → Option ((List Int) × (List Int))) (t0 : List Int) (i : Nat) (q : List Int) (x b m : Nat) (hx : x < b) (hb : b < 1000000000000) (hn : 101 ≤ n) (hi : i ≤ 1000) (hm : 1 ≤ m) :
    loopN (Dspec_l1DivMag_0 n rec0 t0 (dg b) (i : Int)) m (q, dg x) = rec0 ((i : Int) - 1, q, dg x) := by
  obtain ⟨m, rfl⟩ : ∃ j, m = j + 1 := ⟨m - 1, by omega⟩
  obtain ⟨r, h1, h2⟩ := cmpOk n x b (by have := dg_len3 (show x < 1000000000000 by omega); omega) (by have := dg_len3 hb; omega) hn
  rw [loop_suc, divStep0, h1, Option.bind_some, dec_f (by omega), frk_f, w64_id (by omega) (by omega)]
theorem set_same {l : List Int} {i : Nat} (h : l[i]? = some 0) : l.set i 0 = l := by
  apply List.ext_getElem?
  intro j
  rw [List.getElem?_set]
  split
  · rename_i hj
    subst hj
    have := (List.getElem?_eq_some_iff.1 h).1
    rw [if_pos this, h]
  · rfl
theorem divIn (n : Nat) (rec0 : (Int × List Int × List Int) → Option ((List Int) × (List Int))) (t0 : List Int) (i : Nat) (q : List Int) (x b : Nat) (hx : x < 1000000000000) (hb0 : 0 < b) (hb : b < 1000000000000) (hq : x / b ≤ 9999) (hi : i ≤ 1000) (hz : q[i]? = some 0) (hn : 101 ≤ n) :
    loopN (Dspec_l1DivMag_0 n rec0 t0 (dg b) (i : Int)) n (q, dg x) = rec0 ((i : Int) - 1, q.set i ((x / b : Nat) : Int), dg (x % b)) := by
  by_cases h : x < b
  · rw [divOut n rec0 t0 i q x b n h hb hn hi (by omega), Nat.div_eq_of_lt h, Nat.mod_eq_of_lt h]
    rw [show ((0 : Nat) : Int) = 0 from rfl, set_same hz]
  · obtain ⟨m, hm⟩ : ∃ j, n = j + 1 := ⟨n - 1, by omega⟩
    have l1 := dg_len3 hx
    have l2 := dg_len3 hb
    obtain ⟨r, h1, h2⟩ := cmpOk n x b (by omega) (by omega) hn
    have hg := guessOk n x b hx hb0 (by omega) (by omega)
    have hy0 : (0 : Int) ≤ ((x / b : Nat) : Int) := Int.natCast_nonneg _
    have hy : (0 : Int) ≤ ((x / b : Nat) : Int) ∧ ((x / b : Nat) : Int) ≤ 9999 := by omega
    obtain ⟨P, p1, p2, p3, p4⟩ := mulOk n ((x / b : Nat) : Int) 0 hy (by omega) (Dg_dg b) (by omega) hn
    have hmul : b * (x / b) ≤ x := Nat.mul_div_le x b
    have hmod : x % b = x - b * (x / b) := by have := Nat.div_add_mod x b; omega
    have p3' : vl P = ((b * (x / b) : Nat) : Int) := by
      rw [p3, vl_dg, show ((x / b : Nat) : Int) + 10000 * 0 = ((x / b : Nat) : Int) by omega]; exact (Int.natCast_mul _ _).symm
    have hP := numOk n false P p2 (by omega) p3' (by omega)
    obtain ⟨R, r1, r2, r3, r4⟩ := subOk n (Dg_dg x) (Dg_dg (b * (x / b))) (by omega) (by rw [vl_dg, vl_dg]; omega) hn
    have r3' : vl R = ((x % b : Nat) : Int) := by rw [r3, vl_dg, vl_dg]; omega
    have hR := numOk n false R r2 (by omega) r3' (by omega)
    have hgen : loopN (Dspec_l1DivMag_0 n rec0 t0 (dg b) (i : Int)) (m + 1) (q, dg x) = rec0 ((i : Int) - 1, q.set i ((x / b : Nat) : Int), dg (x % b)) := by
      rw [loop_suc, divStep0, h1, Option.bind_some, dec_t (by omega), frk_t, hg, Option.bind_some, lget_nat, hz, Option.bind_some, Option.bind_some]
      have e1 : Int.tmod ((x / b : Nat) : Int) 10000 = ((x / b : Nat) : Int) := by rw [Int.tmod_eq_emod_of_nonneg (by omega)]; omega
      have e2 : w64 (Int.tdiv ((x / b : Nat) : Int) 10000) = 0 := by rw [Int.tdiv_eq_ediv_of_nonneg (by omega), w64_id (by omega) (by omega)]; omega
      rw [e1, e2, p1, Option.bind_some, hP, Option.bind_some]
      show ((Dspec_l1SubMag n (dg x) (dg (b * (x / b)))).bind _) = _
      rw [r1, Option.bind_some, hR, Option.bind_some]
      rw [w64_id (x := 0 + ((x / b : Nat) : Int)) (by omega) (by omega), show (0 : Int) + ((x / b : Nat) : Int) = ((x / b : Nat) : Int) by omega, Int.toNat_natCast]
      exact divOut n rec0 t0 i _ (x % b) b m (Nat.mod_lt _ hb0) hb hn hi (by omega)
    rw [← hm] at hgen
    exact hgen
theorem divLoop (n A b : Nat) (hA : A < 1000000000000) (hb0 : 0 < b) (hb : b < 1000000000000) (hn : 101 ≤ n) : ∀ (i m : Nat) (qh : List Int) (H : Nat), i ≤ (dg A).length → i < m → vl ((dg A).drop i) = H → Dg qh → vl qh = ((H / b : Nat) : Int) →
    ∃ q, loopN (Dspec_l1DivMag_1 n (dg A) (dg b)) m ((i : Int) - 1, List.replicate i 0 ++ qh, dg (H % b)) = some (q, dg (A % b)) ∧ Dg q ∧ vl q = ((A / b : Nat) : Int) ∧ q.length = i + qh.length := by
  have l1 := dg_len3 hA
  intro i
  induction i with
  | zero =>
    intro m qh H _ hm hH hD hv
    obtain ⟨m, rfl⟩ : ∃ j, m = j + 1 := ⟨m - 1, by omega⟩
    rw [List.drop_zero, vl_dg] at hH
    have : A = H := by omega
    subst this
    exact ⟨qh, by rw [loop_suc, divStep1, dec_f (by omega), frk_f]; rfl, hD, hv, by omega⟩
  | succ i ih =>
    intro m qh H hi hm hH hD hv
    obtain ⟨m, rfl⟩ : ∃ j, m = j + 1 := ⟨m - 1, by omega⟩
    obtain ⟨d, hd⟩ : ∃ d, (dg A)[i]? = some d := ⟨(dg A)[i], List.getElem?_eq_getElem (by omega)⟩
    have hdb := (Dg_dg A).get hd
    obtain ⟨e, rfl⟩ : ∃ e : Nat, d = e := ⟨d.toNat, by omega⟩
    have hlt := Nat.mod_lt H hb0
    have hdm := Nat.div_add_mod H b
    have hH' : vl ((dg A).drop i) = ((e + 10000 * H : Nat) : Int) := by rw [vl_drop_s hd, hH]; omega
    have hle := vl_drop_le (Dg_dg A) i
    rw [hH', vl_dg] at hle
    have hmodle : H % b ≤ H := Nat.mod_le H b
    have lr := dg_len3 (show H % b < 1000000000000 by omega)
    have hx : e + 10000 * (H % b) < 1000000000000 := by omega
    have hsplit : e + 10000 * H = (e + 10000 * (H % b)) + b * (10000 * (H / b)) := by
      have : b * (10000 * (H / b)) = 10000 * (b * (H / b)) := by rw [← Nat.mul_assoc, Nat.mul_comm b 10000, Nat.mul_assoc]
      omega
    have hdiv : (e + 10000 * H) / b = (e + 10000 * (H % b)) / b + 10000 * (H / b) := by rw [hsplit, Nat.add_mul_div_left _ _ hb0]
    have hmod : (e + 10000 * H) % b = (e + 10000 * (H % b)) % b := by rw [hsplit, Nat.add_mul_mod_self_left]
    have hq : (e + 10000 * (H % b)) / b ≤ 9999 := by
      have : (e + 10000 * (H % b)) / b < 10000 := by rw [Nat.div_lt_iff_lt_mul hb0]; omega
      omega
    have hnum := numOk n false ([(e : Int)] ++ dg (H % b)) (Dg.cons hdb.1 hdb.2 (Dg_dg _)) (by simp; omega) (v := e + 10000 * (H % b)) (by show (e : Int) + 10000 * vl (dg (H % b)) = _; rw [vl_dg]; omega) (by simp; omega)
    have hz : (List.replicate (i + 1) (0 : Int) ++ qh)[i]? = some 0 := by
      rw [List.getElem?_append_left (by simp)]; simp
    have hin := divIn n (loopN (Dspec_l1DivMag_1 n (dg A) (dg b)) m) (dg A) i (List.replicate (i + 1) 0 ++ qh) (e + 10000 * (H % b)) b hx hb0 hb hq (by omega) hz hn
    have hset : (List.replicate (i + 1) (0 : Int) ++ qh).set i (((e + 10000 * (H % b)) / b : Nat) : Int) = List.replicate i 0 ++ ((((e + 10000 * (H % b)) / b : Nat) : Int) :: qh) := by
      have e1 : List.replicate (i + 1) (0 : Int) ++ qh = List.replicate i 0 ++ (0 :: qh) := by
        rw [List.replicate_succ']; simp
      have e2 := set_pre (List.replicate i (0 : Int)) 0 (0 :: qh) (((e + 10000 * (H % b)) / b : Nat) : Int)
      rw [List.length_replicate] at e2
      rw [e1]; exact e2
    have hy0 : (0 : Int) ≤ (((e + 10000 * (H % b)) / b : Nat) : Int) := Int.natCast_nonneg _
    obtain ⟨q, q1, q2, q3, q4⟩ := ih m ((((e + 10000 * (H % b)) / b : Nat) : Int) :: qh) (e + 10000 * H) (by omega) (by omega) hH' (Dg.cons hy0 (by omega) hD) (by
      show (((e + 10000 * (H % b)) / b : Nat) : Int) + 10000 * vl qh = _
      rw [hv, hdiv]; omega)
    refine ⟨q, ?_, q2, q3, by rw [q4, List.length_cons]; omega⟩
    have ei : ((i + 1 : Nat) : Int) - 1 = (i : Int) := by omega
    rw [loop_suc, divStep1, ei, dec_t (by omega), frk_t, lget_nat, hd, Option.bind_some, chk_eq (apB8 (by omega)), hnum, Option.bind_some]
    refine hin.trans ?_
    rw [hset, ← hmod]
    exact q1
theorem divOk (n A b : Nat) (hA : A < 1000000000000) (hb0 : 0 < b) (hb : b < 1000000000000) (hn : 101 ≤ n) :
    ∃ q, Dspec_l1DivMag n (dg A) (dg b) = some (q, dg (A % b)) ∧ Dg q ∧ vl q = ((A / b : Nat) : Int) ∧ q.length ≤ 3 := by
  have l1 := dg_len3 hA
  obtain ⟨q, q1, q2, q3, q4⟩ := divLoop n A b hA hb0 hb hn (dg A).length n [] 0 (Nat.le_refl _) (by omega) (by rw [List.drop_length]; rfl) Dg.nil (by simp [vl])
  refine ⟨q, ?_, q2, q3, by rw [q4]; simpa using l1⟩
  unfold Dspec_l1DivMag
  rw [chk_eq (mkB8 (by omega) (by omega)), w64_id (by omega) (by omega), Int.toNat_natCast]
  rw [Nat.zero_mod, dg_zero, List.append_nil] at q1
  exact q1

/-! the greatest divisor -/
theorem gcdStep (n : Nat) (rec0 : (List Int × List Int) → Option (List Int)) (t0 t1 : List Int) :
    Dspec_l1Gcd_0 n rec0 (t0, t1) = frk (decide ((t1.length : Int) > 0)) ((Dspec_l1DivMag n t0 t1).bind fun v0 => rec0 (t1, v0.2)) (some t0) := rfl
theorem gcdLoop (n : Nat) (hn : 101 ≤ n) : ∀ (b a m : Nat), b < m → a < 1000000000000 → b < 1000000000000 → loopN (Dspec_l1Gcd_0 n) m (dg a, dg b) = some (dg (Nat.gcd a b)) := by
  intro b
  induction b using Nat.strongRecOn with
  | ind b ih =>
    intro a m hm ha hb
    obtain ⟨m, rfl⟩ : ∃ j, m = j + 1 := ⟨m - 1, by omega⟩
    rw [loop_suc, gcdStep]
    by_cases h : b = 0
    · subst h; rw [dg_zero, dec_f (by simp), frk_f, Nat.gcd_zero_right]
    · have hp := List.length_pos_iff.2 (dg_ne.2 (show 0 < b by omega))
      obtain ⟨q, q1, -, -, -⟩ := divOk n a b ha (by omega) hb hn
      have hlt := Nat.mod_lt a (show b > 0 by omega)
      rw [dec_t (by omega), frk_t, q1, Option.bind_some]
      refine (ih (a % b) hlt b m (by omega) hb (by omega)).trans ?_
      rw [Nat.gcd_comm b, Nat.gcd_comm a, Nat.gcd_rec b a]
theorem gcd_lt {a b : Nat} (ha : a < 1000000000000) (hb : b < 1000000000000) : Nat.gcd a b < 1000000000000 := by
  by_cases h : b = 0
  · subst h; rw [Nat.gcd_zero_right]; exact ha
  · exact Nat.lt_of_le_of_lt (Nat.gcd_le_right a (by omega)) hb
theorem gcdOk (n : Nat) (g1 g2 : Bool) (a b : Nat) (ha : a < 1000000000000) (hb : b < 1000000000000) (h1 : g1 = true → 0 < a) (h2 : g2 = true → 0 < b) (hbn : b < n) (hn : 101 ≤ n) :
    Dspec_Gcd n ⟨g1, dg a⟩ ⟨g2, dg b⟩ = some ⟨false, dg (Nat.gcd a b)⟩ := by
  unfold Dspec_Gcd
  rw [magOk n g1 a ha h1 (by omega), Option.bind_some, magOk n g2 b hb h2 (by omega), Option.bind_some]
  unfold Dspec_l1Gcd
  rw [gcdLoop n hn b a n hbn ha hb, Option.bind_some, numOk n false _ (Dg_dg _) (by have := dg_len3 (gcd_lt ha hb); omega) (vl_dg _) (by have := dg_len3 (gcd_lt ha hb); omega)]
  rfl
def nm (x : Int) : Num := ⟨decide (x < 0), dg x.natAbs⟩
theorem ngStep (n : Nat) (t0 : List Num) (b : Bool) (rec0 : (Int × Bool × List Int) → Option Num) (t4 : Int) (b3_0 : Bool) (b3_1 : List Int) :
    Dspec_l3NumGcd_0 n t0 b rec0 (t4, b3_0, b3_1) = frk (decide (t4 < (t0.length : Int))) ((lget t0 t4).bind fun v1 => (Dspec_Gcd n (Num.mk b3_0 b3_1) v1).bind fun v2 => rec0 (w64 (t4 + 1), v2.Neg, v2.D)) (some (Num.mk b3_0 b3_1)) := rfl
theorem ngOne (n : Nat) (l : List Num) (b : Bool) (rec0 : (Int × Bool × List Int) → Option Num) (i : Nat) (g : Nat) {x : Int} (hx : l[i]? = some (nm x)) (hg : g < 1000000000000) (hb : x.natAbs < 1000000000000) (hbn : x.natAbs < n) (hn : 101 ≤ n) (hi : i ≤ 100) :
    Dspec_l3NumGcd_0 n l b rec0 ((i : Int), false, dg g) = rec0 (((i + 1 : Nat) : Int), false, dg (Nat.gcd g x.natAbs)) := by
  have hil := (List.getElem?_eq_some_iff.1 hx).1
  have hk : Dspec_Gcd n ⟨false, dg g⟩ (nm x) = _ := gcdOk n false (decide (x < 0)) g x.natAbs hg hb (by simp) (by intro h; have := of_decide_eq_true h; omega) hbn hn
  rw [ngStep, dec_t (by omega), frk_t, lget_nat, hx, Option.bind_some, hk, Option.bind_some, w64_suc (by unfold big; omega)]
def g4 (a b c d : Int) : Nat := Nat.gcd (Nat.gcd (Nat.gcd a.natAbs b.natAbs) c.natAbs) d.natAbs
theorem ngOk (n : Nat) (a b c d : Int) (ha : a.natAbs < 1000000000000) (hb : b.natAbs < 1000000000000) (hc : c.natAbs < 1000000000000) (hd : d.natAbs < 1000000000000)
    (na : a.natAbs < n) (nb : b.natAbs < n) (nc : c.natAbs < n) (nd : d.natAbs < n) (hn : 101 ≤ n) : Dspec_l3NumGcd n [nm a, nm b, nm c, nm d] = some ⟨false, dg (g4 a b c d)⟩ := by
  unfold Dspec_l3NumGcd
  rw [ofOk n 0 (by decide) (by omega), Option.bind_some]
  obtain ⟨m, hm⟩ : ∃ j, n = j + 5 := ⟨n - 5, by omega⟩
  have key : loopN (Dspec_l3NumGcd_0 n [nm a, nm b, nm c, nm d] false) (m + 5) (((0 : Nat) : Int), false, dg 0) = some ⟨false, dg (g4 a b c d)⟩ := by
    rw [loop_suc, ngOne n _ _ _ 0 0 (x := a) rfl (by omega) ha na hn (by omega), Nat.gcd_zero_left]
    rw [loop_suc, ngOne n _ _ _ 1 _ (x := b) rfl ha hb nb hn (by omega)]
    rw [loop_suc, ngOne n _ _ _ 2 _ (x := c) rfl (gcd_lt ha hb) hc nc hn (by omega)]
    rw [loop_suc, ngOne n _ _ _ 3 _ (x := d) rfl (gcd_lt (gcd_lt ha hb) hc) hd nd hn (by omega)]
    rw [loop_suc, ngStep, dec_f (by show ¬ (((3 + 1 : Nat) : Int) < ((4 : Nat) : Int)); omega), frk_f]
    rfl
  rw [← hm] at key
  exact key

/-! Small -/
theorem smallStep (n : Nat) (l : List Int) (b0 : Bool) (b1 : List Int) (rec0 : (Int × Int) → Option (Int × Bool)) (t5 t6 : Int) :
    Dspec_Small_1 n l b0 b1 rec0 (t5, t6) = frk (decide (t6 ≥ 0)) (frk (decide (t5 > 922337203685477)) (some (0, false)) ((lget l t6).bind fun v1 => rec0 (IntKind.u64.wrap ((IntKind.u64.wrap (t5 * 10000)) + (IntKind.u64.wrap v1)), w64 (t6 - 1)))) (Dspec_Small_0 n t5 b0 b1) := rfl
theorem smallLoop (n : Nat) (b0 : Bool) (b1 : List Int) {a : List Int} (ha : Dg a) (hl : a.length ≤ 3) : ∀ (i m : Nat), i ≤ a.length → i < m →
    loopN (Dspec_Small_1 n a b0 b1) m (vl (a.drop i), (i : Int) - 1) = Dspec_Small_0 n (vl a) b0 b1 := by
  intro i
  induction i with
  | zero =>
    intro m _ hm
    obtain ⟨m, rfl⟩ : ∃ j, m = j + 1 := ⟨m - 1, by omega⟩
    rw [loop_suc, smallStep, dec_f (by omega), frk_f]; rfl
  | succ i ih =>
    intro m hi hm
    obtain ⟨m, rfl⟩ : ∃ j, m = j + 1 := ⟨m - 1, by omega⟩
    obtain ⟨x, hx⟩ : ∃ d, a[i]? = some d := ⟨a[i], List.getElem?_eq_getElem (by omega)⟩
    have e : ((i + 1 : Nat) : Int) - 1 = (i : Int) := by omega
    have b1' := vl_small ha hl
    have b2 := vl_drop_le ha i
    have b3 := vl_nn (ha.drop i)
    have b4 := vl_nn (ha.drop (i + 1))
    have b5 := ha.get hx
    have e2 := vl_drop_s hx
    rw [loop_suc, smallStep, e, dec_t (by omega), frk_t, dec_f (by omega), frk_f, lget_nat, hx, Option.bind_some]
    rw [u64w (x := vl (a.drop (i + 1)) * 10000) (by omega) (by omega), u64w (x := x) (by omega) (by omega), show vl (a.drop (i + 1)) * 10000 + x = vl (a.drop i) by omega, u64w (x := vl (a.drop i)) (by omega) (by omega), w64_id (x := (i : Int) - 1) (by omega) (by omega)]
    exact ih m (by omega) (by omega)
theorem smallOk (n : Nat) (g : Bool) (v : Nat) (hv : v < 1000000000000) (hg : g = true → 0 < v) (hn : 5 ≤ n) : Dspec_Small n ⟨g, dg v⟩ = some (if g then -(v : Int) else (v : Int), true) := by
  have l1 := dg_len3 hv
  unfold Dspec_Small
  rw [magOk n g v hv hg hn, Option.bind_some, dec_f (by omega), frk_f, w64_id (by omega) (by omega)]
  have e1 := smallLoop n g (dg v) (Dg_dg v) l1 (dg v).length n (Nat.le_refl _) (by omega)
  rw [List.drop_length] at e1
  have e1' : loopN (Dspec_Small_1 n (dg v) g (dg v)) n ((0 : Int), ((dg v).length : Int) - 1) = _ := e1
  rw [e1', vl_dg]
  unfold Dspec_Small_0
  rw [signOk n g v hv hg hn, Option.bind_some]
  cases g with
  | true =>
    have := hg rfl
    rw [frk_t, dec_f (by omega), frk_f, u64w (by omega) (by omega), w64_id (x := (v : Int) - 1) (by omega) (by omega), w64_id (x := 0 - ((v : Int) - 1)) (by omega) (by omega), w64_id (by omega) (by omega)]
    simp only [if_true]; congr 2; omega
  | false =>
    rw [frk_f, dec_f (by omega), frk_f, w64_id (by omega) (by omega)]; rfl

/-! Primitive -/
/-- The whole part of x over g, with x's sign. -/
def pq (x : Int) (g : Nat) : Int := if x < 0 then -((x.natAbs / g : Nat) : Int) else ((x.natAbs / g : Nat) : Int)
theorem compStep {β : Type} (n : Nat) (x : Int) (g : Nat) (hx : x.natAbs < 1000000000000) (hg0 : 0 < g) (hg : g < 1000000000000) (hn : 101 ≤ n) (K : Int × Bool → Option β) :
    ((Dspec_l1DivMag n (dg x.natAbs) (dg g)).bind fun v5 => (Dspec_l1Num n (decide (x < 0)) v5.1).bind fun v6 => (Dspec_Small n v6).bind K) = K (pq x g, true) := by
  obtain ⟨q, q1, q2, q3, q4⟩ := divOk n x.natAbs g hx hg0 hg hn
  have hle : x.natAbs / g ≤ x.natAbs := Nat.div_le_self _ _
  have h00 : (0 : Int) ≤ ((x.natAbs / g : Nat) : Int) := Int.natCast_nonneg _
  rw [q1, Option.bind_some, numOk n _ q q2 (by omega) q3 (by omega), Option.bind_some, smallOk n _ _ (by omega) (by simp) (by omega), Option.bind_some]
  congr 2
  unfold pq
  by_cases h : x < 0
  · by_cases h2 : 0 < x.natAbs / g
    · rw [dec_t h, dec_t h2, if_pos h]; rfl
    · rw [dec_t h, dec_f h2, if_pos h]; simp only [Bool.and_false, Bool.false_eq_true, if_false]; omega
  · rw [dec_f h, if_neg h]; rfl
def prim (a b c d : Int) : Pl × Int :=
  if a = 0 ∧ b = 0 ∧ c = 0 then (⟨0, 0, 0, 0⟩, 1)
  else if rIn (pq a (g4 a b c d)) (-500) 500 && (rIn (pq b (g4 a b c d)) (-500) 500 && (rIn (pq c (g4 a b c d)) (-500) 500 && rIn (pq d (g4 a b c d)) (-500) 500)) then (⟨pq a (g4 a b c d), pq b (g4 a b c d), pq c (g4 a b c d), pq d (g4 a b c d)⟩, 0)
  else (⟨0, 0, 0, 0⟩, 2)
theorem g4_pos {a b c d : Int} (h : ¬ (a = 0 ∧ b = 0 ∧ c = 0)) : 0 < g4 a b c d := by
  unfold g4
  apply Nat.pos_of_ne_zero
  intro h0
  have h1 := (Nat.gcd_eq_zero_iff.1 h0).1
  have h2 := Nat.gcd_eq_zero_iff.1 h1
  have h3 := Nat.gcd_eq_zero_iff.1 h2.1
  omega
theorem prim_body (n : Nat) (a b c d : Int) (ha : a.natAbs < 1000000000000) (hb : b.natAbs < 1000000000000) (hc : c.natAbs < 1000000000000) (hd : d.natAbs < 1000000000000)
    (na : a.natAbs < n) (nb : b.natAbs < n) (nc : c.natAbs < n) (nd : d.natAbs < n) (hn : 101 ≤ n) (h0 : ¬ (a = 0 ∧ b = 0 ∧ c = 0)) : Dspec_Primitive_5 n a b c d 0 0 0 0 = some (prim a b c d) := by
  have hp := g4_pos (d := d) h0
  have hg : g4 a b c d < 1000000000000 := gcd_lt (gcd_lt (gcd_lt ha hb) hc) hd
  unfold prim
  rw [if_neg h0]
  unfold Dspec_Primitive_5
  have ea : Dspec_Of n a = some (nm a) := ofOk n a ha (by omega)
  have eb : Dspec_Of n b = some (nm b) := ofOk n b hb (by omega)
  have ec : Dspec_Of n c = some (nm c) := ofOk n c hc (by omega)
  have ed : Dspec_Of n d = some (nm d) := ofOk n d hd (by omega)
  rw [ea, Option.bind_some, eb, Option.bind_some, ec, Option.bind_some, ed, Option.bind_some, ngOk n a b c d ha hb hc hd na nb nc nd hn, Option.bind_some]
  refine (compStep n a (g4 a b c d) ha hp hg hn _).trans ?_
  rw [show (!(pq a (g4 a b c d), true).2) = false from rfl, frk_f, sIn, Option.bind_some]
  unfold Dspec_Primitive_1
  cases hA : rIn (pq a (g4 a b c d)) (-500) 500
  · rfl
  rw [show (!true) = false from rfl, frk_f, chk_eq (apB8 (by simp)), show lget [nm a, nm b, nm c, nm d] 1 = some (nm b) from rfl, Option.bind_some]
  refine (compStep n b (g4 a b c d) hb hp hg hn _).trans ?_
  rw [show (!(pq b (g4 a b c d), true).2) = false from rfl, frk_f, sIn, Option.bind_some]
  unfold Dspec_Primitive_2
  cases hB : rIn (pq b (g4 a b c d)) (-500) 500
  · rfl
  rw [show (!true) = false from rfl, frk_f, chk_eq (apB8 (by simp)), show lget [nm a, nm b, nm c, nm d] 2 = some (nm c) from rfl, Option.bind_some]
  refine (compStep n c (g4 a b c d) hc hp hg hn _).trans ?_
  rw [show (!(pq c (g4 a b c d), true).2) = false from rfl, frk_f, sIn, Option.bind_some]
  unfold Dspec_Primitive_3
  cases hC : rIn (pq c (g4 a b c d)) (-500) 500
  · rfl
  rw [show (!true) = false from rfl, frk_f, chk_eq (apB8 (by simp)), show lget [nm a, nm b, nm c, nm d] 3 = some (nm d) from rfl, Option.bind_some]
  refine (compStep n d (g4 a b c d) hd hp hg hn _).trans ?_
  rw [show (!(pq d (g4 a b c d), true).2) = false from rfl, frk_f, sIn, Option.bind_some]
  unfold Dspec_Primitive_4
  cases hE : rIn (pq d (g4 a b c d)) (-500) 500
  · rfl
  rw [show (!true) = false from rfl, frk_f, chk_eq (apB8 (by simp))]
  rfl
theorem primOk (n : Nat) (a b c d : Int) (ha : a.natAbs < 1000000000000) (hb : b.natAbs < 1000000000000) (hc : c.natAbs < 1000000000000) (hd : d.natAbs < 1000000000000)
    (na : a.natAbs < n) (nb : b.natAbs < n) (nc : c.natAbs < n) (nd : d.natAbs < n) (hn : 101 ≤ n) : Dspec_Primitive n a b c d = some (prim a b c d) := by
  unfold Dspec_Primitive
  by_cases h1 : a = 0
  · by_cases h2 : b = 0
    · by_cases h3 : c = 0
      · subst h1; subst h2; subst h3; rfl
      · have e := prim_body n a b c d ha hb hc hd na nb nc nd hn (by omega)
        rw [show (a == 0) = true by simpa using h1, frk_t, show (b == 0) = true by simpa using h2, frk_t]
        rw [show (c == 0) = false by simpa using h3]
        exact e
    · have e := prim_body n a b c d ha hb hc hd na nb nc nd hn (by omega)
      rw [show (a == 0) = true by simpa using h1, frk_t, show (b == 0) = false by simpa using h2, frk_f]
      exact e
  · have e := prim_body n a b c d ha hb hc hd na nb nc nd hn (by omega)
    rw [show (a == 0) = false by simpa using h1, frk_f]
    exact e
end Evl.T

/-! Eta -/
namespace Evl.T
open Go Evl

abbrev Cur := List Int × Int × Int
def CurOk (c : Cur) : Prop := 0 ≤ c.2.1 ∧ c.2.1 ≤ c.1.length ∧ c.1.length ≤ 1048576
theorem and255 (a : Int) : 0 ≤ bAnd .i64 a 255 ∧ bAnd .i64 a 255 ≤ 255 := by
  unfold bAnd
  have h1 : (BitVec.ofInt 64 a &&& BitVec.ofInt 64 255).toNat ≤ 255 := by
    rw [BitVec.toNat_and]
    have e : (BitVec.ofInt 64 255).toNat = 255 := by decide
    rw [e]; exact Nat.and_le_right
  have h2 : IntKind.i64.wrap (((BitVec.ofInt 64 a &&& BitVec.ofInt 64 255).toNat : Nat) : Int) = (((BitVec.ofInt 64 a &&& BitVec.ofInt 64 255).toNat : Nat) : Int) := w64_id (by omega) (by omega)
  show 0 ≤ IntKind.i64.wrap (((BitVec.ofInt 64 a &&& BitVec.ofInt 64 255).toNat : Nat) : Int) ∧ IntKind.i64.wrap (((BitVec.ofInt 64 a &&& BitVec.ofInt 64 255).toNat : Nat) : Int) ≤ 255
  rw [h2]; omega
theorem byteOk {c : Cur} (h : CurOk c) : ∃ v c', Dspec_l1Byte c = some (v, c') ∧ (0 ≤ v ∧ v ≤ 255) ∧ CurOk c' := by
  obtain ⟨l, i, s⟩ := c
  obtain ⟨h1, h2, h3⟩ := h
  simp only at h1 h2 h3
  unfold Dspec_l1Byte
  by_cases hi : i < (l.length : Int)
  · rw [dec_t hi, frk_t]
    obtain ⟨k, rfl⟩ : ∃ k : Nat, i = k := ⟨i.toNat, by omega⟩
    have hg : lget l (k : Int) = some l[k]! := by
      rw [lget_nat, List.getElem?_eq_getElem (by omega)]
      simp [List.getElem!_eq_getElem?_getD, List.getElem?_eq_getElem (show k < l.length by omega)]
    rw [hg, Option.bind_some, w64_suc (by unfold big; omega)]
    exact ⟨_, _, rfl, and255 _, by simp only; omega, by simp only; omega, h3⟩
  · rw [dec_f hi, frk_f]
    exact ⟨_, _, rfl, and255 _, h1, h2, h3⟩
theorem belowOk {c : Cur} (h : CurOk c) {a : Int} (h1 : 1 ≤ a) (h2 : a ≤ 256) : ∃ v c', Dspec_l1Below c a = some (v, c') ∧ (0 ≤ v ∧ v < a) ∧ CurOk c' := by
  unfold Dspec_l1Below
  rw [dec_f (by omega), frk_f, dec_t h2, frk_t]
  obtain ⟨v, c', e, hv, hc⟩ := byteOk h
  rw [e, Option.bind_some]
  unfold rm
  rw [if_neg (by omega), Option.bind_some]
  exact ⟨_, _, rfl, ⟨by simp only; rw [Int.tmod_eq_emod_of_nonneg hv.1]; exact Int.emod_nonneg _ (by omega), by simp only; rw [Int.tmod_eq_emod_of_nonneg hv.1]; exact Int.emod_lt_of_pos _ (by omega)⟩, hc⟩
theorem onceOk {c : Cur} (h : CurOk c) {a : Int} (h1 : 1 ≤ a) (h2 : a ≤ 256) : ∃ v c', Dspec_l1Once c a = some (v, c') ∧ CurOk c' := by
  obtain ⟨v, c', e, -, hc⟩ := belowOk h h1 h2
  unfold Dspec_l1Once
  rw [e, Option.bind_some]
  exact ⟨_, _, rfl, hc⟩
theorem intOk {c : Cur} (h : CurOk c) {l : List Int} (h1 : 1 ≤ l.length) (h2 : l.length ≤ 256) : ∃ v c', Dspec_l1Int c l = some (v, c') ∧ v ∈ l ∧ CurOk c' := by
  obtain ⟨v, c', e, hv, hc⟩ := belowOk h (a := (l.length : Int)) (by omega) (by omega)
  unfold Dspec_l1Int
  rw [e, Option.bind_some]
  obtain ⟨k, rfl⟩ : ∃ k : Nat, v = k := ⟨v.toNat, by omega⟩
  have hg := List.getElem?_eq_getElem (show k < l.length by omega)
  rw [show lget l (k : Int) = some l[k] by rw [lget_nat, hg], Option.bind_some]
  exact ⟨_, _, rfl, List.getElem_mem _, hc⟩
theorem coefOk {c : Cur} (h : CurOk c) : ∃ v c', Dspec_l3Coef c = some (v, c') ∧ (-5 ≤ v ∧ v ≤ 5) ∧ CurOk c' := by
  obtain ⟨v, c1, e, hv, hc⟩ := belowOk h (a := 11) (by omega) (by omega)
  unfold Dspec_l3Coef
  rw [e, Option.bind_some]
  obtain ⟨w, c2, e2, hw, hc2⟩ := intOk hc (l := [0, 0, 1, (-1), 2, (-3), w64 (v - 5)]) (by simp) (by simp)
  have e5 : w64 (v - 5) = v - 5 := w64_id (by omega) (by omega)
  simp only [e2, Option.bind_some]
  refine ⟨_, _, rfl, ?_, hc2⟩
  rw [e5] at hw
  simp only [List.mem_cons, List.not_mem_nil, or_false] at hw
  omega

/-! a primitive plane is right -/
theorem pq_abs (x : Int) (g : Nat) : (pq x g).natAbs = x.natAbs / g := by
  unfold pq
  split
  · rw [Int.natAbs_neg, Int.natAbs_natCast]
  · rw [Int.natAbs_natCast]
theorem prim_right {a b c d : Int} (h : (prim a b c d).2 = 0) : pOk (prim a b c d).1 = true := by
  unfold prim at h ⊢
  by_cases h0 : a = 0 ∧ b = 0 ∧ c = 0
  · rw [if_pos h0] at h; cases h
  · rw [if_neg h0] at h ⊢
    split at h
    · rename_i hr
      rw [if_pos hr]
      simp only [Bool.and_eq_true] at hr
      have hp := g4_pos (d := d) h0
      have hgd : g4 a b c d ∣ Nat.gcd (Nat.gcd a.natAbs b.natAbs) c.natAbs := Nat.gcd_dvd_left _ _
      have hdd : g4 a b c d ∣ d.natAbs := Nat.gcd_dvd_right _ _
      have hcd := Nat.dvd_trans hgd (Nat.gcd_dvd_right _ _)
      have hab := Nat.dvd_trans hgd (Nat.gcd_dvd_left _ _)
      have had := Nat.dvd_trans hab (Nat.gcd_dvd_left _ _)
      have hbd := Nat.dvd_trans hab (Nat.gcd_dvd_right _ _)
      have nz : ∀ {x : Int}, x ≠ 0 → g4 a b c d ∣ x.natAbs → pq x (g4 a b c d) ≠ 0 := fun {x} hx hd e => by
        have := pq_abs x (g4 a b c d)
        rw [e] at this
        have h1 : 0 < x.natAbs / g4 a b c d := Nat.div_pos (Nat.le_of_dvd (by omega) hd) hp
        simp at this; omega
      have e1 : decide (pq a (g4 a b c d) ≠ 0 ∨ pq b (g4 a b c d) ≠ 0 ∨ pq c (g4 a b c d) ≠ 0) = true := by
        apply decide_eq_true
        by_cases ha : a = 0
        · by_cases hb : b = 0
          · exact .inr (.inr (nz (fun e => h0 ⟨ha, hb, e⟩) hcd))
          · exact .inr (.inl (nz hb hbd))
        · exact .inl (nz ha had)
      have e2 : decide (Nat.gcd (Nat.gcd (pq a (g4 a b c d)).natAbs (pq b (g4 a b c d)).natAbs) (Nat.gcd (pq c (g4 a b c d)).natAbs (pq d (g4 a b c d)).natAbs) = 1) = true := by
        apply decide_eq_true
        rw [pq_abs, pq_abs, pq_abs, pq_abs]
        rw [Nat.gcd_div had hbd, Nat.gcd_div hcd hdd]
        have q1 : g4 a b c d ∣ Nat.gcd a.natAbs b.natAbs := Nat.dvd_gcd had hbd
        have q2 : g4 a b c d ∣ Nat.gcd c.natAbs d.natAbs := Nat.dvd_gcd hcd hdd
        rw [Nat.gcd_div q1 q2]
        have q3 : Nat.gcd (Nat.gcd a.natAbs b.natAbs) (Nat.gcd c.natAbs d.natAbs) = g4 a b c d := by unfold g4; rw [Nat.gcd_assoc (Nat.gcd a.natAbs b.natAbs)]
        rw [q3]; exact Nat.div_self hp
      unfold pOk
      rw [hr.1, hr.2.1, hr.2.2.1, hr.2.2.2, e1, e2]; rfl
    · cases h

theorem drawP {a b c : Int} (ha : -5 ≤ a ∧ a ≤ 5) (hb : -5 ≤ b ∧ b ≤ 5) (hc : -5 ≤ c ∧ c ≤ 5) {k : Cur} (h : CurOk k) :
    ∃ p k', (∀ n, 1000 ≤ n → Dspec_l3Draw_0 n a b c 0 0 0 0 k.1 k.2.1 k.2.2 = some (p, k')) ∧ pOk p = true ∧ CurOk k' := by
  obtain ⟨v, c1, e, hv, h1⟩ := belowOk (c := (k.1, k.2.1, k.2.2)) h (a := 25) (by omega) (by omega)
  obtain ⟨w, c2, e2, hw, h2⟩ := intOk h1 (l := [0, 1, (-1), 2, (-4), w64 (v - 12), 500, (-500)]) (by simp) (by simp)
  have e5 : w64 (v - 12) = v - 12 := w64_id (by omega) (by omega)
  have hw0 := hw
  rw [e5] at hw
  simp only [List.mem_cons, List.not_mem_nil, or_false] at hw
  have hw' : -500 ≤ w ∧ w ≤ 500 := by omega
  have step : ∀ n, 1000 ≤ n → Dspec_l3Draw_0 n a b c 0 0 0 0 k.1 k.2.1 k.2.2 = frk ((prim a b c w).2 != 0) (some ((Pl.mk 0 0 1 (-1)), c2)) (some ((prim a b c w).1, c2)) := by
    intro n hn
    unfold Dspec_l3Draw_0
    rw [e, Option.bind_some]
    simp only [e2, Option.bind_some]
    rw [primOk n a b c w (by omega) (by omega) (by omega) (by omega) (by omega) (by omega) (by omega) (by omega) (by omega), Option.bind_some]
  by_cases hz : (prim a b c w).2 = 0
  · refine ⟨_, _, fun n hn => ?_, prim_right hz, h2⟩
    rw [step n hn, show ((prim a b c w).2 != 0) = false by simpa using hz, frk_f]
  · refine ⟨⟨0, 0, 1, -1⟩, _, fun n hn => ?_, by decide, h2⟩
    rw [step n hn, show ((prim a b c w).2 != 0) = true by simpa using hz, frk_t]
theorem drawOk {k : Cur} (h : CurOk k) : ∃ p k', (∀ n, 1000 ≤ n → Dspec_l3Draw n k = some (p, k')) ∧ pOk p = true ∧ CurOk k' := by
  obtain ⟨a, k1, e1, ha, h1⟩ := coefOk h
  obtain ⟨b, k2, e2, hb, h2⟩ := coefOk h1
  obtain ⟨c, k3, e3, hc, h3⟩ := coefOk h2
  obtain ⟨o, k4, e4, h4⟩ := onceOk h3 (a := 2) (by omega) (by omega)
  have fin : ∀ {x y z : Int} {k5 : Cur}, (-5 ≤ x ∧ x ≤ 5) → (-5 ≤ y ∧ y ≤ 5) → (-5 ≤ z ∧ z ≤ 5) → CurOk k5 → (∀ n, Dspec_l3Draw n k = Dspec_l3Draw_0 n x y z 0 0 0 0 k5.1 k5.2.1 k5.2.2) → ∃ p k', (∀ n, 1000 ≤ n → Dspec_l3Draw n k = some (p, k')) ∧ pOk p = true ∧ CurOk k' := by
    intro x y z k5 hx hy hz h5 he
    obtain ⟨p, k', g1, g2, g3⟩ := drawP hx hy hz h5
    exact ⟨p, k', fun n hn => (he n).trans (g1 n hn), g2, g3⟩
  cases o with
  | false =>
    refine fin ha hb hc h4 fun n => ?_
    unfold Dspec_l3Draw
    simp only [e1, e2, e3, e4, Option.bind_some, frk_f]
  | true =>
    obtain ⟨s, k5, e5, hs, h5⟩ := intOk h4 (l := [1, (-1)]) (by simp) (by simp)
    have hs' : -5 ≤ s ∧ s ≤ 5 := by simp only [List.mem_cons, List.not_mem_nil, or_false] at hs; omega
    obtain ⟨o2, k6, e6, h6⟩ := onceOk h5 (a := 2) (by omega) (by omega)
    cases o2 with
    | true =>
      refine fin (x := 0) (z := 0) (by omega) hs' (by omega) h6 fun n => ?_
      unfold Dspec_l3Draw
      simp only [e1, e2, e3, e4, e5, e6, Option.bind_some, frk_t]
    | false =>
      obtain ⟨o3, k7, e7, h7⟩ := onceOk h6 (a := 2) (by omega) (by omega)
      cases o3 with
      | true =>
        refine fin (x := 0) (y := 0) (by omega) (by omega) hs' h7 fun n => ?_
        unfold Dspec_l3Draw
        simp only [e1, e2, e3, e4, e5, e6, e7, Option.bind_some, frk_t, frk_f]
      | false =>
        refine fin (y := 0) (z := 0) hs' (by omega) (by omega) h7 fun n => ?_
        unfold Dspec_l3Draw
        simp only [e1, e2, e3, e4, e5, e6, e7, Option.bind_some, frk_t, frk_f]
end Evl.T

/-! Eto -/
namespace Evl.T
open Go Evl

/-! how deep a tree is -/
inductive Dp : Sol → Nat → Prop
  | leaf {i p d} : Dp (.mk i p []) d
  | node {i p a b d} : Dp a d → Dp b d → Dp (.mk i p [a, b]) (d + 1)
theorem Dp.up {s : Sol} {d : Nat} (h : Dp s d) : ∀ {k}, d ≤ k → Dp s k := by
  induction h with
  | leaf => intro k _; exact .leaf
  | @node i p a b d _ _ iha ihb =>
    intro k hk
    obtain ⟨k, rfl⟩ : ∃ j, k = j + 1 := ⟨k - 1, by omega⟩
    exact .node (iha (by omega)) (ihb (by omega))
end Evl.T

/-! Etm -/
namespace Evl.T
open Go Evl
theorem sLeaf (b : Bool) : Dspec_Leaf b = some (lfS b) := rfl
theorem iLeaf (b : Bool) : Dimpl_Leaf b = some (lfS b) := rfl
end Evl.T

/-! Etx -/
namespace Evl.T
open Go Evl

theorem newStep (n : Nat) (l : List Int) (rec0 : (Int × Int) → Option Cur) (a b : Int) : Dspec_l1New_1 n l rec0 (a, b) = frk (decide (b < (l.length : Int))) (Dspec_l1New_0 n rec0 l a b (decide (b < 4000))) (some (l, 0, a)) := rfl
theorem newLoop (l : List Int) (hl : l.length ≤ 1048576) : ∀ (k i : Nat) (a : Int), i + k = l.length → ∃ c, (∀ n m, k < m → loopN (Dspec_l1New_1 n l) m (a, (i : Int)) = some c) ∧ CurOk c := by
  intro k
  induction k with
  | zero =>
    intro i a h
    refine ⟨(l, 0, a), fun n m hm => ?_, by show 0 ≤ (0 : Int); omega, by show (0 : Int) ≤ (l.length : Int); omega, hl⟩
    obtain ⟨m, rfl⟩ : ∃ j, m = j + 1 := ⟨m - 1, by omega⟩
    rw [loop_suc, newStep, dec_f (by omega), frk_f]
  | succ k ih =>
    intro i a h
    by_cases h4 : (i : Int) < 4000
    · have hg := List.getElem?_eq_getElem (show i < l.length by omega)
      obtain ⟨c, g1, g2⟩ := ih (i + 1) (bAnd .i64 (w64 ((w64 ((w64 (a * 137)) + (w64 l[i]))) + 11)) 1073741823) (by omega)
      refine ⟨c, fun n m hm => ?_, g2⟩
      obtain ⟨m, rfl⟩ : ∃ j, m = j + 1 := ⟨m - 1, by omega⟩
      rw [loop_suc, newStep, dec_t (by omega), frk_t]
      unfold Dspec_l1New_0
      rw [dec_t h4, frk_t, lget_nat, hg, Option.bind_some, w64_suc (by unfold big; omega)]
      exact g1 n m (by omega)
    · refine ⟨(l, 0, a), fun n m hm => ?_, by show 0 ≤ (0 : Int); omega, by show (0 : Int) ≤ (l.length : Int); omega, hl⟩
      obtain ⟨m, rfl⟩ : ∃ j, m = j + 1 := ⟨m - 1, by omega⟩
      rw [loop_suc, newStep, dec_t (by omega), frk_t]
      unfold Dspec_l1New_0
      rw [dec_f h4, frk_f]
theorem newOk {l : List Int} (hl : l.length ≤ 1048576) : ∃ c, (∀ n, l.length < n → Dspec_l1New n l = some c) ∧ CurOk c := by
  obtain ⟨c, g1, g2⟩ := newLoop l hl l.length 0 (w64 (142142 + (l.length : Int))) (by omega)
  exact ⟨c, fun n hn => g1 n n hn, g2⟩
end Evl.T

/-! Etf -/
namespace Evl.T
open Go Evl


theorem any_gt (l : List Pl) (f : Pl → Bool) : ((List.range' 0 l.length).any fun i => f (gt l i)) = l.any f := by
  rw [Bool.eq_iff_iff, List.any_eq_true, List.any_eq_true]
  constructor
  · rintro ⟨i, hi, h⟩
    have : i < l.length := by simpa using hi
    exact ⟨_, gt_mem this, h⟩
  · rintro ⟨x, hx, h⟩
    obtain ⟨i, hi, e⟩ := List.getElem_of_mem hx
    refine ⟨i, by simpa using hi, ?_⟩
    have := gt_some hi
    rw [List.getElem?_eq_getElem hi] at this
    rw [← Option.some.inj this, e]; exact h
theorem all_any (l : List Pl) (f : Pl → Bool) : l.all f = !l.any fun x => !f x := by
  induction l with
  | nil => rfl
  | cons x l ih => simp only [List.all_cons, List.any_cons, ih, Bool.not_or, Bool.not_not]
theorem all_mem {l : List Pl} (h : l.all pOk = true) : ∀ q ∈ l, pOk q = true := List.all_eq_true.1 h
theorem sRightL (l : List Pl) (hb : l.length ≤ big) : Ev fun n => Dspec_l6Right n l = some (l.all pOk && decide ((l.length : Int) ≤ 24)) := by
  refine (e_ge (l.length + 502)).mono fun n hn => ?_
  have h := search (F := Dspec_l6Right_0 n l) (len := l.length) (b := fun i => !pOk (gt l i)) (hit := some false) (miss := some (decide ((l.length : Int) ≤ 24))) hb ?_ ?_ l.length 0 n (by omega) (by omega)
  · show loopN _ _ _ = _
    rw [show (0 : Int) = ((0 : Nat) : Int) from rfl, h, any_gt l fun x => !pOk x, all_any]
    cases l.any fun x => !pOk x <;> rfl
  · intro rec i hi
    unfold Dspec_l6Right_0
    simp only [lt_dec hi, frk_t, lget_nat, gt_some hi, Option.bind_some, sPlaneOk n _ (by omega)]
    cases pOk (gt l i) <;> rfl
  · intro rec
    unfold Dspec_l6Right_0
    simp only [lt_self, frk_f]
/-- Has each plane room behind those ahead of it? -/
def opB (l : List Pl) : Bool := !(List.range' 0 l.length).any fun i => wth (l.take i) (gt l i)
theorem sOpenL (l : List Pl) (hl : ∀ q ∈ l, PB q) (hb : l.length ≤ big) : Ev fun n => Dspec_l6Open n l = some (opB l) := by
  refine (e_ge (l.length + 502)).mono fun n hn => ?_
  have e : opB l = !(List.range' 1 (l.length - 1)).any fun i => wth (l.take i) (gt l i) := by
    unfold opB
    cases l with
    | nil => rfl
    | cons x l => simp only [List.length_cons, List.range'_succ, List.any_cons, Nat.add_sub_cancel]; rfl
  have hF : ∀ rec (i : Nat), i < l.length → Dspec_l6Open_0 n l rec (i : Int) = cond (wth (l.take i) (gt l i)) (some false) (rec (w64 ((i : Int) + 1))) := by
    intro rec i hi
    unfold Dspec_l6Open_0
    simp only [lt_dec hi, frk_t, lget_nat, gt_some hi, Option.bind_some, lsl_take l i (by omega)]
    rw [sWith (l.take i) (gt l i) (fun q hq => hl q (List.mem_of_mem_take hq)) (hl _ (gt_mem hi)) (by rw [List.length_take]; omega) n (by rw [List.length_take]; omega), Option.bind_some, frk_cond]
  have hE : ∀ rec, Dspec_l6Open_0 n l rec (l.length : Int) = some true := by
    intro rec
    unfold Dspec_l6Open_0
    simp only [lt_self, frk_f]
  show loopN _ _ _ = _
  cases hc : l with
  | nil =>
    obtain ⟨m, rfl⟩ : ∃ m, n = m + 1 := ⟨n - 1, by omega⟩
    rw [loop_suc]; rfl
  | cons x r =>
    rw [← hc]
    have hlen : l.length = r.length + 1 := by rw [hc]; rfl
    have h := search (F := Dspec_l6Open_0 n l) (len := l.length) (b := fun i => wth (l.take i) (gt l i)) (hit := some false) (miss := some true) hb hF hE (l.length - 1) 1 n (by omega) (by omega)
    rw [show (1 : Int) = ((1 : Nat) : Int) from rfl, h, e]
    cases (List.range' 1 (l.length - 1)).any fun i => wth (l.take i) (gt l i) <;> rfl
theorem opn_of {l : List Pl} (h : opB l = true) : Opn l := by
  have key : ∀ k, k ≤ l.length → Opn (l.take k) := by
    intro k
    induction k with
    | zero => intro _; exact .nil
    | succ k ih =>
      intro hk
      have e : l.take (k + 1) = l.take k ++ [gt l k] := by rw [List.take_add_one, gt_some (by omega)]; rfl
      rw [e]
      refine .snoc (ih (by omega)) ?_
      unfold opB at h
      simp only [Bool.not_eq_true', List.any_eq_false] at h
      simpa using h k (by simp; omega)
  have := key l.length (Nat.le_refl _)
  rwa [List.take_length] at this
theorem wth_mono {r l : List Pl} {p : Pl} (hs : r.Sublist l) (h : wth l p = false) : wth r p = false := by
  cases hr : wth r p with
  | false => rfl
  | true =>
    have : wth l p = true := by
      rw [wth_sub] at hr ⊢
      rcases hr with ⟨q, h1, h2⟩ | ⟨q, r, h1, h2⟩ | ⟨q, r, s, h1, h2⟩
      · exact .inl ⟨q, h1.trans hs, h2⟩
      · exact .inr (.inl ⟨q, r, h1.trans hs, h2⟩)
      · exact .inr (.inr ⟨q, r, s, h1.trans hs, h2⟩)
    rw [h] at this; cases this

/-- The planes that are kept of a list, behind a path. -/
def cvK : List Pl → List Pl → List Pl
  | [], _ => []
  | p :: r, path => if wth path (flp p) then cvK r path else p :: cvK r (path ++ [p])
def cvN (p : Pl) (s : Sol) : Sol := .mk false p [s, lfS false]
def cvT (k : List Pl) : Sol := k.foldr cvN (lfS true)
/-- Behind a path and some of a list, the next of the list has room. -/
def Cnd (path l : List Pl) : Prop := ∀ l1 p l2, l = l1 ++ p :: l2 → ∀ s : List Pl, s.Sublist l1 → wth (path ++ s) p = false
theorem Cnd.head {path l : List Pl} {p : Pl} (h : Cnd path (p :: l)) : wth path p = false := by
  have := h [] p l rfl [] (List.Sublist.refl _)
  simpa using this
theorem Cnd.tail {path l : List Pl} {p : Pl} (h : Cnd path (p :: l)) : Cnd path l := fun l1 q l2 e s hs => h (p :: l1) q l2 (by rw [e]; rfl) s (hs.cons p)
theorem Cnd.more {path l : List Pl} {p : Pl} (h : Cnd path (p :: l)) : Cnd (path ++ [p]) l := fun l1 q l2 e s hs => by
  have := h (p :: l1) q l2 (by rw [e]; rfl) (p :: s) (hs.cons_cons p)
  simpa using this
theorem cnd_of {l : List Pl} (h : Opn l) : Cnd [] l := fun l1 p l2 e s hs => by
  obtain ⟨l', h1, h2⟩ := h.last (r := s) (p := p) (by
    rw [e, show l1 ++ p :: l2 = (l1 ++ [p]) ++ l2 by simp]
    exact (hs.append (List.Sublist.refl _)).trans (List.sublist_append_left _ _))
  exact wth_mono h1 h2
theorem cvT_rt : ∀ (l path : List Pl), Cnd path l → (∀ q ∈ l, pOk q = true) → path.length + l.length ≤ 24 → Rt (cvT (cvK l path)) path := by
  intro l
  induction l with
  | nil => intro path _ _ _; exact .leaf rfl
  | cons p l ih =>
    intro path hc hp hl
    simp only [List.length_cons] at hl
    rw [cvK]
    cases hw : wth path (flp p) with
    | true => rw [if_pos rfl]; exact ih path hc.tail (fun q hq => hp q (by simp [hq])) (by omega)
    | false =>
      rw [if_neg (by simp)]
      exact .node (hp p (by simp)) (by omega) hc.head hw (ih _ hc.more (fun q hq => hp q (by simp [hq])) (by rw [List.length_append, List.length_singleton]; omega)) (.leaf rfl)
theorem cvK_len : ∀ (l path : List Pl), (cvK l path).length ≤ l.length := by
  intro l
  induction l with
  | nil => intro path; exact Nat.le_refl _
  | cons p l ih =>
    intro path
    rw [cvK]
    split
    · have := ih path; rw [List.length_cons]; omega
    · have := ih (path ++ [p]); rw [List.length_cons, List.length_cons]; omega
theorem cvT_nod : ∀ k : List Pl, nod (cvT k) = k.length := by
  intro k
  induction k with
  | nil => exact nod_leaf _ _
  | cons p k ih =>
    show nod (.mk false p [cvT k, lfS false]) = _
    rw [nod2, ih, show nod (lfS false) = 0 from nod_leaf _ _, List.length_cons]; omega
theorem cvT_right {l : List Pl} (ho : Opn l) (hp : ∀ q ∈ l, pOk q = true) (hl : l.length ≤ 24) : Right (cvT (cvK l [])) := by
  refine ⟨cvT_rt l [] (cnd_of ho) hp (by simpa using hl), ?_⟩
  rw [cvT_nod]
  have := cvK_len l []; omega
theorem sCvStep (n : Nat) (self : List Pl × List Pl → Option Sol) (l path : List Pl) (rec : Int → Option Sol) (k : Nat) (p : Pl) (h1 : k < l.length) (h2 : l[k]? = some p) : Dspec_l9Convex_2 n self l path false 0 0 0 0 rec (k : Int) =
    ((Dspec_l3Flip p).bind fun v1 => (Dspec_l6With n path v1).bind fun v2 => frk (!v2) ((Dspec_l6With n path p).bind fun v4 => frk (!v4) ((lsl l (w64 ((k : Int) + 1)) (l.length : Int)).bind fun v6 => (Dspec_l8Path path p).bind fun v8 => (self (v6, v8)).bind fun v9 => some (cvN p v9)) (rec (w64 ((k : Int) + 1)))) (rec (w64 ((k : Int) + 1)))) := by
  unfold Dspec_l9Convex_2
  dsimp only
  rw [lt_dec h1, frk_t, lget_nat, h2, Option.bind_some]
  unfold Dspec_l9Convex_0
  rw [lget_nat, h2]
  rfl
theorem sConvexIn : ∀ (r path : List Pl), Cnd path r → (∀ q ∈ r, PB q) → (∀ q ∈ path, PB q) → path.length + r.length ≤ 24 → E2 fun n m => ∀ (l : List Pl) (k j : Nat), l.drop k = r → l.length ≤ 24 → r.length < j →
    loopN (Dspec_l9Convex_2 n (loopN (Dspec_l9Convex_b n) m) l path false 0 0 0 0) j (k : Int) = some (cvT (cvK r path)) := by
  intro r
  induction r with
  | nil =>
    intro path _ _ _ _
    refine E2.of fun n m l k j hr hl hj => ?_
    obtain ⟨j, rfl⟩ : ∃ i, j = i + 1 := ⟨j - 1, by omega⟩
    have hk : l.length ≤ k := List.drop_eq_nil_iff.1 hr
    have hd : decide ((k : Int) < (l.length : Int)) = false := decide_eq_false (by omega)
    rw [loop_suc]
    simp only [Dspec_l9Convex_2, hd, frk_f]; rfl
  | cons p r ih =>
    intro path hc hp hpa hlen
    simp only [List.length_cons] at hlen
    have hpb : PB p := hp p (by simp)
    have hw0 : ∀ n : Nat, 40 ≤ n → Dspec_l6With n path (flp p) = some (wth path (flp p)) := fun n hn => sWith path (flp p) hpa (flp_PB hpb) (by unfold big; omega) n (by omega)
    have hw1 : ∀ n : Nat, 40 ≤ n → Dspec_l6With n path p = some false := fun n hn => by rw [sWith path p hpa hpb (by unfold big; omega) n (by omega), hc.head]
    cases hw : wth path (flp p) with
    | true =>
      have i1 := ih path hc.tail (fun q hq => hp q (by simp [hq])) hpa (by omega)
      refine (i1.and (e2_ge 40)).mono fun n m ⟨i1, hn, _⟩ l k j hr hl hj => ?_
      simp only [List.length_cons] at hj
      obtain ⟨j, rfl⟩ : ∃ i, j = i + 1 := ⟨j - 1, by omega⟩
      obtain ⟨h1, h2, h3, -⟩ := drop_get hr
      rw [loop_suc]
      rw [sCvStep n _ l path _ k p h1 h2, sFlip p hpb, Option.bind_some, hw0 n hn, Option.bind_some, hw, Bool.not_true, frk_f, w64_suc (show k < big by unfold big; omega), i1 l (k + 1) j h3 hl (by omega)]
      rw [cvK, hw, if_pos rfl]
    | false =>
      have i1 := ih (path ++ [p]) hc.more (fun q hq => hp q (by simp [hq])) (path_PB hpa hpb) (by rw [List.length_append, List.length_singleton]; omega)
      refine E2.suc ((i1.and (e2_ge 40)).mono fun n m ⟨i1, hn, _⟩ l k j hr hl hj => ?_)
      simp only [List.length_cons] at hj
      obtain ⟨j, rfl⟩ : ∃ i, j = i + 1 := ⟨j - 1, by omega⟩
      obtain ⟨h1, h2, h3, -⟩ := drop_get hr
      have hsl : lsl l ((k + 1 : Nat) : Int) (l.length : Int) = some r := by
        unfold lsl
        rw [if_pos ⟨by omega, by omega, by omega⟩, Int.toNat_natCast, Int.toNat_natCast, h3, List.take_of_length_le (by rw [← h3, List.length_drop]; omega)]
      rw [loop_suc]
      rw [sCvStep n _ l path _ k p h1 h2, sFlip p hpb, Option.bind_some, hw0 n hn, Option.bind_some, hw, Bool.not_false, frk_t, hw1 n hn, Option.bind_some, Bool.not_false, frk_t, w64_suc (show k < big by unfold big; omega), hsl, Option.bind_some, sPath path p (by omega), Option.bind_some]
      rw [loop_suc]
      have this : loopN (Dspec_l9Convex_2 n (loopN (Dspec_l9Convex_b n) m) r (path ++ [p]) false 0 0 0 0) n 0 = _ := i1 r 0 n rfl (by omega) (by omega)
      show ((loopN (Dspec_l9Convex_2 n (loopN (Dspec_l9Convex_b n) m) r (path ++ [p]) false 0 0 0 0) n 0).bind _) = _
      rw [this, Option.bind_some, cvK, hw, if_neg (by simp)]
      rfl
theorem sConvexT {l : List Pl} (ho : Opn l) (hp : ∀ q ∈ l, PB q) (hl : l.length ≤ 24) : Ev fun n => Dspec_l9Convex n l [] = some (cvT (cvK l [])) := by
  have := sConvexIn l [] (cnd_of ho) hp (by simp) (by simpa using hl)
  have h2 : E2 fun n m => loopN (Dspec_l9Convex_b n) m (l, []) = some (cvT (cvK l [])) := by
    refine E2.suc ((this.and (e2_ge 40)).mono fun n m ⟨h, hn, _⟩ => ?_)
    rw [loop_suc]
    exact h l 0 n rfl hl (by omega)
  exact h2.ev
/-- Convex, told plainly. -/
def cvR (l : List Pl) : Sol × Int := if !(l.all pOk && decide ((l.length : Int) ≤ 24)) then (lfS false, 1) else if !opB l then (lfS false, 2) else (cvT (cvK l []), 0)
theorem sConvex (l : List Pl) (hb : l.length ≤ big) : Ev fun n => Dspec_Convex n l = some (cvR l) := by
  unfold cvR
  have e1 := sRightL l hb
  cases hc : (l.all pOk && decide ((l.length : Int) ≤ 24)) with
  | false =>
    refine e1.mono fun n h1 => ?_
    simp only [Dspec_Convex, h1, hc, Option.bind_some, Bool.not_false, frk_t, if_true]; rfl
  | true =>
    simp only [Bool.and_eq_true, decide_eq_true_eq] at hc
    have hp : ∀ q ∈ l, PB q := fun q hq => pOk_PB (all_mem hc.1 q hq)
    have hc' : (l.all pOk && decide ((l.length : Int) ≤ 24)) = true := by simp only [Bool.and_eq_true, decide_eq_true_eq]; exact hc
    have e2 := sOpenL l hp hb
    cases ho : opB l with
    | false =>
      refine (e1.and e2).mono fun n ⟨h1, h2⟩ => ?_
      simp only [Dspec_Convex, h1, h2, hc', ho, sLeaf, Option.bind_some, Bool.not_true, Bool.not_false, frk_t, frk_f, if_true]; rfl
    | true =>
      have e3 := sConvexT (opn_of ho) hp (by omega)
      refine (e1.and (e2.and e3)).mono fun n ⟨h1, h2, h3⟩ => ?_
      simp only [Dspec_Convex, h1, h2, h3, hc', ho, Option.bind_some, Bool.not_true, frk_f]; rfl
theorem lf_right (b : Bool) : Right (lfS b) := ⟨.leaf rfl, by rw [show nod (lfS b) = 0 from nod_leaf _ _]; omega⟩
theorem cvR_right (l : List Pl) : Right (cvR l).1 := by
  unfold cvR
  split
  · exact lf_right _
  · rename_i h
    split
    · exact lf_right _
    · rename_i h2
      simp only [Bool.not_eq_true', Bool.not_eq_false, Bool.and_eq_true, decide_eq_true_eq] at h h2
      exact cvT_right (opn_of h2) (all_mem h.1) (by omega)
end Evl.T

/-! Etp -/
namespace Evl.T
open Go Evl

structure SpOk (q : Spot) : Prop where
  w : 1 ≤ q.W ∧ q.W ≤ 1000000000
  x : q.X.natAbs ≤ 1000000000
  y : q.Y.natAbs ≤ 1000000000
  z : q.Z.natAbs ≤ 1000000000
  g : Nat.gcd (Nat.gcd (Nat.gcd q.X.natAbs q.Y.natAbs) q.Z.natAbs) q.W.natAbs = 1
end Evl.T

/-! Etb -/
namespace Evl.T
open Go Evl

theorem growLeaf (path : List Pl) {k : Cur} (h : CurOk k) :
    ∃ s k', (∀ (n : Nat) (self : (Cur × List Pl × Int) → Option (Sol × Cur)), Dspec_l8Grow_2 n self false 0 0 0 0 k.1 k.2.1 k.2.2 = some (s, k')) ∧ Rt s path ∧ nod s = 0 ∧ (∀ d, Dp s d) ∧ CurOk k' := by
  obtain ⟨b, k1, e, h1⟩ := onceOk (c := (k.1, k.2.1, k.2.2)) h (a := 2) (by omega) (by omega)
  refine ⟨_, _, fun n self => ?_, .leaf (i := b) (p := ⟨0, 0, 0, 0⟩) rfl, nod_leaf _ _, fun _ => .leaf, h1⟩
  unfold Dspec_l8Grow_2
  rw [e, Option.bind_some]; rfl
theorem growStep (n : Nat) (self : (Cur × List Pl × Int) → Option (Sol × Cur)) (path : List Pl) (t : Int) (rec0 : (Int × Cur) → Option (Sol × Cur)) (j : Int) (k : Cur) :
    Dspec_l8Grow_3 n self path t false 0 0 0 0 rec0 (j, k) = frk (decide (j < 3)) (Dspec_l8Grow_0 n self rec0 path t false 0 0 0 0 j (decide (t > 0)) k.1 k.2.1 k.2.2) (Dspec_l8Grow_2 n self false 0 0 0 0 k.1 k.2.1 k.2.2) := rfl
/-- A tree grows: it is right along its path, and small. -/
theorem growOk : ∀ (d : Nat) (path : List Pl) (t : Int) (k : Cur), path.length + d ≤ 24 → (∀ q ∈ path, PB q) → t ≤ d → -1000 ≤ t → CurOk k →
    ∃ s k', (∀ n m, 1000 ≤ n → d < m → loopN (Dspec_l8Grow_b n) m (k, path, t) = some (s, k')) ∧ Rt s path ∧ nod s + 1 ≤ 2 ^ d ∧ Dp s d ∧ CurOk k' := by
  intro d
  induction d with
  | zero =>
    intro path t k hl hp ht ht2 hk
    obtain ⟨s, k', e, hR, hN, hD, hk'⟩ := growLeaf path hk
    refine ⟨s, k', fun n m hn hm => ?_, hR, by omega, hD _, hk'⟩
    obtain ⟨m, rfl⟩ : ∃ j, m = j + 1 := ⟨m - 1, by omega⟩
    rw [loop_suc]
    show loopN (Dspec_l8Grow_3 n (loopN (Dspec_l8Grow_b n) m) path t false 0 0 0 0) n (0, k) = _
    have key : ∀ j, loopN (Dspec_l8Grow_3 n (loopN (Dspec_l8Grow_b n) m) path t false 0 0 0 0) (j + 1) (0, k) = some (s, k') := by
      intro j
      rw [loop_suc, growStep, dec_t (by omega), frk_t]
      unfold Dspec_l8Grow_0
      rw [dec_f (by omega), frk_f]
      exact e n _
    have := key (n - 1)
    rwa [show n - 1 + 1 = n by omega] at this
  | succ d ih =>
    intro path t k hl hp ht ht2 hk
    have hpow : 2 ^ (d + 1) = 2 ^ d + 2 ^ d := by rw [Nat.pow_succ]; omega
    have h2 : 1 ≤ 2 ^ d := Nat.one_le_two_pow
    -- the three tries
    have tries : ∀ (r : Nat) (k : Cur), r ≤ 3 → CurOk k → ∃ s k', (∀ n m f, 1000 ≤ n → d < m → r < f → loopN (Dspec_l8Grow_3 n (loopN (Dspec_l8Grow_b n) m) path t false 0 0 0 0) f (((3 - r : Nat) : Int), k) = some (s, k')) ∧ Rt s path ∧ nod s + 1 ≤ 2 ^ (d + 1) ∧ Dp s (d + 1) ∧ CurOk k' := by
      intro r
      induction r with
      | zero =>
        intro k _ hk
        obtain ⟨s, k', e, hR, hN, hD, hk'⟩ := growLeaf path hk
        refine ⟨s, k', fun n m f hn hm hf => ?_, hR, by omega, hD _, hk'⟩
        obtain ⟨f, rfl⟩ : ∃ j, f = j + 1 := ⟨f - 1, by omega⟩
        rw [loop_suc, growStep, dec_f (by omega), frk_f]; exact e n _
      | succ r ihr =>
        intro k hr hk
        have hw3 : w64 (((3 - (r + 1) : Nat) : Int) + 1) = ((3 - r : Nat) : Int) := by rw [w64_id (by omega) (by omega)]; omega
        by_cases ht0 : t > 0
        · obtain ⟨p, k1, e1, hpo, h1⟩ := drawOk (k := (k.1, k.2.1, k.2.2)) hk
          have hpb := pOk_PB hpo
          have again : ∀ (hW : wth path p = true ∨ (wth path p = false ∧ wth path (flp p) = true)), ∃ s k', (∀ n m f, 1000 ≤ n → d < m → r + 1 < f → loopN (Dspec_l8Grow_3 n (loopN (Dspec_l8Grow_b n) m) path t false 0 0 0 0) f (((3 - (r + 1) : Nat) : Int), k) = some (s, k')) ∧ Rt s path ∧ nod s + 1 ≤ 2 ^ (d + 1) ∧ Dp s (d + 1) ∧ CurOk k' := by
            intro hW
            obtain ⟨s, k', g1, g2, g3, g5, g4⟩ := ihr k1 (by omega) h1
            refine ⟨s, k', fun n m f hn hm hf => ?_, g2, g3, g5, g4⟩
            obtain ⟨f, rfl⟩ : ∃ j, f = j + 1 := ⟨f - 1, by omega⟩
            have g := g1 n m f hn hm (by omega)
            rw [loop_suc, growStep, dec_t (by omega), frk_t]
            unfold Dspec_l8Grow_0
            rw [dec_t ht0, frk_t, hw3, e1 n hn, Option.bind_some]
            simp only [sWith path p hp hpb (by unfold big; omega) n (by omega), Option.bind_some]
            rcases hW with hw | ⟨hw, hw2⟩
            · rw [hw, Bool.not_true, frk_f]; exact g
            · rw [hw, Bool.not_false, frk_t, sFlip p hpb, Option.bind_some, sWith path (flp p) hp (flp_PB hpb) (by unfold big; omega) n (by omega), Option.bind_some]
              unfold Dspec_l8Grow_1
              rw [hw2, Bool.not_true, frk_f]; rw [hw3]; exact g
          cases hw : wth path p with
          | true => exact again (.inl hw)
          | false =>
            cases hw2 : wth path (flp p) with
            | true => exact again (.inr ⟨hw, hw2⟩)
            | false =>
              obtain ⟨v, k2, e2, hv, h2'⟩ := belowOk (c := (k1.1, k1.2.1, k1.2.2)) h1 (a := 2) (by omega) (by omega)
              have ev : w64 (w64 (t - 1) - v) = t - 1 - v := by rw [w64_id (x := t - 1) (by omega) (by omega), w64_id (by omega) (by omega)]
              obtain ⟨x, k3, e3, hRx, hNx, hDx, h3⟩ := ih (path ++ [p]) (t - 1 - v) k2 (by simp; omega) (path_PB hp hpb) (by omega) (by omega) h2'
              obtain ⟨u, k4, e4, hu, h4⟩ := belowOk h3 (a := 2) (by omega) (by omega)
              have eu : w64 (w64 (t - 1) - u) = t - 1 - u := by rw [w64_id (x := t - 1) (by omega) (by omega), w64_id (by omega) (by omega)]
              obtain ⟨y, k5, e5, hRy, hNy, hDy, h5⟩ := ih (path ++ [flp p]) (t - 1 - u) k4 (by simp; omega) (path_PB hp (flp_PB hpb)) (by omega) (by omega) h4
              refine ⟨.mk false p [x, y], k5, fun n m f hn hm hf => ?_, .node hpo (by omega) hw hw2 hRx hRy, by rw [nod2]; omega, .node hDx hDy, h5⟩
              obtain ⟨f, rfl⟩ : ∃ j, f = j + 1 := ⟨f - 1, by omega⟩
              rw [loop_suc, growStep, dec_t (by omega), frk_t]
              unfold Dspec_l8Grow_0
              rw [dec_t ht0, frk_t, e1 n hn, Option.bind_some]
              simp only [sWith path p hp hpb (by unfold big; omega) n (by omega), Option.bind_some]
              rw [hw, Bool.not_false, frk_t, sFlip p hpb, Option.bind_some, sWith path (flp p) hp (flp_PB hpb) (by unfold big; omega) n (by omega), Option.bind_some]
              unfold Dspec_l8Grow_1
              rw [hw2, Bool.not_false, frk_t]
              simp only [pl_eq]
              rw [sPath path p (by omega), Option.bind_some, e2, Option.bind_some]
              simp only [ev, e3 n m hn hm, Option.bind_some, sFlip p hpb, sPath path (flp p) (show path.length ≤ 1000 by omega), e4, eu, e5 n m hn hm]
              rfl
        · obtain ⟨s, k', e, hR, hN, hD, hk'⟩ := growLeaf path hk
          refine ⟨s, k', fun n m f hn hm hf => ?_, hR, by omega, hD _, hk'⟩
          obtain ⟨f, rfl⟩ : ∃ j, f = j + 1 := ⟨f - 1, by omega⟩
          rw [loop_suc, growStep, dec_t (by omega), frk_t]
          unfold Dspec_l8Grow_0
          rw [dec_f ht0, frk_f]; exact e n _
    obtain ⟨s, k', g1, g2, g3, g5, g4⟩ := tries 3 k (by omega) hk
    refine ⟨s, k', fun n m hn hm => ?_, g2, g3, g5, g4⟩
    obtain ⟨m, rfl⟩ : ∃ j, m = j + 1 := ⟨m - 1, by omega⟩
    rw [loop_suc]
    exact g1 n m n hn (by omega) (by omega)
end Evl.T

/-! Eth -/
namespace Evl.T
open Go Evl

/-! a cell's planes -/
theorem cellStep (n : Nat) (rec0 : (Int × List Pl × Cur) → Option (List Pl × Cur)) (t : Int) (l : List Pl) (k : Cur) :
    Dspec_l6Cell_1 n rec0 (t, l, k) = frk (decide (t > 0)) ((Dspec_l3Draw n k).bind fun v3 => (Dspec_l6With n l v3.1).bind fun v4 => frk (!v4) (chk (apB 32 (l.length + 1)) (rec0 (w64 (t - 1), (l ++ [v3.1]), v3.2.1, v3.2.2.1, v3.2.2.2))) (rec0 (w64 (t - 1), l, v3.2.1, v3.2.2.1, v3.2.2.2))) (some (l, k)) := rfl
theorem cellStep3 (n : Nat) (rec0 : (Int × List Pl × Cur) → Option (List Pl × Cur)) (t : Int) (l : List Pl) (k : Cur) :
    Dspec_l6Cell_3 n rec0 (t, l, k) = Dspec_l6Cell_1 n rec0 (t, l, k) := rfl
theorem ap32 {n : Nat} (h : n ≤ 1000000) : apB 32 n = true := by
  simp only [apB, Bool.and_eq_true, decide_eq_true_eq]; omega
theorem cellLoop {F : Nat → ((Int × List Pl × Cur) → Option (List Pl × Cur)) → (Int × List Pl × Cur) → Option (List Pl × Cur)} (hF : ∀ n rec0 t l k, F n rec0 (t, l, k) = Dspec_l6Cell_1 n rec0 (t, l, k)) :
    ∀ (j : Nat) (l : List Pl) (k : Cur), (∀ q ∈ l, PB q) → l.length + j ≤ 100 → CurOk k → ∃ l' k', (∀ n m, 1000 ≤ n → j < m → loopN (F n) m ((j : Int), l, k) = some (l', k')) ∧ l'.length ≤ l.length + j ∧ CurOk k' := by
  intro j
  induction j with
  | zero =>
    intro l k hl hlen hk
    refine ⟨l, k, fun n m hn hm => ?_, by omega, hk⟩
    obtain ⟨m, rfl⟩ : ∃ j, m = j + 1 := ⟨m - 1, by omega⟩
    rw [loop_suc, hF, cellStep, dec_f (by omega), frk_f]
  | succ j ih =>
    intro l k hl hlen hk
    obtain ⟨p, k1, e1, hp, h1⟩ := drawOk hk
    have hpb := pOk_PB hp
    have e : w64 (((j + 1 : Nat) : Int) - 1) = (j : Int) := by rw [w64_id (by omega) (by omega)]; omega
    cases hw : wth l p with
    | true =>
      obtain ⟨l', k', g1, g2, g3⟩ := ih l k1 hl (by omega) h1
      refine ⟨l', k', fun n m hn hm => ?_, by omega, g3⟩
      obtain ⟨m, rfl⟩ : ∃ j, m = j + 1 := ⟨m - 1, by omega⟩
      rw [loop_suc, hF, cellStep, dec_t (by omega), frk_t, e1 n hn, Option.bind_some]
      simp only [sWith l p hl hpb (by unfold big; omega) n (by omega), Option.bind_some, e, hw, Bool.not_true, frk_f]
      exact g1 n m hn (by omega)
    | false =>
      obtain ⟨l', k', g1, g2, g3⟩ := ih (l ++ [p]) k1 (path_PB hl hpb) (by simp; omega) h1
      refine ⟨l', k', fun n m hn hm => ?_, by simp at g2; omega, g3⟩
      obtain ⟨m, rfl⟩ : ∃ j, m = j + 1 := ⟨m - 1, by omega⟩
      rw [loop_suc, hF, cellStep, dec_t (by omega), frk_t, e1 n hn, Option.bind_some]
      simp only [sWith l p hl hpb (by unfold big; omega) n (by omega), Option.bind_some, e, hw, Bool.not_false, frk_t]
      rw [chk_eq (ap32 (by omega))]
      exact g1 n m hn (by omega)
theorem cellOk {k : Cur} (hk : CurOk k) {a : Int} (h1 : 1 ≤ a) (h2 : a ≤ 10) : ∃ l k', (∀ n, 1000 ≤ n → Dspec_l6Cell n k a = some (l, k')) ∧ (l.length : Int) ≤ 5 + a ∧ CurOk k' := by
  obtain ⟨o, k1, e1, c1⟩ := onceOk hk (a := 4) (by omega) (by omega)
  cases o with
  | true =>
    obtain ⟨v, k2, e2, hv, c2⟩ := belowOk (c := (k1.1, k1.2.1, k1.2.2)) c1 (a := a) h1 (by omega)
    obtain ⟨j, rfl⟩ : ∃ j : Nat, v = j := ⟨v.toNat, by omega⟩
    obtain ⟨l', k', g1, g2, g3⟩ := cellLoop (F := Dspec_l6Cell_3) (fun _ _ _ _ _ => rfl) j [] k2 (by simp) (by simp; omega) c2
    refine ⟨l', k', fun n hn => ?_, by simp at g2; omega, g3⟩
    unfold Dspec_l6Cell Dspec_l6Cell_2
    simp only [e1, Option.bind_some, Bool.not_true, frk_f, e2]
    exact g1 n n hn (by omega)
  | false =>
    obtain ⟨u, k2, e2, hu, c2⟩ := belowOk c1 (a := 5) (by omega) (by omega)
    obtain ⟨v, k3, e3, hv, c3⟩ := belowOk (c := (k2.1, k2.2.1, k2.2.2)) c2 (a := a) h1 (by omega)
    obtain ⟨j, rfl⟩ : ∃ j : Nat, v = j := ⟨v.toNat, by omega⟩
    have w1 : w64 (1 + u) = 1 + u := w64_id (by omega) (by omega)
    have w2 : w64 (1 + u + 1) = 1 + u + 1 := w64_id (by omega) (by omega)
    have bb : ∀ {x y z t : Int}, (-500 ≤ x ∧ x ≤ 500) → (-500 ≤ y ∧ y ≤ 500) → (-500 ≤ z ∧ z ≤ 500) → (-500 ≤ t ∧ t ≤ 500) → PB ⟨x, y, z, t⟩ := fun {x y z t} h1 h2 h3 h4 => ⟨(B.of (by omega) (by omega) : B 500 x), (B.of (by omega) (by omega) : B 500 y), (B.of (by omega) (by omega) : B 500 z), (B.of (by omega) (by omega) : B 500 t)⟩
    obtain ⟨l', k', g1, g2, g3⟩ := cellLoop (F := Dspec_l6Cell_1) (fun _ _ _ _ _ => rfl) j [⟨1, 0, 0, 1 + u⟩, ⟨-1, 0, 0, 1 + u⟩, ⟨0, 1, 0, 1 + u⟩, ⟨0, -1, 0, 1 + u + 1⟩, ⟨0, 0, 1, 1 + u⟩, ⟨0, 0, -1, 1 + u⟩] k3 (fun q hq => by
      simp only [List.mem_cons, List.not_mem_nil, or_false] at hq
      rcases hq with rfl | rfl | rfl | rfl | rfl | rfl <;> exact bb (by omega) (by omega) (by omega) (by omega)) (by simp; omega) c3
    refine ⟨l', k', fun n hn => ?_, by simp at g2; omega, g3⟩
    unfold Dspec_l6Cell Dspec_l6Cell_0
    simp only [e1, e2, Option.bind_some, Bool.not_false, frk_t, e3, w1, w2]
    exact g1 n n hn (by omega)

theorem cvT_dp : ∀ k : List Pl, Dp (cvT k) k.length
  | [] => .leaf
  | _ :: k => .node (cvT_dp k) .leaf
theorem cvR_dp (l : List Pl) : Dp (cvR l).1 l.length := by
  unfold cvR
  split
  · exact .leaf
  · split
    · exact .leaf
    · exact (cvT_dp _).up (cvK_len l [])
end Evl.T

/-! Ete -/
namespace Evl.T
open Go Evl

theorem gcd_bd {a b k : Nat} (ha : a ≤ k) (hb : b ≤ k) : Nat.gcd a b ≤ k := by
  by_cases h : b = 0
  · subst h; rw [Nat.gcd_zero_right]; exact ha
  · exact Nat.le_trans (Nat.gcd_le_right a (by omega)) hb
theorem qtOk' {a b : Int} (hb : b ≠ 0) (ha : a.natAbs ≤ 1000000000) : qt .i64 a b = some (a.tdiv b) := by
  unfold qt
  rw [if_neg hb]
  have : (a.tdiv b).natAbs ≤ a.natAbs := by rw [Int.natAbs_tdiv]; exact Nat.div_le_self _ _
  have e : IntKind.i64.wrap (a.tdiv b) = a.tdiv b := w64_id (by omega) (by omega)
  rw [e]
theorem spotOf {a b c d : Int} (ha : a.natAbs ≤ 1000000000) (hb : b.natAbs ≤ 1000000000) (hc : c.natAbs ≤ 1000000000) (hd : d.natAbs ≤ 1000000000) (h0 : d ≠ 0) :
    ∃ q, (∀ n, 1000000001 ≤ n → Dspec_l5Spot n a b c d = some q) ∧ SpOk q := by
  have u : ∀ {x : Int}, x.natAbs ≤ 1000000000 → B 9223372036854775807 x := fun h => by unfold B; omega
  have b1 := gcd_bd ha hb
  have b2 := gcd_bd hc hd
  have hb3 := gcd_bd b1 b2
  have hG : Nat.gcd (Nat.gcd a.natAbs b.natAbs) (Nat.gcd c.natAbs d.natAbs) = g4 a b c d := by unfold g4; rw [Nat.gcd_assoc (Nat.gcd a.natAbs b.natAbs)]
  rw [hG] at hb3
  have hp : 0 < g4 a b c d := by
    unfold g4
    apply Nat.pos_of_ne_zero
    intro e
    have := (Nat.gcd_eq_zero_iff.1 e).2
    omega
  have hgd : g4 a b c d ∣ Nat.gcd (Nat.gcd a.natAbs b.natAbs) c.natAbs := Nat.gcd_dvd_left _ _
  have hdd : g4 a b c d ∣ d.natAbs := Nat.gcd_dvd_right _ _
  have hcd := Nat.dvd_trans hgd (Nat.gcd_dvd_right _ _)
  have hab := Nat.dvd_trans hgd (Nat.gcd_dvd_left _ _)
  have had := Nat.dvd_trans hab (Nat.gcd_dvd_left _ _)
  have hbd := Nat.dvd_trans hab (Nat.gcd_dvd_right _ _)
  have fin : ∀ t : Int, t.natAbs = g4 a b c d → (0 < d → 0 < t) → (d < 0 → t < 0) → ∃ q, (∀ n, Dspec_l5Spot_0 n a b c d t 0 0 0 0 = some q) ∧ SpOk q := by
    intro t ht hs1 hs2
    have t0 : t ≠ 0 := by omega
    have na : ∀ x : Int, (x.tdiv t).natAbs = x.natAbs / g4 a b c d := fun x => by rw [Int.natAbs_tdiv, ht]; rfl
    have le : ∀ {x : Int}, x.natAbs ≤ 1000000000 → (x.tdiv t).natAbs ≤ 1000000000 := fun {x} h => by rw [na]; exact Nat.le_trans (Nat.div_le_self _ _) h
    refine ⟨⟨a.tdiv t, b.tdiv t, c.tdiv t, d.tdiv t⟩, fun n => ?_, ⟨?_, le ha, le hb, le hc, ?_⟩⟩
    · unfold Dspec_l5Spot_0
      rw [qtOk' t0 ha, Option.bind_some, qtOk' t0 hb, Option.bind_some, qtOk' t0 hc, Option.bind_some, qtOk' t0 hd, Option.bind_some]
    · have h1 := le hd
      have hpos : 0 < (d.tdiv t).natAbs := by rw [na]; exact Nat.div_pos (Nat.le_of_dvd (by omega) hdd) hp
      have hnn : 0 ≤ d.tdiv t := by
        rcases Int.lt_or_gt_of_ne h0 with h | h
        · have := hs2 h
          have e : d.tdiv t = (-d).tdiv (-t) := by rw [Int.neg_tdiv_neg]
          rw [e]; exact Int.tdiv_nonneg (by omega) (by omega)
        · have := hs1 h; exact Int.tdiv_nonneg (by omega) (by omega)
      show 1 ≤ d.tdiv t ∧ d.tdiv t ≤ 1000000000
      omega
    · show Nat.gcd (Nat.gcd (Nat.gcd (a.tdiv t).natAbs (b.tdiv t).natAbs) (c.tdiv t).natAbs) (d.tdiv t).natAbs = 1
      rw [na, na, na, na, Nat.gcd_div had hbd]
      have q1 : g4 a b c d ∣ Nat.gcd a.natAbs b.natAbs := Nat.dvd_gcd had hbd
      rw [Nat.gcd_div q1 hcd, Nat.gcd_div hgd hdd]
      exact Nat.div_self hp
  have step : ∀ n, 1000000001 ≤ n → Dspec_l5Spot n a b c d = frk (decide (d < 0)) (Dspec_l5Spot_0 n a b c d (w64 (0 - ((g4 a b c d : Nat) : Int))) 0 0 0 0) (Dspec_l5Spot_0 n a b c d ((g4 a b c d : Nat) : Int) 0 0 0 0) := by
    intro n hn
    have g1 := sGcd n a b (u ha) (u hb) (by omega)
    have g2 := sGcd n c d (u hc) (u hd) (by omega)
    have g3 := sGcd n ((Nat.gcd a.natAbs b.natAbs : Nat) : Int) ((Nat.gcd c.natAbs d.natAbs : Nat) : Int) (by unfold B; omega) (by unfold B; omega) (by omega)
    simp only [Int.natAbs_natCast] at g3
    rw [hG] at g3
    unfold Dspec_l5Spot
    rw [g1, Option.bind_some, g2, Option.bind_some, g3, Option.bind_some]
  by_cases hneg : d < 0
  · obtain ⟨q, g1, g2⟩ := fin (0 - ((g4 a b c d : Nat) : Int)) (by omega) (fun h => by omega) (fun _ => by omega)
    refine ⟨q, fun n hn => ?_, g2⟩
    rw [step n hn, dec_t hneg, frk_t, w64_id (by omega) (by omega)]; exact g1 n
  · obtain ⟨q, g1, g2⟩ := fin ((g4 a b c d : Nat) : Int) (by omega) (fun _ => by omega) (fun h => absurd h hneg)
    refine ⟨q, fun n hn => ?_, g2⟩
    rw [step n hn, dec_f hneg, frk_f]; exact g1 n
theorem det3B {p q r : Pl} (hp : PB p) (hq : PB q) (hr : PB r) : (det3 p q r).natAbs ≤ 1000000000 := by
  obtain ⟨a1, a2, a3, -⟩ := hp
  obtain ⟨b1, b2, b3, -⟩ := hq
  obtain ⟨c1, c2, c3, -⟩ := hr
  have h : B 750000000 (det3 p q r) := (((a1.mul ((b2.mul c3).sub (b3.mul c2))).add (a2.mul ((b3.mul c1).sub (b1.mul c3)))).add (a3.mul ((b1.mul c2).sub (b2.mul c1)))).up (by decide)
  unfold B at h; omega
theorem meetOk {p q r : Pl} (hp : PB p) (hq : PB q) (hr : PB r) : ∃ s b, (∀ n, 1000000001 ≤ n → Dspec_l5Meet n p q r = some (s, b)) ∧ (b = true → SpOk s) := by
  by_cases h0 : det3 p q r = 0
  · refine ⟨⟨0, 0, 0, 0⟩, false, fun n hn => ?_, fun h => by cases h⟩
    unfold Dspec_l5Meet
    rw [sDet3 p q r hp hq hr, Option.bind_some, show (det3 p q r == 0) = true by simpa using h0, frk_t]
  · have nD : ∀ {x : Pl}, PB x → B 500 (w64 (0 - x.D)) := fun {x} h => by
      have := h.2.2.2
      rw [w64_B this.zsub (by decide)]; exact this.zsub
    have z0 : B 500 (0 : Int) := B.of (by decide) (by decide)
    have A : ∀ {x : Pl}, PB x → PB ⟨w64 (0 - x.D), x.B, x.C, 0⟩ := fun h => ⟨nD h, h.2.1, h.2.2.1, z0⟩
    have Bq : ∀ {x : Pl}, PB x → PB ⟨x.A, w64 (0 - x.D), x.C, 0⟩ := fun h => ⟨h.1, nD h, h.2.2.1, z0⟩
    have C : ∀ {x : Pl}, PB x → PB ⟨x.A, x.B, w64 (0 - x.D), 0⟩ := fun h => ⟨h.1, h.2.1, nD h, z0⟩
    obtain ⟨s, e, hs⟩ := spotOf (det3B (A hp) (A hq) (A hr)) (det3B (Bq hp) (Bq hq) (Bq hr)) (det3B (C hp) (C hq) (C hr)) (det3B hp hq hr) h0
    refine ⟨s, true, fun n hn => ?_, fun _ => hs⟩
    unfold Dspec_l5Meet
    rw [sDet3 p q r hp hq hr, Option.bind_some, show (det3 p q r == 0) = false by simpa using h0, frk_f]
    rw [sDet3 _ _ _ (A hp) (A hq) (A hr), Option.bind_some, sDet3 _ _ _ (Bq hp) (Bq hq) (Bq hr), Option.bind_some, sDet3 _ _ _ (C hp) (C hq) (C hr), Option.bind_some, e n hn, Option.bind_some]
theorem spotDraw0 {k : Cur} (h : CurOk k) : ∃ q k', (∀ n, 1000000001 ≤ n → Dspec_l5Draw_0 n 0 0 0 0 k.1 k.2.1 k.2.2 = some (q, k')) ∧ SpOk q ∧ CurOk k' := by
  obtain ⟨a, k1, e1, ha, h1⟩ := belowOk (c := (k.1, k.2.1, k.2.2)) h (a := 21) (by omega) (by omega)
  obtain ⟨b, k2, e2, hb, h2⟩ := belowOk h1 (a := 21) (by omega) (by omega)
  obtain ⟨c, k3, e3, hc, h3⟩ := belowOk h2 (a := 21) (by omega) (by omega)
  obtain ⟨d, k4, e4, hd, h4⟩ := intOk h3 (l := [1, 1, 2, 3, 7]) (by simp) (by simp)
  have hd' : 1 ≤ d ∧ d ≤ 7 := by simp only [List.mem_cons, List.not_mem_nil, or_false] at hd; omega
  have w : ∀ {x : Int}, 0 ≤ x ∧ x < 21 → w64 (x - 10) = x - 10 := fun h => w64_id (by omega) (by omega)
  obtain ⟨q, e5, hq⟩ := spotOf (a := a - 10) (b := b - 10) (c := c - 10) (d := d) (by omega) (by omega) (by omega) (by omega) (by omega)
  refine ⟨q, k4, fun n hn => ?_, hq, h4⟩
  unfold Dspec_l5Draw_0
  simp only [e1, e2, e3, e4, Option.bind_some, w ha, w hb, w hc, e5 n hn]
theorem spotDraw {k : Cur} (h : CurOk k) : ∃ q k', (∀ n, 1000000001 ≤ n → Dspec_l5Draw n k = some (q, k')) ∧ SpOk q ∧ CurOk k' := by
  obtain ⟨o, k1, e1, h1⟩ := onceOk h (a := 3) (by omega) (by omega)
  cases o with
  | false =>
    obtain ⟨q, k', g1, g2, g3⟩ := spotDraw0 h1
    refine ⟨q, k', fun n hn => ?_, g2, g3⟩
    unfold Dspec_l5Draw
    simp only [e1, Option.bind_some, frk_f, g1 n hn]
  | true =>
    obtain ⟨p, k2, e2, hp, h2⟩ := drawOk h1
    obtain ⟨q, k3, e3, hq, h3⟩ := drawOk h2
    obtain ⟨r, k4, e4, hr, h4⟩ := drawOk h3
    obtain ⟨s, b, e5, hs⟩ := meetOk (pOk_PB hp) (pOk_PB hq) (pOk_PB hr)
    cases b with
    | true =>
      refine ⟨s, k4, fun n hn => ?_, hs rfl, h4⟩
      unfold Dspec_l5Draw
      simp only [e1, e2 n (by omega), e3 n (by omega), e4 n (by omega), e5 n hn, Option.bind_some, frk_t]
    | false =>
      obtain ⟨q', k', g1, g2, g3⟩ := spotDraw0 h4
      refine ⟨q', k', fun n hn => ?_, g2, g3⟩
      unfold Dspec_l5Draw
      simp only [e1, e2 n (by omega), e3 n (by omega), e4 n (by omega), e5 n hn, Option.bind_some, frk_t, frk_f, g1 n hn]
end Evl.T

/-! Etj -/
namespace Evl.T
open Go Evl

/-- A drawn solid is right, a drawn spot too. -/
theorem drawS (l : List Int) (hl : l.length ≤ 1048576) : ∃ s q, Right s ∧ Dp s 9 ∧ SpOk q ∧ Ev fun n => Dspec_DrawSolid n l = some (s, q) := by
  obtain ⟨k0, e0, c0⟩ := newOk hl
  obtain ⟨v, k1, e1, hv, c1⟩ := belowOk c0 (a := 5) (by omega) (by omega)
  have w1 : w64 (1 + v) = 1 + v := w64_id (by omega) (by omega)
  obtain ⟨s, k2, e2, hR, hN, hD, c2⟩ := growOk 5 [] (1 + v) k1 (by simp) (by simp) (by omega) (by omega) c1
  have e2' : ∀ n, 1000 ≤ n → Dspec_l8Grow n k1 [] (w64 (1 + v)) = some (s, k2) := fun n hn => by rw [w1]; exact e2 n n hn (by omega)
  obtain ⟨o, k3, e3, c3⟩ := onceOk c2 (a := 3) (by omega) (by omega)
  have fin : ∀ (s : Sol) (k : Cur), Right s → CurOk k → ∃ q, SpOk q ∧ ∀ n, 1000000001 ≤ n → Dspec_DrawSolid_0 n false 0 0 0 0 0 0 0 0 s.inn s.pl.A s.pl.B s.pl.C s.pl.D s.kids k.1 k.2.1 k.2.2 = some (s, q) := by
    intro s k hs hk
    obtain ⟨q, k', e, hq, -⟩ := spotDraw (k := (k.1, k.2.1, k.2.2)) hk
    refine ⟨q, hq, fun n hn => ?_⟩
    unfold Dspec_DrawSolid_0
    rw [e n hn, Option.bind_some, sol_eq']
  have e5 : Ev fun n => 1000000001 ≤ n ∧ l.length < n := ⟨1000000001 + l.length, fun n hn => by omega⟩
  cases o with
  | false =>
    have hr : Right s := ⟨hR, by omega⟩
    obtain ⟨q, hq, g⟩ := fin s k3 hr c3
    refine ⟨s, q, hr, hD.up (by omega), hq, e5.mono fun n ⟨h1, h2⟩ => ?_⟩
    unfold Dspec_DrawSolid
    simp only [e0 n h2, e1, e2' n (by omega), e3, Option.bind_some, frk_f]
    exact g n h1
  | true =>
    obtain ⟨c, k4, e4, hc, c4⟩ := cellOk c3 (a := 4) (by omega) (by omega)
    have hr := cvR_right c
    obtain ⟨q, hq, g⟩ := fin (cvR c).1 k4 hr c4
    refine ⟨_, q, hr, (cvR_dp c).up (by omega), hq, (e5.and (sConvex c (by unfold big; omega))).mono fun n ⟨⟨h1, h2⟩, h3⟩ => ?_⟩
    unfold Dspec_DrawSolid
    simp only [e0 n h2, e1, e2' n (by omega), e3, e4 n (by omega), h3, Option.bind_some, frk_t]
    exact g n h1

end Evl.T

/-! Egu -/
namespace Evl.T
open Go Evl

theorem iPlanesOkT (l : List Pl) (hb : l.length ≤ big) : Ev fun n => Dimpl_planesOk n l = some (l.all pOk) := by
  refine (e_ge (l.length + 502)).mono fun n hn => ?_
  have h := search (F := Dimpl_planesOk_0 n l (l.length : Int)) (len := l.length) (b := fun i => !pOk (gt l i)) (hit := some false) (miss := some true) hb ?_ ?_ l.length 0 n (by omega) (by omega)
  · show loopN _ _ _ = _
    rw [show (0 : Int) = ((0 : Nat) : Int) from rfl, h, any_gt l fun x => !pOk x, all_any]
    cases l.any fun x => !pOk x <;> rfl
  · intro rec i hi
    unfold Dimpl_planesOk_0
    simp only [lt_dec hi, frk_t, lget_nat, gt_some hi, Option.bind_some, iPlaneOk n _ (by omega)]
    cases pOk (gt l i) <;> rfl
  · intro rec
    unfold Dimpl_planesOk_0
    simp only [lt_self, frk_f]
theorem iPathT {l : List Pl} (h : ∀ p ∈ l, pOk p = true) (hl : l.length ≤ 24) : Ev fun n => Dimpl_PathText n l = some (bl' (paL l)) := by
  refine ((iPlanesOkT l (by unfold big; omega)).and (e_ge 502)).mono fun n ⟨h2, hn⟩ => ?_
  unfold Dimpl_PathText Dimpl_PathText_0
  rw [dec_f (by omega), frk_f, h2, Option.bind_some, List.all_eq_true.2 h]
  exact iPathL h hl hn l 0 n rfl (by omega) (by omega)
theorem ptL_ne (p : Pl) : ptL p ≠ [] := by
  rw [ptL_eq]; simp
theorem paL_nil {l : List Pl} : paL l = [] ↔ l = [] := by
  cases l with
  | nil => simp [paL, Lib.join_nil]
  | cons p l =>
    unfold paL
    rw [List.map_cons, Lib.join_cons]
    have := ptL_ne p
    simp [this]
theorem txtEmpty (l : List Pl) : (((bl' (paL l)).toList == (ByteArray.mk #[]).toList) == ((l.length : Int) == 0)) = true := by
  rw [ByteArray.toList_eq, ByteArray.toList_eq, bl_list]
  cases l with
  | nil => rfl
  | cons p l =>
    have h1 : (paL (p :: l) == ([] : List UInt8)) = false := by simpa using fun h => absurd (paL_nil.1 h) (by simp)
    have h2 : ((((p :: l : List Pl).length : Nat) : Int) == 0) = false := by simp; omega
    rw [h2]
    show ((paL (p :: l) == []) == false) = true
    rw [h1]; rfl
theorem cellsLoop {n : Nat} {t : ByteArray} {a b : Int} {C : List (List Pl)} (hb : C.length ≤ 1000) (hC : ∀ c ∈ C, Dimpl_PathText n c = some (bl' (paL c))) {R : Option Bool} (hR : Dlaws_FnTexts_1 n t a b = R) : ∀ (r : List (List Pl)) (k m : Nat), C.drop k = r → k ≤ C.length → r.length < m →
    loopN (Dlaws_FnTexts_2 n t a b C) m (k : Int) = R := by
  intro r
  induction r with
  | nil =>
    intro k m hr hk hm
    obtain ⟨m, rfl⟩ : ∃ j, m = j + 1 := ⟨m - 1, by omega⟩
    have hk : k = C.length := by have := List.drop_eq_nil_iff.1 hr; omega
    rw [loop_suc]
    unfold Dlaws_FnTexts_2
    subst hk
    simp only [lt_self, frk_f]; exact hR
  | cons x r ih =>
    intro k m hr hk hm
    simp only [List.length_cons] at hm
    obtain ⟨m, rfl⟩ : ∃ j, m = j + 1 := ⟨m - 1, by omega⟩
    obtain ⟨hkl, hx, hr'⟩ := drop_getT hr
    have hm : x ∈ C := List.mem_of_getElem? hx
    rw [loop_suc]
    show frk (decide ((k : Int) < (C.length : Int))) ((lget C (k : Int)).bind fun v10 => (Dimpl_PathText n v10).bind fun v11 => (lget C (k : Int)).bind fun v12 => frk (!((v11.toList == (ByteArray.mk #[]).toList) == ((v12.length : Int) == 0))) (some false) _) _ = _
    rw [lt_dec hkl, frk_t, lget_nat, hx, Option.bind_some, hC x hm, Option.bind_some, Option.bind_some, txtEmpty, Bool.not_true, frk_f, w64_suc (by unfold big; omega)]
    exact ih (k + 1) m hr' (by omega) (by omega)
theorem ssl_bl {L : List UInt8} (h : 0 < L.length) (hl : L.length ≤ 1000000) : ssl (bl' L) 0 (w64 (((bl' L).size : Int) - 1)) = some (bl' L.dropLast) := by
  rw [bl_size, w64_id (by omega) (by omega)]
  unfold ssl
  rw [if_pos ⟨by omega, by omega, by rw [bl_size]; omega⟩]
  congr 1
  apply ByteArray.ext
  rw [ByteArray.data_extract]
  have : ((L.length : Int) - 1).toNat = L.length - 1 := by omega
  rw [this]
  unfold bl'
  simp [List.dropLast_eq_take]
theorem rt_lensT {s : Sol} {path : List Pl} (h : Rt s path) : Lens s := by
  induction h with
  | leaf _ => exact .mk (by simp) (by simp)
  | node _ _ _ _ _ _ iha ihb =>
    refine .mk (by simp [big]) (fun x hx => ?_)
    simp only [List.mem_cons, List.not_mem_nil, or_false] at hx
    rcases hx with rfl | rfl
    · exact iha
    · exact ihb
open Classical in
theorem plain_FnTexts {F : Int → Prop} (l : List Int) (_ : l.length ≤ maxLen ∧ ∀ x ∈ l, F x) : ∃ n, Dlaws_FnTexts n l = some true := by
  by_cases hb : l.length ≤ 1048576
  · obtain ⟨s, q, hs, -, -, eD⟩ := drawS l hb
    have f0 : Dlaws_big l = some false := by unfold Dlaws_big; rw [dec_f (by omega)]
    have hn := hs.2
    have hlen := stL_len hs.1
    have hpos := stL_pos hs.1
    obtain ⟨C, c1, c2, eC⟩ := cellsI hs.1 ⟨by simp, by simp⟩
    have eP : Ev fun n => ∀ c ∈ C, Dimpl_PathText n c = some (bl' (paL c)) := Ev.all fun c hc => iPathT (c1 c hc).ok (c1 c hc).len
    have eS : Ev fun n => Dimpl_SameTree n s s = some true := (iSame s (rt_lensT hs.1)).ev.mono fun n h => by
      have := h s
      rw [decide_eq_true rfl] at this; exact this
    obtain ⟨n, hN⟩ := ((eD.and (treeI hs.1 (by omega)).ev).and ((parse1 hs).and ((parse2 hs).and (parse3 hs)))).and ((eC.ev.and eP).and ((iSolidOk s).and (eS.and (e_ge 1001))))
    obtain ⟨⟨g1, g2⟩, g3, g4, g5⟩ := hN n (Nat.le_refl n) |>.1
    obtain ⟨⟨k1, k2⟩, k3, k4, k5⟩ := hN n (Nat.le_refl n) |>.2
    have g2' : Dimpl_Solid_text n s = some (bl' (stL s)) := g2
    have k1' : Dimpl_Solid_cells n s true [] = some C := k1 (by omega)
    have e1 : Dimpl_SolidText n s = some (bl' (stL s)) := by
      unfold Dimpl_SolidText
      rw [k3, Option.bind_some, decide_eq_true hs, Bool.not_true, frk_f, g2']; rfl
    have e2 : Dimpl_Cells n s true = some C := by
      unfold Dimpl_Cells
      rw [k3, Option.bind_some, decide_eq_true hs, Bool.not_true, frk_f, k1']; rfl
    have e3 : scat (bl' (stL s)) (ByteArray.mk #[32]) = some (bl' (stL s ++ [32])) := scat_bl (by simp; omega)
    have e4 := ssl_bl hpos (by omega)
    have e5 : (((bl' (stL s)).size : Int) == 0) = false := by
      rw [bl_size]
      cases hz : (((stL s).length : Int) == 0) with
      | false => rfl
      | true => have := beq_iff_eq.1 hz; omega
    have eR : Dlaws_FnTexts_1 n (bl' (stL s)) (((stL s).length - 1 : Nat) : Int) ((stL s).length : Int) = some true := by
      unfold Dlaws_FnTexts_1
      rw [bl_size, w64_id (by omega) (by omega), show (((((stL s).length - 1 : Nat) : Int)) == ((stL s).length : Int) - 1) = true from beq_iff_eq.2 (by omega), frk_t, beq_self_eq_true]
    have eL := cellsLoop (t := bl' (stL s)) (by omega) k2 eR C 0 n rfl (by omega) (by omega)
    refine ⟨n, ?_⟩
    unfold Dlaws_FnTexts Dlaws_FnTexts_0
    simp only [f0, Option.bind_some, frk_f, g1, e1, g3, bne_self_eq_false, k4, Bool.not_true, e5, e4, g5, e3, g4, sol_eq', e2]
    exact eL
  · exact ⟨0, by unfold Dlaws_FnTexts; rw [show Dlaws_big l = some true by unfold Dlaws_big; rw [dec_t (by omega)]]; rfl⟩
end Evl.T
