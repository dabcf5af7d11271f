/- What the program's values are, as plain Lean; how they stand as cells. No condition. -/
import Derived.Test.YtpjeibdllddkjaaExd
namespace Evl
open Go

def fl {τ : Type} (c : τ → List AV) : List τ → List AV
  | [] => []
  | x :: xs => c x ++ fl c xs

/-- How elements of a kind stand as cells. -/
structure Enc (τ : Type) where
  c : τ → List AV
  f : List τ → List AV
  z : Nat
  hf : ∀ l, f l = fl c l
  hz : ∀ x, (c x).length = z

structure Pl where
  (A B C D : Int)
structure Pt where
  (X Y Z : Int)
structure Spot where
  (X Y Z W : Int)
inductive Sol where
  | mk (inn : Bool) (pl : Pl) (kids : List Sol)
def Sol.inn : Sol → Bool | .mk i _ _ => i
def Sol.pl : Sol → Pl | .mk _ p _ => p
def Sol.kids : Sol → List Sol | .mk _ _ k => k
theorem Sol.eta (s : Sol) : Sol.mk s.inn s.pl s.kids = s := by cases s; rfl

mutual
def cSol (o : Bool) : Sol → List AV
  | .mk i p k => [bl i, i64 p.A, i64 p.B, i64 p.C, i64 p.D, .sl o 6 k.length (cSols o k)]
def cSols (o : Bool) : List Sol → List AV
  | [] => []
  | x :: xs => cSol o x ++ cSols o xs
end
def dSol (o : Bool) (s : Sol) : List AV := [bl s.inn, i64 s.pl.A, i64 s.pl.B, i64 s.pl.C, i64 s.pl.D, .sl o 6 s.kids.length (cSols o s.kids)]
theorem dSol_eq (o : Bool) (s : Sol) : cSol o s = dSol o s := by cases s; rw [cSol]; rfl
theorem cSols_fl (o : Bool) : ∀ l, cSols o l = fl (dSol o) l
  | [] => by rw [cSols]; rfl
  | x :: xs => by rw [cSols, dSol_eq, cSols_fl o xs]; rfl

def cPl (p : Pl) : List AV := [i64 p.A, i64 p.B, i64 p.C, i64 p.D]
def ePl : Enc Pl := ⟨cPl, fl cPl, 4, fun _ => rfl, fun _ => rfl⟩
def cSpot (p : Spot) : List AV := [i64 p.X, i64 p.Y, i64 p.Z, i64 p.W]
def eSpot : Enc Spot := ⟨cSpot, fl cSpot, 4, fun _ => rfl, fun _ => rfl⟩
def eSol (o : Bool) : Enc Sol := ⟨dSol o, cSols o, 6, cSols_fl o, fun _ => rfl⟩
def cInt (x : Int) : List AV := [i64 x]
def eInt : Enc Int := ⟨cInt, fl cInt, 1, fun _ => rfl, fun _ => rfl⟩
def cU8 (x : Int) : List AV := [.lit (.int .u8 x)]
def eU8 : Enc Int := ⟨cU8, fl cU8, 1, fun _ => rfl, fun _ => rfl⟩
def cBool (x : Bool) : List AV := [bl x]
def eBool : Enc Bool := ⟨cBool, fl cBool, 1, fun _ => rfl, fun _ => rfl⟩
def cStr (x : ByteArray) : List AV := [.lit (.string x)]
def eStr : Enc ByteArray := ⟨cStr, fl cStr, 1, fun _ => rfl, fun _ => rfl⟩
def cPls (o : Bool) (l : List Pl) : List AV := [.sl o 4 l.length (ePl.f l)]
def ePls (o : Bool) : Enc (List Pl) := ⟨cPls o, fl (cPls o), 1, fun _ => rfl, fun _ => rfl⟩

variable {τ : Type} {e : Enc τ} {L M : List τ} {j : Int} {x : τ}

theorem fl_app (c : τ → List AV) : ∀ l m : List τ, fl c (l ++ m) = fl c l ++ fl c m
  | [], _ => rfl
  | x :: l, m => by simp only [List.cons_append, fl, fl_app c l m, List.append_assoc]
theorem fl_len (c : τ → List AV) (z : Nat) (hz : ∀ x, (c x).length = z) : ∀ l : List τ, (fl c l).length = l.length * z
  | [] => by simp [fl]
  | x :: l => by simp only [fl, List.length_append, hz, fl_len c z hz l, List.length_cons]; rw [Nat.add_mul]; omega
theorem fl_dropk (c : τ → List AV) (z : Nat) (hz : ∀ x, (c x).length = z) : ∀ (l : List τ) (k : Nat), (fl c l).drop (k * z) = fl c (l.drop k)
  | [], k => by simp [fl]
  | x :: l, 0 => by simp
  | x :: l, k + 1 => by
    simp only [fl, List.drop_succ_cons]
    rw [← fl_dropk c z hz l k, List.drop_append, hz]
    have e1 : (k + 1) * z = k * z + z := by rw [Nat.add_mul]; omega
    rw [List.drop_eq_nil_of_le (by rw [hz, e1]; omega), List.nil_append, e1]
    congr 1; omega
theorem fl_takek (c : τ → List AV) (z : Nat) (hz : ∀ x, (c x).length = z) : ∀ (l : List τ) (k : Nat), (fl c l).take (k * z) = fl c (l.take k)
  | [], k => by simp [fl]
  | x :: l, 0 => by simp [fl]
  | x :: l, k + 1 => by
    simp only [fl, List.take_succ_cons]
    rw [← fl_takek c z hz l k, List.take_append, hz]
    have e1 : (k + 1) * z = k * z + z := by rw [Nat.add_mul]; omega
    rw [List.take_of_length_le (by rw [hz, e1]; omega), e1]
    congr 2; omega
theorem Enc.len (e : Enc τ) (l : List τ) : (e.f l).length = l.length * e.z := by rw [e.hf]; exact fl_len _ _ e.hz l
theorem Enc.dropk (e : Enc τ) (l : List τ) (k : Nat) : (e.f l).drop (k * e.z) = e.f (l.drop k) := by rw [e.hf, e.hf]; exact fl_dropk _ _ e.hz l k
theorem Enc.takek (e : Enc τ) (l : List τ) (k : Nat) : (e.f l).take (k * e.z) = e.f (l.take k) := by rw [e.hf, e.hf]; exact fl_takek _ _ e.hz l k
theorem Enc.app (e : Enc τ) (l m : List τ) : e.f (l ++ m) = e.f l ++ e.f m := by rw [e.hf, e.hf, e.hf]; exact fl_app _ l m
theorem Enc.cons (e : Enc τ) (x : τ) (l : List τ) : e.f (x :: l) = e.c x ++ e.f l := by rw [e.hf, e.hf]; rfl

/-- An element at a place that is an int. -/
def lget (l : List τ) (j : Int) : Option τ := if 0 ≤ j then l[j.toNat]? else none
theorem lget_some (h : lget L j = some x) : 0 ≤ j ∧ j.toNat < L.length ∧ L[j.toNat]? = some x := by
  unfold lget at h
  split at h
  · exact ⟨by assumption, (List.getElem?_eq_some_iff.1 h).1, h⟩
  · cases h
theorem Enc.dropx (e : Enc τ) {k : Nat} (h : L[k]? = some x) : (e.f L).drop (k * e.z) = e.c x ++ e.f (L.drop (k + 1)) := by
  rw [e.dropk]
  obtain ⟨hk, hx⟩ := List.getElem?_eq_some_iff.1 h
  rw [List.drop_eq_getElem_cons hk, e.cons, hx]
theorem ix (e : Enc τ) (h : lget L j = some x) : IxSl false e.z L.length (e.f L) j (.cptr (e.c x ++ e.f (L.drop (j.toNat + 1)))) := by
  obtain ⟨h1, h2, h3⟩ := lget_some h
  refine ⟨h1, by omega, ?_, ?_⟩
  · rw [e.len]; exact Nat.mul_le_mul_right _ (by omega)
  · simp only [Bool.false_eq_true, if_false]; rw [e.dropx h3]
theorem Enc.share (e e' : Enc τ) (h : ∀ x, shareL (e.c x) = e'.c x) (l : List τ) : shareL (e.f l) = e'.f l := by
  rw [e.hf, e'.hf]
  have happ : ∀ a b : List AV, shareL (a ++ b) = shareL a ++ shareL b := by
    intro a b
    induction a with
    | nil => rfl
    | cons x a ih => simp only [List.cons_append, shareL, ih]
  induction l with
  | nil => rfl
  | cons x l ih => simp only [fl, happ, h, ih]
theorem ixo (e e' : Enc τ) (hs : ∀ x, shareL (e.c x) = e'.c x) (h : lget L j = some x) : IxSl true e.z L.length (e.f L) j (.cptr (e'.c x ++ e'.f (L.drop (j.toNat + 1)))) := by
  obtain ⟨h1, h2, h3⟩ := lget_some h
  refine ⟨h1, by omega, ?_, ?_⟩
  · rw [e.len]; exact Nat.mul_le_mul_right _ (by omega)
  · rw [if_pos rfl, e.dropk, Enc.share e e' hs]
    obtain ⟨hk, hx⟩ := List.getElem?_eq_some_iff.1 h3
    rw [List.drop_eq_getElem_cons hk, e'.cons, hx]
theorem inr (h : lget L j = some x) : InR j L.length := by
  obtain ⟨h1, h2, h3⟩ := lget_some h
  exact ⟨h1, by omega⟩
theorem inA {n : Nat} (h : (decide (0 ≤ j) && decide (j < (n : Int))) = true) : InR j n := by
  simpa [InR] using h
theorem ldA (e : Enc τ) (h : lget L j = some x) (f k : Nat) (hk : decide (f + k ≤ e.z) = true) (hkn : decide (0 < k ∨ 0 < e.z) = true) : LdAg (e.f L) (j.toNat * e.z + f) k (((e.c x).drop f).take k) := by
  obtain ⟨h1, h2, h3⟩ := lget_some h
  have hk := of_decide_eq_true hk
  refine ⟨?_, ?_⟩
  · rw [e.len]
    have := Nat.mul_le_mul_right e.z (Nat.succ_le_of_lt h2)
    rw [Nat.succ_mul] at this; omega
  · rw [← List.drop_drop, e.dropx h3, List.drop_append, List.take_append]
    rw [List.length_drop, e.hz]
    have : k - (e.z - f) = 0 := by omega
    rw [this]; simp
theorem ld1 (e : Enc τ) (h : lget L j = some x) (f : Nat) {c : AV} (hc : (e.c x)[f]? = some c) : LdOne (e.f L) (j.toNat * e.z + f) c := by
  obtain ⟨h1, h2, h3⟩ := lget_some h
  unfold LdOne
  have := e.dropx h3
  rw [← List.getElem?_drop, this, List.getElem?_append_left ((List.getElem?_eq_some_iff.1 hc).1)]
  exact hc
theorem stA (e : Enc τ) (h : lget L j = some x) (f k : Nat) (ys : List AV) (x' : τ) (hk : decide (f + k ≤ e.z) = true) (hy : e.c x' = (e.c x).take f ++ ys ++ (e.c x).drop (f + k)) : StAt (e.f L) (j.toNat * e.z + f) k ys (e.f (L.set j.toNat x')) := by
  obtain ⟨h1, h2, h3⟩ := lget_some h
  have hk := of_decide_eq_true hk
  have hl := Nat.mul_le_mul_right e.z (Nat.succ_le_of_lt h2)
  rw [Nat.succ_mul] at hl
  refine ⟨by rw [e.len]; omega, ?_⟩
  obtain ⟨hj, hx⟩ := List.getElem?_eq_some_iff.1 h3
  have e0 : L.set j.toNat x' = L.take j.toNat ++ x' :: L.drop (j.toNat + 1) := List.set_eq_take_append_cons_drop .. |>.trans (by rw [if_pos h2])
  have e1 : e.f L = e.f (L.take j.toNat) ++ (e.c x ++ e.f (L.drop (j.toNat + 1))) := by
    rw [← e.dropx h3, ← e.takek, List.take_append_drop]
  have el : (e.f (L.take j.toNat)).length = j.toNat * e.z := by rw [e.len, List.length_take, Nat.min_eq_left (Nat.le_of_lt h2)]
  rw [e0, e.app, e.cons, hy, e1]
  rw [List.take_append, el, List.drop_append, el]
  have t1 : List.take (j.toNat * e.z + f) (e.f (L.take j.toNat)) = e.f (L.take j.toNat) := List.take_of_length_le (by omega)
  have t2 : List.drop (j.toNat * e.z + f + k) (e.f (L.take j.toNat)) = [] := List.drop_eq_nil_of_le (by omega)
  rw [t1, t2, List.nil_append]
  have t3 : j.toNat * e.z + f - j.toNat * e.z = f := by omega
  have t4 : j.toNat * e.z + f + k - j.toNat * e.z = f + k := by omega
  rw [t3, t4, List.take_append, List.drop_append, e.hz]
  have t5 : f - e.z = 0 := by omega
  have t6 : f + k - e.z = 0 := by omega
  rw [t5, t6]
  simp [List.append_assoc]

/-! appends -/
def apB (bytes n : Nat) : Bool := decide (n * bytes ≤ 140737488355328) && decide (n ≤ 9223372036854775807)
theorem apOk (e : Enc τ) {bytes n : Nat} (h : apB bytes n = true) {m : Nat} (hm : m = n * e.z) : AppB bytes e.z m := by
  simp only [apB, Bool.and_eq_true, decide_eq_true_eq] at h
  subst hm
  refine ⟨?_, ?_⟩
  · have := Nat.mul_le_mul_right e.z h.1
    unfold limBytes
    calc n * e.z * bytes = n * bytes * e.z := by rw [Nat.mul_assoc, Nat.mul_comm e.z, Nat.mul_assoc]
      _ ≤ _ := this
  · exact Nat.mul_le_mul_right _ h.2
theorem app_one (e : Enc τ) {bytes : Nat} (h : apB bytes (L.length + M.length) = true) : AppB bytes e.z ((e.f L).length + (e.f M).length) := apOk e h (by rw [e.len, e.len, Nat.add_mul])
theorem app_m (e : Enc τ) (hz : decide (0 < e.z) = true) : L.length + (e.f M).length / e.z = (L ++ M).length := by
  rw [e.len, Nat.mul_div_cancel _ (of_decide_eq_true hz), List.length_append]
theorem app_new (e : Enc τ) : e.f (L ++ M) = e.f L ++ e.f M := e.app L M
theorem len_row (e : Enc τ) : L.length * e.z = (e.f L).length := (e.len L).symm
theorem len_row' (e : Enc τ) : (e.f L).length = L.length * e.z := e.len L
theorem Enc.noOwn (e : Enc τ) (h : ∀ x, hasOwnL (e.c x) = false) (l : List τ) : hasOwnL (e.f l) = false := by
  rw [e.hf]
  have happ : ∀ a b : List AV, hasOwnL (a ++ b) = (hasOwnL a || hasOwnL b) := by
    intro a b
    induction a with
    | nil => rfl
    | cons x a ih => simp only [List.cons_append, hasOwnL, ih, Bool.or_assoc]
  induction l with
  | nil => rfl
  | cons x l ih => simp only [fl, happ, h, ih, Bool.or_self]

/-! slices of slices -/
def lsl (l : List τ) (a b : Int) : Option (List τ) := if 0 ≤ a ∧ a ≤ b ∧ b ≤ l.length then some ((l.drop a.toNat).take (b.toNat - a.toNat)) else none
theorem slF (e : Enc τ) {a b : Int} (h : lsl L a b = some M) : SlS e.z L.length (e.f L) a b false (.sl false e.z M.length (e.f M)) := by
  unfold lsl at h
  split at h
  · rename_i hc
    cases h
    refine ⟨e.len L, hc.1, hc.2.1, hc.2.2, ?_⟩
    simp only [Bool.false_eq_true, if_false]
    rw [e.dropk, e.takek]
    congr 1
    rw [List.length_take, List.length_drop]; omega
  · cases h
theorem slM (e e' : Enc τ) (hs : ∀ x, shareL (e.c x) = e'.c x) {a b : Int} (h : lsl L a b = some M) : SlS e.z L.length (e.f L) a b true (.sl false e.z M.length (e'.f M)) := by
  have hz : L = [] ∨ e'.z = e.z := by
    cases L with
    | nil => exact .inl rfl
    | cons x _ => right; rw [← e'.hz x, ← hs, shareL_length, e.hz]
  unfold lsl at h
  split at h
  · rename_i hc
    cases h
    refine ⟨e.len L, hc.1, hc.2.1, hc.2.2, ?_⟩
    rw [if_pos rfl, Enc.share e e' hs]
    rcases hz with rfl | hz
    · simp only [List.length_nil] at hc
      have h1 : b = 0 := by have := hc.2.2; have := hc.2.1; have := hc.1; simp only [Int.ofNat_zero] at *; omega
      have h2 : a = 0 := by have := hc.2.1; have := hc.1; omega
      subst h1; subst h2
      simp [e'.hf, fl]
    · rw [← hz, e'.dropk, e'.takek]
      congr 1
      rw [List.length_take, List.length_drop]; omega
  · cases h

/-! made rows -/
def mkB (k : Int) (bytes : Nat) : Bool := decide (0 ≤ k) && (decide (k ≤ 9223372036854775807) && decide (k.toNat * bytes ≤ 140737488355328))
theorem mkOk (e : Enc τ) {k : Int} {bytes : Nat} (h : mkB k bytes = true) (x : τ) {z : List AV} (hx : e.c x = z) : MkP k bytes z (List.replicate k.toNat x).length (e.f (List.replicate k.toNat x)) := by
  simp only [mkB, Bool.and_eq_true, decide_eq_true_eq] at h
  refine ⟨h.1, h.2.1, h.2.2, by simp, ?_⟩
  rw [e.hf]
  generalize k.toNat = n
  induction n with
  | zero => rfl
  | succ n ih => simp only [List.replicate_succ, fl, ih, List.flatten_cons, hx]

/-! strings -/
def sget (t : ByteArray) (j : Int) : Option Int := if h : 0 ≤ j ∧ j.toNat < t.size then some ((t[j.toNat]'h.2).toNat : Int) else none
theorem strIx {t : ByteArray} {x : Int} (h : sget t j = some x) : StrIx t j (.lit (.int .u8 x)) := by
  unfold sget at h
  split at h
  · rename_i hc; cases h; exact ⟨hc, rfl⟩
  · cases h
def ssl (t : ByteArray) (a b : Int) : Option ByteArray := if 0 ≤ a ∧ a ≤ b ∧ b ≤ t.size then some (t.extract a.toNat b.toNat) else none
theorem strSl {t u : ByteArray} {a b : Int} (h : ssl t a b = some u) : SlT t a b (.lit (.string u)) := by
  unfold ssl at h
  split at h
  · rename_i hc; cases h; exact ⟨hc.1, hc.2.1, hc.2.2, rfl⟩
  · cases h
def scat (a b : ByteArray) : Option ByteArray := if a.size + b.size ≤ 9223372036854775807 then some (a ++ b) else none
theorem catOk {a b c : ByteArray} (h : scat a b = some c) : binV .add (.string a) (.string b) = some (.string c) := by
  unfold scat at h
  split at h
  · rename_i hc; cases h; simp only [binV, if_pos hc]
  · cases h

/-! numbers -/
def qt (k : IntKind) (a b : Int) : Option Int := if b = 0 then none else some (k.wrap (a.tdiv b))
def rm (_ : IntKind) (a b : Int) : Option Int := if b = 0 then none else some (a.tmod b)
theorem qtOk {k : IntKind} {a b c : Int} (h : qt k a b = some c) : binV .quo (.int k a) (.int k b) = some (.int k c) := by
  unfold qt at h
  split at h
  · cases h
  · rename_i hb; cases h; simp only [binV, if_true, if_neg hb]
theorem rmOk {k : IntKind} {a b c : Int} (h : rm k a b = some c) : binV .rem (.int k a) (.int k b) = some (.int k c) := by
  unfold rm at h
  split at h
  · cases h
  · rename_i hb; cases h; simp only [binV, if_true, if_neg hb]
theorem max2 (k : IntKind) (a b : Int) : maxInts [.lit (.int k a), .lit (.int k b)] = some (k, if b > a then b else a) := by
  simp [maxInts]
theorem min2 (k : IntKind) (a b : Int) : minInts [.lit (.int k a), .lit (.int k b)] = some (k, if b < a then b else a) := by
  simp [minInts]

def maxN : Int → List Int → Int
  | a, [] => a
  | a, b :: l => maxN (if b > a then b else a) l
theorem maxNok (k : IntKind) : ∀ (l : List Int) (a : Int), maxInts (.lit (.int k a) :: l.map fun x => .lit (.int k x)) = some (k, maxN a l)
  | [], a => by simp [maxInts, maxN]
  | b :: l, a => by
    simp only [List.map_cons, maxInts, if_true, maxN]
    exact maxNok k l _
def minN : Int → List Int → Int
  | a, [] => a
  | a, b :: l => minN (if b < a then b else a) l
theorem minNok (k : IntKind) : ∀ (l : List Int) (a : Int), minInts (.lit (.int k a) :: l.map fun x => .lit (.int k x)) = some (k, minN a l)
  | [], a => by simp [minInts, minN]
  | b :: l, a => by
    simp only [List.map_cons, minInts, if_true, minN]
    exact minNok k l _

/-- Made rows of trees: their nils told as rows. -/
def cZs (_ : Unit) : List AV := [bl false, i64 0, i64 0, i64 0, i64 0, .nil]
def eZs : Enc Unit := ⟨cZs, fl cZs, 6, fun _ => rfl, fun _ => rfl⟩
def zSol : Sol := .mk false ⟨0, 0, 0, 0⟩ []
theorem wkZs (o st : Bool) (n : Nat) : WkB ⟨st, 6, eZs.f (List.replicate n ())⟩ ⟨st, 6, (eSol o).f (List.replicate n zSol)⟩ := by
  refine ⟨rfl, rfl, ?_⟩
  show WkCs (eZs.f (List.replicate n ())) ((eSol o).f (List.replicate n zSol))
  rw [eZs.hf, (eSol o).hf]
  induction n with
  | zero => exact trivial
  | succ n ih =>
    simp only [List.replicate_succ, fl]
    exact ⟨.inl rfl, .inl rfl, .inl rfl, .inl rfl, .inl rfl, .inr (.inr (.inr ⟨rfl, o, 6, rfl⟩)), ih⟩
theorem rflB (x : Box) : some x = some x := rfl
theorem rflV (x : AV) : x = x := rfl
theorem rflI (x : Int) : x = x := rfl
theorem setLen (b : Nat) (l : List τ) (i : Nat) (x : τ) : AV.msl b l.length = AV.msl b (l.set i x).length := congrArg (AV.msl b) List.length_set.symm
theorem zLen (n : Nat) : (List.replicate n ()).length = (List.replicate n zSol).length := by simp

/-! bits -/
def bAnd (k : IntKind) (a b : Int) : Int := k.wrap (BitVec.ofInt k.bits a &&& BitVec.ofInt k.bits b).toNat
def bOr (k : IntKind) (a b : Int) : Int := k.wrap (BitVec.ofInt k.bits a ||| BitVec.ofInt k.bits b).toNat
def bXor (k : IntKind) (a b : Int) : Int := k.wrap (BitVec.ofInt k.bits a ^^^ BitVec.ofInt k.bits b).toNat

/-- A piece of code by the way to it: 0 the first part, else the second. -/
def cp : List Nat → Code → Code
  | [], c => c
  | 0 :: p, c => cp p (Code.fst c)
  | _ :: p, c => cp p (Code.snd c)
def hasP (l : List (Nat × Nat)) (a b : Nat) : Bool := l.any fun p => p.1 == a && p.2 == b

theorem sPl (p : Pl) : shareL (ePl.c p) = ePl.c p := rfl
theorem sInt (p : Int) : shareL (eInt.c p) = eInt.c p := rfl
theorem sU8 (p : Int) : shareL (eU8.c p) = eU8.c p := rfl
theorem sStr (p : ByteArray) : shareL (eStr.c p) = eStr.c p := rfl
theorem sSpot (p : Spot) : shareL (eSpot.c p) = eSpot.c p := rfl
theorem sSols (o : Bool) : (∀ s : Sol, shareL (dSol o s) = dSol false s) := by
  have key : ∀ n : Nat, ∀ s : Sol, sizeOf s < n → shareL (dSol o s) = dSol false s := by
    intro n
    induction n with
    | zero => intro s h; omega
    | succ n ih =>
      intro s hs
      obtain ⟨i, p, k⟩ := s
      have hk : ∀ l : List Sol, (∀ x ∈ l, sizeOf x < n) → shareL (cSols o l) = cSols false l := by
        intro l hl
        rw [cSols_fl, cSols_fl]
        induction l with
        | nil => rfl
        | cons x l ihl =>
          have happ : ∀ a b : List AV, shareL (a ++ b) = shareL a ++ shareL b := by
            intro a b
            induction a with
            | nil => rfl
            | cons x a ih => simp only [List.cons_append, shareL, ih]
          simp only [fl, happ]
          rw [ih x (hl x (by simp)), ihl (fun y hy => hl y (by simp [hy]))]
      have := hk k (fun x hx => by
        have h1 := List.sizeOf_lt_of_mem hx
        simp only [Sol.mk.sizeOf_spec] at hs; omega)
      cases o with
      | false => rfl
      | true =>
        show [_, _, _, _, _, AV.sl false 6 k.length (shareL (cSols true k))] = _
        rw [this]; rfl
  exact fun s => key (sizeOf s + 1) s (by omega)
theorem sSol (o : Bool) (s : Sol) : shareL ((eSol o).c s) = (eSol false).c s := sSols o s
theorem sPls (o : Bool) (l : List Pl) : shareL ((ePls o).c l) = (ePls false).c l := by
  cases o with
  | false => rfl
  | true =>
    show [AV.sl false 4 l.length (shareL (ePl.f l))] = _
    rw [Enc.share ePl ePl sPl]; rfl
/-- A result that is looked at alone. -/
theorem shSl {P : Program} {H : Hints} {Y : FuncId → List AV → (Nat → Option Box) → AV → (Nat → Option Box) → Prop} {f : FuncId} {args : List AV} {bx bx' : Nat → Option Box} (e e' : Enc τ) (hs : ∀ x, shareL (e.c x) = e'.c x) {z n : Nat} (h : Big P H Y (.call f args bx (.sl true z n (e.f L)) bx')) : Big P H Y (.call f args bx (.sl false z n (e'.f L)) bx') := by
  refine .wkr h (.inl (.inl (.inr (.inr (.inl ?_)))))
  simp only [Evl.share, Enc.share e e' hs]
end Evl
