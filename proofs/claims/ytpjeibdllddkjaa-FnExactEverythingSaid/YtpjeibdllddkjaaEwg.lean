/- Walking by lists: states as lists of slots and boxes. No condition. -/
import Derived.Test.YtpjeibdllddkjaaEwf
import Derived.KernelRfl
namespace Evl
open Go

variable {P : Program} {H : Hints} {Y : FuncId → List AV → (Nat → Option Box) → AV → (Nat → Option Box) → Prop} {fid : FuncId}

/-- A state by its slots and boxes; every other slot is not known. -/
structure L where
  ts : List (Nat × AV)
  bs : List (Nat × Box)

def L.get (l : L) (i : Nat) : AV := match lookup i l.ts with | some v => v | none => .bad
def L.toS (l : L) : S := ⟨l.get, fun b => lookup b l.bs⟩

def applyL (e : Eff) (dst : Option Nat) (l : L) : L where
  ts := (match dst with | some d => [(d, e.val)] | none => []) ++ (e.set ++ l.ts).map fun q => (q.1, killAll e.kl q.2)
  bs := e.put ++ (l.bs.filter fun q => !e.kl.contains q.1).map fun q => (q.1, killBox e.kl q.2)

theorem lookup_map {α β : Type} (f : α → β) (i : Nat) : ∀ l : List (Nat × α), lookup i (l.map fun q => (q.1, f q.2)) = (lookup i l).map f
  | [] => rfl
  | (k, x) :: l => by
    simp only [List.map_cons, lookup]
    split
    · rfl
    · exact lookup_map f i l
theorem lookup_filter {α : Type} (p : Nat → Bool) (i : Nat) : ∀ l : List (Nat × α), lookup i (l.filter fun q => p q.1) = if p i then lookup i l else none
  | [] => by simp [lookup]
  | (k, x) :: l => by
    simp only [List.filter_cons]
    by_cases e : k = i
    · subst e
      by_cases hp : p k = true
      · simp [hp, lookup]
      · simp only [hp, lookup]
        have := lookup_filter p k l
        simp only [hp] at this
        simpa using this
    · by_cases hp : p k = true
      · simp only [hp, if_true, lookup, if_neg e]; exact lookup_filter p i l
      · simp only [hp, lookup, if_neg e]; exact lookup_filter p i l
theorem killAll_bad : ∀ l : List Nat, killAll l .bad = .bad := by
  intro l; induction l with
  | nil => rfl
  | cons d l ih => simpa [killAll, kill] using ih

theorem S.ext' {s u : S} (h1 : ∀ i, s.t i = u.t i) (h2 : ∀ i, s.b i = u.b i) : s = u := by
  cases s; cases u
  congr 1
  · exact funext h1
  · exact funext h2

theorem applyL_ok (e : Eff) (dst : Option Nat) (l : L) : (applyL e dst l).toS = e.apply dst l.toS := by
  apply S.ext'
  · intro i
    simp only [L.toS, L.get, applyL, Eff.apply]
    by_cases hd : dst = some i
    · subst hd; simp [lookup]
    · rw [if_neg hd]
      have e1 : lookup i ((match dst with | some d => [(d, e.val)] | none => []) ++ (e.set ++ l.ts).map fun q => (q.1, killAll e.kl q.2)) = (lookup i (e.set ++ l.ts)).map (killAll e.kl) := by
        rw [← lookup_map]
        cases dst with
        | none => rfl
        | some d => simp only [List.cons_append, List.nil_append, lookup]; rw [if_neg (fun h => hd (by rw [h]))]
      rw [e1, lookup_append]
      cases lookup i e.set with
      | some x => rfl
      | none =>
        cases lookup i l.ts with
        | some x => rfl
        | none => simp [killAll_bad]
  · intro i
    simp only [L.toS, applyL, Eff.apply, lookup_append]
    cases lookup i e.put with
    | some x => rfl
    | none =>
      simp only
      rw [lookup_map, lookup_filter (fun k => !e.kl.contains k)]
      by_cases hk : i ∈ e.kl
      · simp [hk]
      · simp [hk]

/-- Operations that need nothing to be shown. -/
def stepsL (P : Program) (H : Hints) (fid : FuncId) (ops : Array Oper) : List Nat → L → Option L
  | [], l => some l
  | i :: is, l =>
    match ops[i]? with
    | some o => match gd ops o l.toS with
      | some true => match opE P H fid o l.toS with
        | some e => if e.kl.all (· < 1000) then stepsL P H fid ops is (applyL e o.dst l) else none
        | none => none
      | some false => stepsL P H fid ops is (applyL skipE o.dst l)
      | none => none
    | none => none
def logL (P : Program) (H : Hints) (fid : FuncId) (ops : Array Oper) : List Nat → L → List LogE
  | [], _ => []
  | i :: is, l =>
    match ops[i]? with
    | some o => match gd ops o l.toS with
      | some true => match opE P H fid o l.toS with
        | some e => mkLog ops i o l.toS e :: logL P H fid ops is (applyL e o.dst l)
        | none => []
      | some false => mkLog ops i o l.toS skipE :: logL P H fid ops is (applyL skipE o.dst l)
      | none => []
    | none => []

def WO (P : Program) (H : Hints) (Y : FuncId → List AV → (Nat → Option Box) → AV → (Nat → Option Box) → Prop) (fid : FuncId) (ops : Array Oper) (is : List Nat) (l : L) (Q : L → List LogE → Prop) : Prop :=
  ∃ l' lg, Big P H Y (.ops fid ops is l.toS l'.toS lg) ∧ Q l' lg
def W (P : Program) (H : Hints) (Y : FuncId → List AV → (Nat → Option Box) → AV → (Nat → Option Box) → Prop) (fid : FuncId) (c : Code) (l : L) (Q : X → L → Prop) : Prop :=
  ∃ x l', Big P H Y (.code fid c l.toS x l'.toS) ∧ Q x l'

variable {ops : Array Oper} {is : List Nat} {l : L} {Q : L → List LogE → Prop}

theorem wo_nil (h : Q l []) : WO P H Y fid ops [] l Q := ⟨l, [], .nil, h⟩
theorem wo_seg {is1 is2 : List Nat} {l1 : L} (h1 : stepsL P H fid ops is1 l = some l1) (h2 : WO P H Y fid ops is2 l1 fun l' lg => Q l' (logL P H fid ops is1 l ++ lg)) : WO P H Y fid ops (is1 ++ is2) l Q := by
  induction is1 generalizing l Q with
  | nil => cases h1; simpa [logL] using h2
  | cons i is1 ih =>
    simp only [stepsL] at h1
    split at h1
    · rename_i o ho
      split at h1
      · rename_i hg
        split at h1
        · rename_i e he
          simp only [Option.ite_none_right_eq_some] at h1
          obtain ⟨hk, h1⟩ := h1
          obtain ⟨l', lg, hb, hq⟩ := ih (Q := fun l' lg => Q l' (mkLog ops i o l.toS e :: lg)) h1 (by simpa [logL, ho, hg, he] using h2)
          rw [applyL_ok] at hb
          exact ⟨l', _, .step ho hg he hk hb, hq⟩
        · cases h1
      · rename_i hg
        obtain ⟨l', lg, hb, hq⟩ := ih (Q := fun l' lg => Q l' (mkLog ops i o l.toS skipE :: lg)) h1 (by simpa [logL, ho, hg] using h2)
        rw [applyL_ok] at hb
        exact ⟨l', _, .skip ho hg hb, hq⟩
      · cases h1
    · cases h1
theorem wo_one {i : Nat} {o : Oper} {e : Eff} {l1 : L} (ho : ops[i]? = some o) (hg : gd ops o l.toS = some true) (he : opE P H fid o l.toS = some e) (hk : e.kl.all (· < 1000) = true) (hl : applyL e o.dst l = l1)
    (h2 : WO P H Y fid ops is l1 fun l' lg => Q l' (mkLog ops i o l.toS e :: lg)) : WO P H Y fid ops (i :: is) l Q := by
  subst hl
  obtain ⟨l', lg, hb, hq⟩ := h2
  rw [applyL_ok] at hb
  exact ⟨l', _, .step ho hg he hk hb, hq⟩
theorem wo_skip {i : Nat} {o : Oper} {l1 : L} (ho : ops[i]? = some o) (hg : gd ops o l.toS = some false) (hl : applyL skipE o.dst l = l1)
    (h2 : WO P H Y fid ops is l1 fun l' lg => Q l' (mkLog ops i o l.toS skipE :: lg)) : WO P H Y fid ops (i :: is) l Q := by
  subst hl
  obtain ⟨l', lg, hb, hq⟩ := h2
  rw [applyL_ok] at hb
  exact ⟨l', _, .skip ho hg hb, hq⟩
theorem wo_call {i : Nat} {o : Oper} {l1 : L} {e : Eff} {f : FuncId} {xs : List Operand} {caps caps' : List AV} {p : Prep} {r : AV} {bx' : Nat → Option Box} (ho : ops[i]? = some o) (hg : gd ops o l.toS = some true) (hcal : calleeOf o l.toS = some (f, xs, caps)) (hroc : roCaps l.toS.b caps = some caps') (hp : prep H f l.toS 0 xs = some p) (hcm : caps = [] ∨ p.mts = [])
    (hc : Big P H Y (.call f (p.args ++ caps') (bxOf l.toS p.mts) r bx')) (he : callE o.dst { p with tmp := leans l.toS.b (.fnv f caps) ++ p.tmp } r bx' = some e) (hk : e.kl.all (· < 1000) = true) (hl : applyL e o.dst l = l1)
    (h2 : WO P H Y fid ops is l1 fun l' lg => Q l' (mkLog ops i o l.toS e :: lg)) : WO P H Y fid ops (i :: is) l Q := by
  subst hl
  obtain ⟨l', lg, hb, hq⟩ := h2
  rw [applyL_ok] at hb
  exact ⟨l', _, .call ho hg hcal hroc hp hcm hc he hk hb, hq⟩

/-! pieces of code -/
def Code.isSeq : Code → Bool | .seq _ _ => true | _ => false
def Code.isCond : Code → Bool | .cond _ _ _ => true | _ => false
def Code.isBlock : Code → Bool | .block _ _ => true | _ => false
def Code.isLoop : Code → Bool | .loop _ => true | _ => false
def Code.isRegion (d : Bool) : Code → Bool | .region _ _ b => b == d | _ => false
def Code.fst : Code → Code | .seq a _ => a | .cond _ a _ => a | .block _ a => a | .loop a => a | c => c
def Code.snd : Code → Code | .seq _ b => b | .cond _ _ b => b | c => c
def Code.on : Code → Operand | .cond c _ _ => c | _ => .const (.bool false)
def Code.id : Code → Nat | .block i _ => i | .exit i => i | _ => 0
def Code.opsOf : Code → Array Oper | .region _ o _ => o | _ => #[]

variable {c : Code} {K : X → L → Prop}

theorem w_region (h : Code.isRegion false c = true) (hw : WO P H Y fid (Code.opsOf c) (List.range (Code.opsOf c).size) l fun l' _ => K .nor l') : W P H Y fid c l K := by
  cases c <;> simp [Code.isRegion] at h
  subst h
  obtain ⟨l', lg, hb, hq⟩ := hw
  exact ⟨.nor, l', .region hb, hq⟩
theorem w_draw (h : Code.isRegion true c = true) (hw : WO P H Y fid (Code.opsOf c) (List.range (Code.opsOf c).size) l fun l' lg => drawOk (Code.opsOf c) lg = true ∧ K .nor l') : W P H Y fid c l K := by
  cases c <;> simp [Code.isRegion] at h
  subst h
  obtain ⟨l', lg, hb, hq⟩ := hw
  exact ⟨.nor, l', .draw hb hq.1, hq.2⟩
theorem w_seq (h : Code.isSeq c = true) (hw : W P H Y fid (Code.fst c) l fun x l1 => match x with | .nor => W P H Y fid (Code.snd c) l1 K | x => K x l1) : W P H Y fid c l K := by
  cases c <;> simp [Code.isSeq] at h
  obtain ⟨x, l1, hb, hq⟩ := hw
  cases x with
  | nor =>
    obtain ⟨x', l2, hb', hq'⟩ := hq
    exact ⟨x', l2, .seqn hb hb', hq'⟩
  | ext id => exact ⟨_, l1, .seqx hb (by simp), hq⟩
  | ret => exact ⟨_, l1, .seqx hb (by simp), hq⟩
theorem w_cond (h : Code.isCond c = true) {b : Bool} (hc : l.toS.ev (Code.on c) = .lit (.bool b)) (h1 : b = true → W P H Y fid (Code.fst c) l K) (h2 : b = false → W P H Y fid (Code.snd c) l K) : W P H Y fid c l K := by
  cases c <;> simp [Code.isCond] at h
  cases b with
  | true => obtain ⟨x, l1, hb, hq⟩ := h1 rfl; exact ⟨x, l1, .condt hc hb, hq⟩
  | false => obtain ⟨x, l1, hb, hq⟩ := h2 rfl; exact ⟨x, l1, .condf hc hb, hq⟩
theorem w_block (h : Code.isBlock c = true) (hw : W P H Y fid (Code.fst c) l fun x l1 => match x with | .nor => K .nor l1 | .ext i => if i = Code.id c then K .nor l1 else K (.ext i) l1 | .ret => K .ret l1) : W P H Y fid c l K := by
  cases c <;> simp [Code.isBlock] at h
  rename_i id a
  obtain ⟨x, l1, hb, hq⟩ := hw
  cases x with
  | nor => exact ⟨_, l1, .blockn hb, hq⟩
  | ext i =>
    have hq : (if i = id then K .nor l1 else K (.ext i) l1) := hq
    by_cases e : i = id
    · subst e; rw [if_pos rfl] at hq; exact ⟨_, l1, .blocke hb, hq⟩
    · rw [if_neg e] at hq; exact ⟨_, l1, .blockx hb (by simp) (by simpa using e), hq⟩
  | ret => exact ⟨_, l1, .blockx hb (by simp) (by simp), hq⟩
theorem w_skip (h : c = .skip) (hk : K .nor l) : W P H Y fid c l K := by subst h; exact ⟨_, l, .skipc, hk⟩
theorem w_exit {i : Nat} (h : c = .exit i) (hk : K (.ext i) l) : W P H Y fid c l K := by subst h; exact ⟨_, l, .exit, hk⟩
theorem w_ret (h : c = .ret) (hk : K .ret l) : W P H Y fid c l K := by subst h; exact ⟨_, l, .ret, hk⟩

/-- A loop, by what holds at its head: 'I' bears a number that falls. -/
theorem w_loop (h : Code.isLoop c = true) (I : Nat → L → Prop) (hI : ∀ n l, I n l → W P H Y fid (Code.fst c) l fun x l1 => match x with | .nor => ∃ m, m < n ∧ I m l1 | x => K x l1) : ∀ n l, I n l → W P H Y fid c l K := by
  cases c <;> simp [Code.isLoop] at h
  rename_i a
  intro n
  induction n using Nat.strongRecOn with
  | ind n ih =>
    intro l hl
    obtain ⟨x, l1, hb, hq⟩ := hI n l hl
    cases x with
    | nor =>
      obtain ⟨m, hm, hi⟩ := hq
      obtain ⟨x', l2, hb', hq'⟩ := ih m hm l1 hi
      exact ⟨x', l2, .loopn hb hb', hq'⟩
    | ext id => exact ⟨_, l1, .loopx hb (by simp), hq⟩
    | ret => exact ⟨_, l1, .loopx hb (by simp), hq⟩

/-- Less is told: slot by slot, box by box. -/
def lessT (l : L) : List (Nat × AV) → Prop
  | [] => True
  | (i, v) :: r => WkV (l.get i) v ∧ lessT l r
def lessB (l : L) : List (Nat × Box) → Prop
  | [] => True
  | (i, y) :: r => (∃ x, lookup i l.bs = some x ∧ WkB x y) ∧ lessB l r
theorem less_ok {l u : L} (h1 : lessT l u.ts) (h2 : lessB l u.bs) : WkS l.toS u.toS := by
  refine ⟨fun i => ?_, fun b y hb => ?_⟩
  · have : ∀ ts : List (Nat × AV), lessT l ts → WkV (l.get i) (match lookup i ts with | some v => v | none => .bad) := by
      intro ts
      induction ts with
      | nil => intro _; exact .inl (.inl (.inr (.inl rfl)))
      | cons q ts ih =>
        obtain ⟨k, v⟩ := q
        intro h
        simp only [lookup]
        by_cases e : k = i
        · subst e; rw [if_pos rfl]; exact h.1
        · rw [if_neg e]; exact ih h.2
    exact this u.ts h1
  · have : ∀ bs : List (Nat × Box), lessB l bs → lookup b bs = some y → ∃ x, lookup b l.bs = some x ∧ WkB x y := by
      intro bs
      induction bs with
      | nil => intro _ h; cases h
      | cons q bs ih =>
        obtain ⟨k, v⟩ := q
        intro h hl
        simp only [lookup] at hl
        by_cases e : k = b
        · subst e; rw [if_pos rfl] at hl; cases hl; exact h.1
        · rw [if_neg e] at hl; exact ih h.2 hl
    exact this u.bs h2 hb
theorem w_less (u : L) (h1 : lessT l u.ts) (h2 : lessB l u.bs) (hw : W P H Y fid c u K) : W P H Y fid c l K := by
  obtain ⟨x, l1, hb, hq⟩ := hw
  exact ⟨x, l1, .wks (less_ok h1 h2) hb, hq⟩

/-- What l tells of u's slots and boxes. -/
def look (u l : L) : List AV × List (Option Box) := (u.ts.map fun q => l.get q.1, u.bs.map fun q => lookup q.1 l.bs)
def seen (u : L) : List AV × List (Option Box) := (u.ts.map (·.2), u.bs.map fun q => some q.2)
theorem wkCs_refl : ∀ l : List AV, WkCs l l
  | [] => trivial
  | _ :: xs => ⟨.inl rfl, wkCs_refl xs⟩
theorem look_less {u l : L} (h : look u l = seen u) : WkS l.toS u.toS := by
  simp only [look, seen, Prod.mk.injEq] at h
  refine less_ok ?_ ?_
  · have : ∀ ts : List (Nat × AV), (ts.map fun q => l.get q.1) = ts.map (·.2) → lessT l ts := by
      intro ts
      induction ts with
      | nil => intro _; trivial
      | cons q ts ih =>
        intro h
        simp only [List.map_cons, List.cons.injEq] at h
        exact ⟨.inl (.inl (.inl h.1.symm)), ih h.2⟩
    exact this _ h.1
  · have : ∀ bs : List (Nat × Box), (bs.map fun q => lookup q.1 l.bs) = bs.map (fun q => some q.2) → lessB l bs := by
      intro bs
      induction bs with
      | nil => intro _; trivial
      | cons q bs ih =>
        intro h
        simp only [List.map_cons, List.cons.injEq] at h
        exact ⟨⟨q.2, h.1, rfl, rfl, wkCs_refl _⟩, ih h.2⟩
    exact this _ h.2
theorem w_look (u : L) (h : look u l = seen u) (hw : W P H Y fid c u K) : W P H Y fid c l K := by
  obtain ⟨x, l1, hb, hq⟩ := hw
  exact ⟨x, l1, .wks (look_less h) hb, hq⟩

/-- A region that needs nothing to be shown. -/
theorem w_reg (u : L) (h1 : Code.isRegion false c = true) (h2 : (stepsL P H fid (Code.opsOf c) (List.range (Code.opsOf c).size) l).map (look u) = some (seen u)) (hk : K .nor u) : W P H Y fid c l K := by
  cases c <;> simp [Code.isRegion] at h1
  subst h1
  obtain ⟨l1, hs, hl⟩ := Option.map_eq_some_iff.1 h2
  obtain ⟨l2, lg, hb, rfl, -⟩ := wo_seg (P := P) (H := H) (Y := Y) (is2 := []) (Q := fun l' _ => l' = l1 ∧ True) hs (wo_nil ⟨rfl, trivial⟩)
  rw [List.append_nil] at hb
  exact ⟨.nor, u, .wke (.region hb) (look_less hl), hk⟩
theorem w_regd (u : L) (h1 : Code.isRegion true c = true) (h2 : (stepsL P H fid (Code.opsOf c) (List.range (Code.opsOf c).size) l).map (look u) = some (seen u)) (h3 : drawOk (Code.opsOf c) (logL P H fid (Code.opsOf c) (List.range (Code.opsOf c).size) l) = true) (hk : K .nor u) : W P H Y fid c l K := by
  cases c <;> simp [Code.isRegion] at h1
  subst h1
  obtain ⟨l1, hs, hl⟩ := Option.map_eq_some_iff.1 h2
  obtain ⟨l2, lg, hb, rfl, hlg⟩ := wo_seg (P := P) (H := H) (Y := Y) (is2 := []) (Q := fun l' lg => l' = l1 ∧ lg = logL P H fid _ _ l) hs (wo_nil ⟨rfl, by rw [List.append_nil]⟩)
  rw [List.append_nil] at hb
  subst hlg
  exact ⟨.nor, u, .wke (.draw hb h3) (look_less hl), hk⟩

/-- The state after operations that need nothing to be shown. -/
def segL (P : Program) (H : Hints) (fid : FuncId) (ops : Array Oper) (is : List Nat) (l : L) : L := (stepsL P H fid ops is l).getD ⟨[], []⟩
theorem wo_run (is1 is2 is : List Nat) (h0 : is = is1 ++ is2) (h1 : (stepsL P H fid ops is1 l).isSome = true) (h2 : WO P H Y fid ops is2 (segL P H fid ops is1 l) fun l' lg => Q l' (logL P H fid ops is1 l ++ lg)) : WO P H Y fid ops is l Q := by
  subst h0
  obtain ⟨l1, hl⟩ := Option.isSome_iff_exists.1 h1
  refine wo_seg hl ?_
  simpa [segL, hl] using h2

def bodyOf (fn : Func) : Code := match fn.body with | some c => c | none => .skip

/-- A call, by its body. -/
theorem call_of {f : FuncId} {fn : Func} {args : List AV} {bx : Nat → Option Box} {r : AV} (bs : List (Nat × Box)) (hbx : ∀ b, bx b = lookup b bs) (h1 : P.funcs[f]? = some fn) (h2 : fn.body = some c) (h3 : (fn.name == "runtime.NumGoroutine") = false) (h4 : args.length = fn.params.size + fn.nfree) (h5 : args.length ≤ fn.ntmps) (h6 : codeOk fn.ntmps c = true) (ts : List (Nat × AV)) (hts : ts = args.zipIdx.map fun q => (q.2, q.1))
    {bx' : Nat → Option Box} (hw : W P H Y f c ⟨ts, bs⟩ fun x l' => (x = .nor ∨ x = .ret) ∧ resOf P l'.toS fn.results.toList = some r ∧ exitOk bx l'.toS ∧ exitB bx l'.toS = bx') : Big P H Y (.call f args bx r bx') := by
  obtain ⟨x, l', hb, hx, hr, he, hbe⟩ := hw
  subst hbe
  have e : (⟨ts, bs⟩ : L).toS = S0 args bx := by
    apply S.ext'
    · intro i
      simp only [L.toS, L.get, S0, hts]
      have : ∀ (as : List AV) (k : Nat), lookup i ((as.zipIdx k).map fun q => (q.2, q.1)) = if k ≤ i then as[i - k]? else none := by
        intro as
        induction as with
        | nil => intro k; simp [lookup]
        | cons a as ih =>
          intro k
          simp only [List.zipIdx_cons, List.map_cons, lookup, ih]
          by_cases e1 : k = i
          · subst e1; simp
          · rw [if_neg e1]
            by_cases e2 : k ≤ i
            · have : i - k = (i - (k + 1)) + 1 := by omega
              rw [if_pos e2, if_pos (by omega), this]; simp
            · rw [if_neg e2, if_neg (by omega)]
      have := this args 0
      simp only [Nat.zero_le, if_true, Nat.sub_zero] at this
      rw [this]
      cases args[i]? <;> rfl
    · intro i; simp only [L.toS, S0]; rw [hbx]
  rw [e] at hb
  exact .body h1 h2 h3 h4 h5 h6 hb hx hr he
end Evl
