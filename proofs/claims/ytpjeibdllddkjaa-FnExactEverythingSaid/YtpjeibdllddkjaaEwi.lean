/- Walking: calls, loops, what is computed. No condition. -/
import Derived.Test.YtpjeibdllddkjaaEwh
namespace Evl
open Go

variable {P : Program} {H : Hints} {Y : FuncId → List AV → (Nat → Option Box) → AV → (Nat → Option Box) → Prop} {fid : FuncId} {k : List Todo} {c : Code} {l : L} {Q : X → L → Prop} {ops : Array Oper} {is : List Nat} {QO : L → List LogE → Prop}

theorem k_looklp (u : L) (h : look u l = seen u) (hw : WK P H Y fid (.lp c :: k) Q .nor u) : WK P H Y fid (.lp c :: k) Q .nor l := w_look u h hw
theorem k_regs (h : Code.isRegion false c = true) (hw : WO P H Y fid (Code.opsOf c) (List.range (Code.opsOf c).size) l fun l' _ => ∃ u, look u l' = seen u ∧ WK P H Y fid k Q .nor u) : WK P H Y fid (.code c :: k) Q .nor l := by
  cases c <;> simp [Code.isRegion] at h
  subst h
  obtain ⟨l', lg, hb, u, hl, hq⟩ := hw
  exact ⟨.nor, u, .wke (.region hb) (look_less hl), hq⟩
theorem k_regsd (h : Code.isRegion true c = true) (hw : WO P H Y fid (Code.opsOf c) (List.range (Code.opsOf c).size) l fun l' lg => drawOk (Code.opsOf c) lg = true ∧ ∃ u, look u l' = seen u ∧ WK P H Y fid k Q .nor u) : WK P H Y fid (.code c :: k) Q .nor l := by
  cases c <;> simp [Code.isRegion] at h
  subst h
  obtain ⟨l', lg, hb, hd, u, hl, hq⟩ := hw
  exact ⟨.nor, u, .wke (.draw hb hd) (look_less hl), hq⟩

/-- A call, when its result is r: the callee, its arguments, the effect. -/
def callAt (H : Hints) (ops : Array Oper) (i : Nat) (l : L) (r : AV) : Option ((FuncId × List AV) × Eff) :=
  match ops[i]? with
  | some o => match gd ops o l.toS, calleeOf o l.toS with
    | some true, some (f, xs, caps) => match roCaps l.toS.b caps, prep H f l.toS 0 xs with
      | some caps', some ⟨as, set, kl, tmp, []⟩ => match callE o.dst ⟨as, set, kl, leans l.toS.b (.fnv f caps) ++ tmp, []⟩ r nob with
        | some e => if e.kl.all (· < 1000) then some ((f, as ++ caps'), e) else none
        | none => none
      | _, _ => none
    | _, _ => none
  | none => none
def effOf (x : Option ((FuncId × List AV) × Eff)) : Eff := match x with | some (_, e) => e | none => skipE
def dstAt (ops : Array Oper) (i : Nat) : Option Nat := match ops[i]? with | some o => o.dst | none => none
def logAt (ops : Array Oper) (i : Nat) (l : L) (e : Eff) : List LogE := match ops[i]? with | some o => [mkLog ops i o l.toS e] | none => []
theorem wo_callAt {i : Nat} {f : FuncId} {args : List AV} (r : AV) (hc : Big P H Y (.call f args nob r nob)) (h1 : (callAt H ops i l r).map (·.1) = some (f, args))
    (h2 : WO P H Y fid ops is (applyL (effOf (callAt H ops i l r)) (dstAt ops i) l) fun l' lg => QO l' (logAt ops i l (effOf (callAt H ops i l r)) ++ lg)) : WO P H Y fid ops (i :: is) l QO := by
  obtain ⟨⟨q, e⟩, hq, he⟩ := Option.map_eq_some_iff.1 h1
  simp only at he; subst he
  rw [hq] at h2
  simp only [effOf] at h2
  have hq0 := hq
  unfold callAt at hq
  split at hq
  · rename_i o ho
    split at hq
    · rename_i f' xs caps hg hcal
      split at hq
      · rename_i caps' as set kl tmp hroc hp
        split at hq
        · rename_i e' he
          simp only [Option.ite_none_right_eq_some, Option.some.injEq, Prod.mk.injEq] at hq
          obtain ⟨hk, ⟨rfl, rfl⟩, rfl⟩ := hq
          refine wo_call ho hg hcal hroc hp (.inr rfl) (r := r) (bx' := nob) hc he hk rfl ?_
          simpa [dstAt, logAt, ho] using h2
        · cases hq
      · cases hq
    · cases hq
  · cases hq

/-- An operation of which it is shown what it does. -/
theorem wo_opAt {i : Nat} {e : Eff} (ho : i < ops.size) (hg : gd ops (ops[i]) l.toS = some true) (he : opE P H fid (ops[i]) l.toS = some e) (hk : e.kl.all (· < 1000) = true)
    (h2 : WO P H Y fid ops is (applyL e (dstAt ops i) l) fun l' lg => QO l' (logAt ops i l e ++ lg)) : WO P H Y fid ops (i :: is) l QO := by
  have h : ops[i]? = some ops[i] := by simp [ho]
  refine wo_one h hg he hk rfl ?_
  simpa [dstAt, logAt, h] using h2

/-- A state, written anew: slots and boxes below N, in order. -/
def known : AV → Option AV
  | .bad => none
  | v => some v
def normL (N : Nat) (l : L) : L := ⟨(List.range N).filterMap fun i => (known (l.get i)).map fun v => (i, v), (List.range N).filterMap fun b => (lookup b l.bs).map fun x => (b, x)⟩
def below (N : Nat) (l : L) : Bool := (l.ts.all fun q => decide (q.1 < N)) && l.bs.all fun q => decide (q.1 < N)
theorem lookup_fm {α : Type} (f : Nat → Option α) (i : Nat) : ∀ ns : List Nat, lookup i (ns.filterMap fun j => (f j).map fun v => (j, v)) = if i ∈ ns then f i else none := by
  intro ns
  induction ns with
  | nil => rfl
  | cons j ns ih =>
    rw [List.filterMap_cons]
    cases hf : f j with
    | none =>
      simp only [Option.map_none]
      rw [ih]
      by_cases e : i = j
      · subst e; simp [hf]
      · simp [e]
    | some v =>
      simp only [Option.map_some, lookup]
      by_cases e : j = i
      · subst e; simp [hf]
      · rw [if_neg e, ih]
        have : ¬ i = j := fun h => e h.symm
        simp [this]
theorem normL_toS {N : Nat} {l : L} (h : below N l = true) : (normL N l).toS = l.toS := by
  simp only [below, Bool.and_eq_true, List.all_eq_true, decide_eq_true_eq] at h
  apply S.ext'
  · intro i
    show (normL N l).get i = l.get i
    unfold L.get normL
    simp only
    rw [show (fun i => Option.map (fun v => (i, v)) (known (L.get l i))) = fun j => ((fun j => known (l.get j)) j).map fun v => (j, v) from rfl, lookup_fm (fun i => known (l.get i))]
    by_cases hi : i < N
    · simp only [List.mem_range, hi, if_true]
      unfold L.get
      cases lookup i l.ts with
      | none => rfl
      | some v => cases v <;> rfl
    · simp only [List.mem_range, hi, if_false]
      have : lookup i l.ts = none := lookup_none.2 fun hm => by
        obtain ⟨q, hq, e⟩ := List.mem_map.1 hm
        have := h.1 q hq; omega
      rw [this]
  · intro b
    simp only [L.toS, normL]
    rw [lookup_fm (fun b => lookup b l.bs)]
    by_cases hb : b < N
    · simp [hb]
    · simp only [List.mem_range, hb, if_false]
      exact (lookup_none.2 fun hm => by
        obtain ⟨q, hq, e⟩ := List.mem_map.1 hm
        have := h.2 q hq; omega).symm
theorem wo_norm (N : Nat) (u : L) (h1 : below N l = true) (h2 : normL N l = u) (hw : WO P H Y fid ops is u QO) : WO P H Y fid ops is l QO := by
  subst h2
  unfold WO at hw ⊢
  rw [normL_toS h1] at hw; exact hw

/-- A loop by fuel. -/
def loopN {α β : Type} (F : (α → Option β) → α → Option β) : Nat → α → Option β
  | 0, _ => none
  | n + 1, a => F (loopN F n) a
theorem loopN_ind {α β : Type} {F : (α → Option β) → α → Option β} {C : α → β → Prop} (h : ∀ rec : α → Option β, (∀ a r, rec a = some r → C a r) → ∀ a r, F rec a = some r → C a r) : ∀ n a r, loopN F n a = some r → C a r := by
  intro n
  induction n with
  | zero => intro a r h; cases h
  | succ n ih => intro a r hh; exact h _ ih a r hh

theorem bind_some {α β : Type} {x : Option α} {f : α → Option β} {r : β} (h : x.bind f = some r) : ∃ v, x = some v ∧ f v = some r := Option.bind_eq_some_iff.1 h
/-- A check. -/
def chk {α : Type} (b : Bool) (x : Option α) : Option α := if b then x else none
theorem chk_some {α : Type} {b : Bool} {x : Option α} {r : α} (h : chk b x = some r) : b = true ∧ x = some r := by
  unfold chk at h
  split at h
  · exact ⟨by assumption, h⟩
  · cases h
/-- A fork. -/
def frk {α : Type} (b : Bool) (x y : Option α) : Option α := if b then x else y
theorem frk_true {α : Type} {b : Bool} {x y z : Option α} (hb : b = true) (h : frk b x y = z) : x = z := by rw [hb] at h; exact h
theorem frk_false {α : Type} {b : Bool} {x y z : Option α} (hb : b = false) (h : frk b x y = z) : y = z := by rw [hb] at h; exact h

theorem frk_cases {α : Type} {x : Bool} {A B : Option α} {r : α} (h : frk x A B = some r) (C : Bool → Prop) (ht : x = true → A = some r → C true) (hf : x = false → B = some r → C false) : C x := by
  cases x with
  | true => exact ht rfl h
  | false => exact hf rfl h

theorem eq_to {a b : Int} (h : (a == b) = true) (C : Int → Prop) (hc : C b) : C a := by
  have : a = b := by simpa using h
  rw [this]; exact hc

abbrev i64 (n : Int) : AV := .lit (.int .i64 n)
abbrev bl (b : Bool) : AV := .lit (.bool b)
abbrev w64 (n : Int) : Int := IntKind.i64.wrap n
end Evl
