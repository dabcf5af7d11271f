/- An executor: it walks until something is to be shown. No condition. -/
import Derived.Test.YtpjeibdllddkjaaExb
namespace Evl
open Go

variable {P : Program} {H : Hints} {Y : FuncId → List AV → (Nat → Option Box) → AV → (Nat → Option Box) → Prop} {fid : FuncId}

def setT (l : L) (t : Nat) (v : AV) : L := ⟨(t, v) :: l.ts, l.bs⟩
def setB (l : L) (b : Nat) (x : Box) : L := ⟨l.ts, (b, x) :: l.bs⟩
theorem setT_eq {l : L} {t : Nat} {v : AV} (h : l.get t = v) : (setT l t v).toS = l.toS := by
  apply S.ext'
  · intro i
    simp only [L.toS, L.get, setT, lookup]
    by_cases e : t = i
    · subst e; rw [if_pos rfl]; exact h.symm
    · rw [if_neg e]
  · intro i; rfl
theorem setB_eq {l : L} {b : Nat} {x : Box} (h : lookup b l.bs = some x) : (setB l b x).toS = l.toS := by
  apply S.ext'
  · intro i; rfl
  · intro i
    simp only [L.toS, setB, lookup]
    by_cases e : b = i
    · subst e; rw [if_pos rfl]; exact h.symm
    · rw [if_neg e]

/-! nils that are told as rows without elements -/
def wkC : List (Bool × Nat) → AV → AV × List (Bool × Nat)
  | (o, z) :: m, .nil => (.sl o z 0 [], m)
  | m, x => (x, m)
def wkCs : List (Bool × Nat) → List AV → List AV × List (Bool × Nat)
  | m, [] => ([], m)
  | m, x :: xs => ((wkC m x).1 :: (wkCs (wkC m x).2 xs).1, (wkCs (wkC m x).2 xs).2)
def wkU : List (Bool × Nat) → AV → AV × List (Bool × Nat)
  | [], x => (x, [])
  | m, .agg cs => (.agg (wkCs m cs).1, (wkCs m cs).2)
  | m, x => wkC m x
def wkT : List (Bool × Nat) → List AV → List AV × List (Bool × Nat)
  | m, [] => ([], m)
  | m, x :: xs => ((wkU m x).1 :: (wkT (wkU m x).2 xs).1, (wkT (wkU m x).2 xs).2)
def wkV : List (Bool × Nat) → AV → AV
  | [], x => x
  | m, .tup cs => .tup (wkT m cs).1
  | m, x => (wkU m x).1
theorem wkC_ok (m : List (Bool × Nat)) (x : AV) : WkC x (wkC m x).1 := by
  unfold wkC
  split
  · exact .inr (.inr (.inr ⟨rfl, _, _, rfl⟩))
  · exact .inl rfl
theorem wkCs_ok : ∀ (xs : List AV) (m : List (Bool × Nat)), WkCs xs (wkCs m xs).1
  | [], _ => trivial
  | x :: xs, m => ⟨wkC_ok m x, wkCs_ok xs _⟩
theorem wkU_ok (m : List (Bool × Nat)) (x : AV) : WkU x (wkU m x).1 := by
  unfold wkU
  split
  · exact .inl (.inl rfl)
  · exact .inr ⟨_, _, rfl, rfl, wkCs_ok _ _⟩
  · exact .inl (wkC_ok _ _)
theorem wkT_ok : ∀ (xs : List AV) (m : List (Bool × Nat)), WkT xs (wkT m xs).1
  | [], _ => trivial
  | x :: xs, m => ⟨wkU_ok m x, wkT_ok xs _⟩
theorem wkV_ok (m : List (Bool × Nat)) (x : AV) : WkV x (wkV m x) := by
  unfold wkV
  split
  · exact .inl (.inl (.inl rfl))
  · exact .inr ⟨_, _, rfl, rfl, wkT_ok _ _⟩
  · exact .inl (wkU_ok _ _)

/-! calls -/
def lk (bs : List (Nat × Box)) : Nat → Option Box := fun b => lookup b bs
def mtsB (s : S) : List (Nat × Nat) → Option (List (Nat × Box))
  | [] => some []
  | (i, b) :: l => match s.b b, mtsB s l with
    | some x, some r => some ((1000 + i, x) :: r)
    | _, _ => none
theorem mtsB_ok {s : S} : ∀ {l r}, mtsB s l = some r → bxOf s l = lk r := by
  intro l
  induction l with
  | nil => intro r h; simp only [mtsB, Option.some.injEq] at h; subst h; rfl
  | cons q l ih =>
    obtain ⟨i, b⟩ := q
    intro r h
    simp only [mtsB] at h
    split at h
    · rename_i hb hr
      simp only [Option.some.injEq] at h
      subst h
      funext k
      simp only [bxOf, lk, lookup, hb, ih hr]
      by_cases e : k = 1000 + i
      · rw [if_pos e, if_pos e.symm]
      · rw [if_neg e, if_neg (fun h => e h.symm)]
    · cases h

mutual
def flat : AV → Bool
  | .lit _ => true
  | .nil => true
  | .agg cs => flatL cs
  | .tup cs => flatL cs
  | _ => false
def flatL : List AV → Bool
  | [] => true
  | x :: xs => flat x && flatL xs
end
mutual
theorem flat_ok : ∀ x : AV, flat x = true → hasSh x = false
  | .lit _, _ => rfl
  | .nil, _ => rfl
  | .agg cs, h => by simp only [hasSh]; exact flatL_ok cs h
  | .tup cs, h => by simp only [hasSh]; exact flatL_ok cs h
  | .sl _ _ _ _, h => by simp [flat] at h
  | .msl _ _, h => by simp [flat] at h
  | .ptr _ _, h => by simp [flat] at h
  | .cptr _, h => by simp [flat] at h
  | .nbx _, h => by simp [flat] at h
  | .fnv _ _, h => by simp [flat] at h
  | .bad, h => by simp [flat] at h
theorem flatL_ok : ∀ xs : List AV, flatL xs = true → hasShL xs = false
  | [], _ => rfl
  | x :: xs, h => by
    simp only [flatL, Bool.and_eq_true] at h
    simp only [hasShL, flat_ok x h.1, flatL_ok xs h.2, Bool.or_self]
end

def callEH (dst : Option Nat) (p : Prep) (r : AV) (bx' : Nat → Option Box) : Option (Eff × List Prop) :=
  match backs bx' p.mts with
  | none => none
  | some pb =>
    if (pb.all fun q => cleanL q.2.cs) = false then none else
    let os : List Prop := if p.tmp.isEmpty then [] else (if flat r then [] else [hasSh r = false]) ++ (if pb.all fun q => flatL q.2.cs then [] else [(pb.any fun q => hasShL q.2.cs) = false])
    let rd := p.tmp ++ p.kl ++ p.mts.map (·.2)
    match r, dst with
    | .sl true sz n cs, some d =>
      if sz ≠ 0 ∧ d ∉ pb.map (·.1) then some ({ val := .msl d n, set := p.set, kl := d :: p.kl, put := (d, ⟨false, sz, cs⟩) :: pb, rd := rd }, os) else none
    | .nbx cs, some d => if d ∉ pb.map (·.1) then some ({ val := .ptr d 0, set := p.set, kl := d :: p.kl, put := (d, ⟨true, 0, cs⟩) :: pb, rd := rd }, os) else none
    | .bad, _ => none
    | v, _ => some ({ val := v, set := p.set, kl := p.kl, put := pb, rd := rd }, os)
theorem callEH_ok {dst : Option Nat} {p : Prep} {r : AV} {bx' : Nat → Option Box} {e : Eff} {os : List Prop} (h : callEH dst p r bx' = some (e, os)) (hp : All os) : callE dst p r bx' = some e := by
  unfold callEH at h
  unfold callE
  split at h
  · cases h
  · rename_i pb hb
    simp only [Option.ite_none_left_eq_some] at h
    obtain ⟨hc, h⟩ := h
    have key : ∀ os : List Prop, os = (if p.tmp.isEmpty then [] else (if flat r then [] else [hasSh r = false]) ++ (if pb.all fun q => flatL q.2.cs then [] else [(pb.any fun q => hasShL q.2.cs) = false])) → All os →
        ¬((p.tmp ≠ [] ∧ (hasSh r || pb.any fun q => hasShL q.2.cs) = true) ∨ (pb.all fun q => cleanL q.2.cs) = false) := by
      intro os ho hos
      rintro (⟨h1, h2⟩ | h2)
      · have : p.tmp.isEmpty = false := by simpa using h1
        rw [this] at ho
        subst ho
        simp only [Bool.false_eq_true, if_false] at hos
        rw [all_app] at hos
        have e1 : hasSh r = false := by
          by_cases e : flat r = true
          · exact flat_ok r e
          · have := hos.1; rw [if_neg e] at this; exact this.1
        have e2 : (pb.any fun q => hasShL q.2.cs) = false := by
          by_cases e : (pb.all fun q => flatL q.2.cs) = true
          · rw [List.any_eq_false]
            intro q hq
            have := flatL_ok _ (List.all_eq_true.1 e q hq)
            simp [this]
          · have := hos.2; rw [if_neg e] at this; exact this.1
        rw [e1, e2] at h2; cases h2
      · exact hc h2
    simp only [hb]
    split at h
    · simp only [Option.ite_none_right_eq_some, Option.some.injEq, Prod.mk.injEq] at h
      obtain ⟨h1, rfl, rfl⟩ := h
      rw [if_neg (key _ rfl hp)]
      simp only []
      rw [if_pos h1]
    · simp only [Option.ite_none_right_eq_some, Option.some.injEq, Prod.mk.injEq] at h
      obtain ⟨h1, rfl, rfl⟩ := h
      rw [if_neg (key _ rfl hp)]
      simp only []
      rw [if_pos h1]
    · cases h
    · rename_i hn1 hn2 hn3
      simp only [Option.some.injEq, Prod.mk.injEq] at h
      obtain ⟨rfl, rfl⟩ := h
      rw [if_neg (key _ rfl hp)]
      split <;> first | rfl | exact (hn1 _ _ _ _ rfl rfl).elim | exact (hn2 _ _ _ _ rfl rfl).elim | exact (hn1 _ _ rfl rfl).elim | exact (hn2 _ _ rfl rfl).elim | exact (hn3 _ _ rfl rfl).elim | exact (hn2 rfl).elim | exact (hn3 rfl).elim | (exfalso; simp_all)

/-- A call: what it does, and what it takes. 'm': nils among the arguments; 'ns': what lent rows come to; 'r', 'bs': what comes back. -/
def callX (P : Program) (H : Hints) (Y : FuncId → List AV → (Nat → Option Box) → AV → (Nat → Option Box) → Prop) (o : Oper) (l : L) (m : List (Bool × Nat)) (ns : List (List AV)) (r : AV) (bs : List (Nat × Box)) : Option (Eff × List Prop) :=
  match calleeOf o l.toS with
  | some (f, xs, caps) => match prepH H f l.toS ns 0 xs with
    | some (p, ns, ps) => match roCapsH l.toS.b ns caps, mtsB l.toS p.mts with
      | some (caps', _, qs), some bx => if caps.isEmpty || p.mts.isEmpty then
          (match callEH o.dst { p with tmp := leans l.toS.b (.fnv f caps) ++ p.tmp } r (lk bs) with
          | some (e, os) => some (e, Big P H Y (.call f (wkT m (p.args ++ caps')).1 (lk bx) r (lk bs)) :: (ps ++ (qs ++ os)))
          | none => none)
        else none
      | _, _ => none
    | none => none
  | none => none

/-- One operation. -/
def opX (P : Program) (H : Hints) (Y : FuncId → List AV → (Nat → Option Box) → AV → (Nat → Option Box) → Prop) (fid : FuncId) (ops : Array Oper) (i : Nat) (l : L) (w : Option Or) : Option (L × LogE × List Prop) :=
  match ops[i]? with
  | some o => match gd ops o l.toS with
    | some true =>
      match (match w with
        | some (.call m ns r bs) => callX P H Y o l m ns r bs
        | w => opH P H fid o l.toS w) with
      | some (e, ps) => if e.kl.all (· < 1000) then some (applyL e o.dst l, mkLog ops i o l.toS e, ps) else none
      | none => none
    | some false => some (applyL skipE o.dst l, mkLog ops i o l.toS skipE, [])
    | none => none
  | none => none

variable {ops : Array Oper} {is : List Nat} {l : L} {Q : L → List LogE → Prop}
theorem opX_ok {i : Nat} {w : Option Or} {l' : L} {e : LogE} {ps : List Prop} (h : opX P H Y fid ops i l w = some (l', e, ps)) (hp : All ps)
    (h2 : WO P H Y fid ops is l' fun l'' lg => Q l'' (e :: lg)) : WO P H Y fid ops (i :: is) l Q := by
  unfold opX at h
  split at h
  · rename_i o ho
    split at h
    · rename_i hg
      split at h
      · rename_i e' ps' he
        simp only [Option.ite_none_right_eq_some, Option.some.injEq, Prod.mk.injEq] at h
        obtain ⟨hk, rfl, rfl, rfl⟩ := h
        split at he
        · unfold callX at he
          split at he
          · rename_i f xs caps hcal
            split at he
            · rename_i p ns' qs hpr
              split at he
              · rename_i caps' ns'' qs' bx hro hmb
                split at he
                · rename_i hcm
                  split at he
                  · rename_i e2 os hce
                    simp only [Option.some.injEq, Prod.mk.injEq] at he
                    obtain ⟨rfl, rfl⟩ := he
                    obtain ⟨hbig, hrest⟩ := hp
                    rw [all_app, all_app] at hrest
                    obtain ⟨h3, h4, h5⟩ := hrest
                    refine wo_call ho hg hcal (roCapsH_ok hro h4) (prepH_ok hpr h3) (by simpa using hcm) ?_ (callEH_ok hce h5) hk rfl h2
                    rw [mtsB_ok hmb]
                    exact .wka (wkT_ok _ _) hbig
                  · cases he
                · cases he
              · cases he
            · cases he
          · cases he
        · exact wo_one ho hg (opH_ok he hp) hk rfl h2
      · cases h
    · rename_i hg
      simp only [Option.some.injEq, Prod.mk.injEq] at h
      obtain ⟨rfl, rfl, rfl⟩ := h
      exact wo_skip ho hg rfl h2
    · cases h
  · cases h

/-! what is still to be done -/
inductive Td where
  | code (c : Code)
  | blk (i : Nat)
  | lp (c : Code)
  | ops (o : Array Oper) (is : List Nat)
  | opsd (o : Array Oper) (is : List Nat) (lg : List LogE)

def WX (P : Program) (H : Hints) (Y : FuncId → List AV → (Nat → Option Box) → AV → (Nat → Option Box) → Prop) (fid : FuncId) : List Td → (X → L → Prop) → X → L → Prop
  | [], Q => Q
  | .code c :: k, Q => fun x l => match x with
    | .nor => W P H Y fid c l (WX P H Y fid k Q)
    | x => WX P H Y fid k Q x l
  | .lp c :: k, Q => fun x l => match x with
    | .nor => W P H Y fid c l (WX P H Y fid k Q)
    | x => WX P H Y fid k Q x l
  | .blk i :: k, Q => fun x l => match x with
    | .nor => WX P H Y fid k Q .nor l
    | .ext j => if j = i then WX P H Y fid k Q .nor l else WX P H Y fid k Q (.ext j) l
    | .ret => WX P H Y fid k Q .ret l
  | .ops o is :: k, Q => fun x l => match x with
    | .nor => WO P H Y fid o is l fun l' _ => WX P H Y fid k Q .nor l'
    | x => WX P H Y fid k Q x l
  | .opsd o is lg :: k, Q => fun x l => match x with
    | .nor => WO P H Y fid o is l fun l' lg' => drawOk o (lg ++ lg') = true ∧ WX P H Y fid k Q .nor l'
    | x => WX P H Y fid k Q x l

def exitX (i : Nat) : List Td → Option (List Td)
  | [] => none
  | .blk j :: k => if i = j then some k else exitX i k
  | _ :: k => exitX i k

end Evl
