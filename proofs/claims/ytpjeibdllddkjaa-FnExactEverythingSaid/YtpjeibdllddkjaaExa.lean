/- Operations whose conditions are handed on as obligations. No condition. -/
import Derived.Test.YtpjeibdllddkjaaEwi
namespace Evl
open Go

variable {P : Program} {H : Hints} {fid : FuncId}

def All : List Prop → Prop
  | [] => True
  | p :: ps => p ∧ All ps
theorem onil : All [] := trivial
theorem ocons {p : Prop} {ps : List Prop} (h : p) (hs : All ps) : All (p :: ps) := ⟨h, hs⟩
theorem all_app {ps qs : List Prop} : All (ps ++ qs) ↔ All ps ∧ All qs := by
  induction ps with
  | nil => simp [All]
  | cons p ps ih => simp [All, ih, and_assoc]

/-- Cells that are looked at; 'ns': what the rows in them come to. -/
def shareH : List (List AV) → List AV → Option (List AV × List (List AV) × List Prop)
  | ns, [] => some ([], ns, [])
  | ns, .sl true sz n ds :: cs =>
    match ns with
    | ys :: ns => match shareH ns cs with
      | some (cs', ns', ps) => some (.sl false sz n ys :: cs', ns', (shareL ds = ys) :: ps)
      | none => none
    | [] => match shareH [] cs with
      | some (cs', ns', ps) => some (.sl false sz n (shareL ds) :: cs', ns', ps)
      | none => none
  | ns, c :: cs => match shareH ns cs with
    | some (cs', ns', ps) => some (share c :: cs', ns', ps)
    | none => none
theorem shareH_ok : ∀ {cs ns ys ns' ps}, shareH ns cs = some (ys, ns', ps) → All ps → shareL cs = ys := by
  intro cs
  induction cs with
  | nil => intro ns ys ns' ps h _; simp only [shareH, Option.some.injEq, Prod.mk.injEq] at h; rw [← h.1]; rfl
  | cons c cs ih =>
    intro ns ys ns' ps h hp
    unfold shareH at h
    split at h
    · cases ‹_ :: _ = []›
    · rename_i heq
      simp only [List.cons.injEq] at heq
      obtain ⟨rfl, rfl⟩ := heq
      split at h
      · split at h
        · rename_i hh
          simp only [Option.some.injEq, Prod.mk.injEq] at h
          obtain ⟨rfl, -, rfl⟩ := h
          simp only [shareL, share]
          rw [hp.1, ih hh hp.2]
        · cases h
      · split at h
        · rename_i hh
          simp only [Option.some.injEq, Prod.mk.injEq] at h
          obtain ⟨rfl, -, rfl⟩ := h
          simp only [shareL, share]
          rw [ih hh hp]
        · cases h
    · rename_i heq
      simp only [List.cons.injEq] at heq
      obtain ⟨rfl, rfl⟩ := heq
      split at h
      · rename_i hh
        simp only [Option.some.injEq, Prod.mk.injEq] at h
        obtain ⟨rfl, -, rfl⟩ := h
        simp only [shareL]
        rw [ih hh hp]
      · cases h

def freezeH (b : Nat → Option Box) : List AV → Option ((List AV × List Nat) × List Prop)
  | [] => some (([], []), [])
  | .msl r n :: cs =>
    match b r, freezeH b cs with
    | some x, some ((ys, ks), ps) => if x.sz ≠ 0 ∧ r ∉ ks then some ((.sl true x.sz n x.cs :: ys, r :: ks), (n * x.sz = x.cs.length) :: ps) else none
    | _, _ => none
  | .bad :: _ => none
  | c :: cs => match freezeH b cs with
    | some ((ys, ks), ps) => some ((c :: ys, ks), ps)
    | none => none
theorem freezeH_ok {b : Nat → Option Box} : ∀ {cs q ps}, freezeH b cs = some (q, ps) → All ps → freezeL b cs = some q := by
  intro cs
  induction cs with
  | nil => intro q ps h _; simp only [freezeH, Option.some.injEq, Prod.mk.injEq] at h; rw [← h.1]; rfl
  | cons c cs ih =>
    intro q ps h hp
    unfold freezeH at h
    split at h
    · cases ‹_ :: _ = []›
    · rename_i heq
      simp only [List.cons.injEq] at heq
      obtain ⟨rfl, rfl⟩ := heq
      split at h
      · rename_i hb hh
        simp only [Option.ite_none_right_eq_some, Option.some.injEq, Prod.mk.injEq] at h
        obtain ⟨⟨h1, h2⟩, rfl, rfl⟩ := h
        simp only [freezeL, hb, ih hh hp.2]
        rw [if_pos ⟨h1, hp.1, h2⟩]
      · cases h
    · cases h
    · rename_i hn1 hn2 heq
      simp only [List.cons.injEq] at heq
      obtain ⟨rfl, rfl⟩ := heq
      split at h
      · rename_i hh
        simp only [Option.some.injEq, Prod.mk.injEq] at h
        obtain ⟨rfl, rfl⟩ := h
        have := ih hh hp
        cases c <;> first | (simp [freezeL, this]; done) | (exact absurd rfl (hn1 _ _)) | (exact absurd rfl hn2)
      · cases h

def roCellH (b : Nat → Option Box) (ns : List (List AV)) : AV → Option (AV × List (List AV) × List Prop)
  | .lit v => some (.lit v, ns, [])
  | .nil => some (.nil, ns, [])
  | .sl false sz n cs => some (.sl false sz n cs, ns, [])
  | .sl true sz n cs => match ns with
    | ys :: ns => some (.sl false sz n ys, ns, [shareL cs = ys])
    | [] => some (.sl false sz n (shareL cs), [], [])
  | .msl r n => match b r, ns with
    | some x, ys :: ns => if x.sz ≠ 0 then some (.sl false x.sz n ys, ns, [n * x.sz = x.cs.length, shareL x.cs = ys]) else none
    | _, _ => none
  | _ => none
theorem roCellH_ok {b : Nat → Option Box} {ns c y ns' ps} (h : roCellH b ns c = some (y, ns', ps)) (hp : All ps) : roCell b c = some y := by
  unfold roCellH at h
  split at h <;> first | (simp only [Option.some.injEq, Prod.mk.injEq] at h; obtain ⟨rfl, -, -⟩ := h; rfl) | skip
  · split at h
    · simp only [Option.some.injEq, Prod.mk.injEq] at h
      obtain ⟨rfl, -, rfl⟩ := h
      simp only [roCell, share]; rw [hp.1]
    · simp only [Option.some.injEq, Prod.mk.injEq] at h
      obtain ⟨rfl, -, -⟩ := h; rfl
  · split at h
    · rename_i x _ _ hb
      simp only [Option.ite_none_right_eq_some, Option.some.injEq, Prod.mk.injEq] at h
      obtain ⟨h1, rfl, -, rfl⟩ := h
      simp only [roCell, hb]
      rw [if_pos ⟨h1, Nat.le_of_eq hp.1⟩]
      rw [List.take_of_length_le (Nat.le_of_eq hp.1.symm), hp.2.1]
    · cases h
  · cases h
def roCellsH (b : Nat → Option Box) : List (List AV) → List AV → Option (List AV × List (List AV) × List Prop)
  | ns, [] => some ([], ns, [])
  | ns, x :: xs => match roCellH b ns x with
    | some (y, ns, ps) => match roCellsH b ns xs with
      | some (ys, ns, qs) => some (y :: ys, ns, ps ++ qs)
      | none => none
    | none => none
theorem roCellsH_ok {b : Nat → Option Box} : ∀ {cs ns ys ns' ps}, roCellsH b ns cs = some (ys, ns', ps) → All ps → roCells b cs = some ys := by
  intro cs
  induction cs with
  | nil => intro ns ys ns' ps h _; simp only [roCellsH, Option.some.injEq, Prod.mk.injEq] at h; rw [← h.1]; rfl
  | cons c cs ih =>
    intro ns ys ns' ps h hp
    simp only [roCellsH] at h
    split at h
    · rename_i h1
      split at h
      · rename_i h2
        simp only [Option.some.injEq, Prod.mk.injEq] at h
        obtain ⟨rfl, -, rfl⟩ := h
        rw [all_app] at hp
        simp only [roCells, roCellH_ok h1 hp.1, ih h2 hp.2]
      · cases h
    · cases h
def roPtrH (b : Nat → Option Box) (ns : List (List AV)) : AV → Option (AV × List (List AV) × List Prop)
  | .ptr r off => match b r with
    | some x => if off < x.cs.length then (match roCellsH b ns (x.cs.drop off) with
      | some (ys, ns, ps) => some (.cptr ys, ns, ps)
      | none => none) else none
    | none => none
  | .cptr cs => some (.cptr cs, ns, [])
  | _ => none
theorem roPtrH_ok {b : Nat → Option Box} {ns c y ns' ps} (h : roPtrH b ns c = some (y, ns', ps)) (hp : All ps) : roPtr b c = some y := by
  unfold roPtrH at h
  split at h
  · split at h
    · rename_i hb
      split at h
      · rename_i hl
        split at h
        · rename_i hh
          simp only [Option.some.injEq, Prod.mk.injEq] at h
          obtain ⟨rfl, -, rfl⟩ := h
          simp only [roPtr, hb, if_pos hl, roCellsH_ok hh hp, Option.map_some]
        · cases h
      · cases h
    · cases h
  · simp only [Option.some.injEq, Prod.mk.injEq] at h
    obtain ⟨rfl, -, -⟩ := h; rfl
  · cases h
def roCapsH (b : Nat → Option Box) : List (List AV) → List AV → Option (List AV × List (List AV) × List Prop)
  | ns, [] => some ([], ns, [])
  | ns, x :: xs => match roPtrH b ns x with
    | some (y, ns, ps) => match roCapsH b ns xs with
      | some (ys, ns, qs) => some (y :: ys, ns, ps ++ qs)
      | none => none
    | none => none
theorem roCapsH_ok {b : Nat → Option Box} : ∀ {cs ns ys ns' ps}, roCapsH b ns cs = some (ys, ns', ps) → All ps → roCaps b cs = some ys := by
  intro cs
  induction cs with
  | nil => intro ns ys ns' ps h _; simp only [roCapsH, Option.some.injEq, Prod.mk.injEq] at h; rw [← h.1]; rfl
  | cons c cs ih =>
    intro ns ys ns' ps h hp
    simp only [roCapsH] at h
    split at h
    · rename_i h1
      split at h
      · rename_i h2
        simp only [Option.some.injEq, Prod.mk.injEq] at h
        obtain ⟨rfl, -, rfl⟩ := h
        rw [all_app] at hp
        simp only [roCaps, roPtrH_ok h1 hp.1, ih h2 hp.2]
      · cases h
    · cases h
def roH (b : Nat → Option Box) (ns : List (List AV)) : AV → Option (AV × List (List AV) × List Prop)
  | .agg cs => match roCellsH b ns cs with
    | some (ys, ns, ps) => some (.agg ys, ns, ps)
    | none => none
  | .ptr r off => roPtrH b ns (.ptr r off)
  | .cptr cs => some (.cptr cs, ns, [])
  | .fnv f cs => match roCapsH b ns cs with
    | some (ys, ns, ps) => some (.fnv f ys, ns, ps)
    | none => none
  | .lit v => some (.lit v, ns, [])
  | .nil => some (.nil, ns, [])
  | .sl o sz n cs => roCellH b ns (.sl o sz n cs)
  | .msl r n => roCellH b ns (.msl r n)
  | _ => none
theorem roH_ok {b : Nat → Option Box} {ns c y ns' ps} (h : roH b ns c = some (y, ns', ps)) (hp : All ps) : ro b c = some y := by
  unfold roH at h
  split at h
  · split at h
    · rename_i hh
      simp only [Option.some.injEq, Prod.mk.injEq] at h
      obtain ⟨rfl, -, rfl⟩ := h
      simp only [ro, roCellsH_ok hh hp, Option.map_some]
    · cases h
  · exact roPtrH_ok h hp
  · simp only [Option.some.injEq, Prod.mk.injEq] at h
    obtain ⟨rfl, -, -⟩ := h; rfl
  · split at h
    · rename_i hh
      simp only [Option.some.injEq, Prod.mk.injEq] at h
      obtain ⟨rfl, -, rfl⟩ := h
      simp only [ro, roCapsH_ok hh hp, Option.map_some]
    · cases h
  · simp only [Option.some.injEq, Prod.mk.injEq] at h
    obtain ⟨rfl, -, -⟩ := h; rfl
  · simp only [Option.some.injEq, Prod.mk.injEq] at h
    obtain ⟨rfl, -, -⟩ := h; rfl
  · exact roCellH_ok h hp
  · exact roCellH_ok h hp
  · cases h

def prepH (H : Hints) (f : FuncId) (s : S) : List (List AV) → Nat → List Operand → Option (Prep × List (List AV) × List Prop)
  | ns, _, [] => some (⟨[], [], [], [], []⟩, ns, [])
  | ns, i, x :: xs =>
    match prepH H f s ns (i + 1) xs with
    | none => none
    | some (p, ns, ps) =>
      if H.mt f i then
        match s.ev x with
        | .ptr b 0 => match s.b b with
          | some bx => if cleanL bx.cs ∧ bx.sz = 0 ∧ bx.st = true ∧ b ∉ p.tmp ∧ b ∉ p.kl ∧ b ∉ p.mts.map (·.2) then some ({ p with args := .ptr (1000 + i) 0 :: p.args, mts := (i, b) :: p.mts }, ns, ps) else none
          | none => none
        | _ => none
      else if H.own f i then
        match s.ev x with
        | .msl r n => match freezeH s.b [.msl r n] with
          | some (([y], ks), qs) => if r ∈ p.kl ∨ r ∈ p.tmp ∨ r ∈ p.mts.map (·.2) then none else some ({ p with args := y :: p.args, kl := r :: p.kl }, ns, qs ++ ps)
          | _ => none
        | .agg cs => match freezeH s.b cs with
          | some ((ys, ks), qs) => if ks.any (fun k => k ∈ p.kl ∨ k ∈ p.tmp ∨ k ∈ p.mts.map (·.2)) ∨ (given x (.agg cs)).any (fun q => q.1 ∈ p.set.map (·.1)) then none else some ({ p with args := .agg ys :: p.args, kl := ks ++ p.kl, set := given x (.agg cs) ++ p.set }, ns, qs ++ ps)
          | none => none
        | .sl o sz n cs => if (given x (.sl o sz n cs)).any (fun q => q.1 ∈ p.set.map (·.1)) then none else some ({ p with args := .sl o sz n cs :: p.args, set := given x (.sl o sz n cs) ++ p.set }, ns, ps)
        | .nil => some ({ p with args := .nil :: p.args }, ns, ps)
        | .lit v => some ({ p with args := .lit v :: p.args }, ns, ps)
        | _ => none
      else
        match roH s.b ns (s.ev x) with
        | some (y, ns, qs) => if (leans s.b (s.ev x)).any (fun k => k ∈ p.kl ∨ k ∈ p.mts.map (·.2)) then none else some ({ p with args := y :: p.args, tmp := leans s.b (s.ev x) ++ p.tmp }, ns, qs ++ ps)
        | none => none
theorem prepH_ok {f : FuncId} {s : S} : ∀ {xs ns i p ns' ps}, prepH H f s ns i xs = some (p, ns', ps) → All ps → prep H f s i xs = some p := by
  intro xs
  induction xs with
  | nil => intro ns i p ns' ps h _; simp only [prepH, Option.some.injEq, Prod.mk.injEq] at h; rw [← h.1]; rfl
  | cons x xs ih =>
    intro ns i p ns' ps h hp
    simp only [prepH] at h
    split at h
    · cases h
    · rename_i p1 ns1 ps1 h1
      have key : All ps1 → prep H f s (i + 1) xs = some p1 := ih h1
      unfold prep
      split at h
      · rename_i hm
        split at h
        · rename_i hv
          split at h
          · rename_i hb
            simp only [Option.ite_none_right_eq_some, Option.some.injEq, Prod.mk.injEq] at h
            obtain ⟨hc, rfl, -, rfl⟩ := h
            simp only [key hp, hm, if_true, hv, hb, if_pos hc]
          · cases h
        · cases h
      · rename_i hm
        split at h
        · rename_i ho
          split at h
          · rename_i hv
            split at h
            · rename_i hf
              simp only [Option.ite_none_left_eq_some, Option.some.injEq, Prod.mk.injEq] at h
              obtain ⟨hc, rfl, -, rfl⟩ := h
              rw [all_app] at hp
              simp only [key hp.2, hm, ho, hv, freezeH_ok hf hp.1, if_neg hc]
              simp
            · cases h
          · rename_i hv
            split at h
            · rename_i hf
              simp only [Option.ite_none_left_eq_some, Option.some.injEq, Prod.mk.injEq] at h
              obtain ⟨hc, rfl, -, rfl⟩ := h
              rw [all_app] at hp
              simp only [key hp.2, hm, ho, hv, freezeH_ok hf hp.1, if_neg hc]
              simp
            · cases h
          · rename_i hv
            simp only [Option.ite_none_left_eq_some, Option.some.injEq, Prod.mk.injEq] at h
            obtain ⟨hc, rfl, -, rfl⟩ := h
            simp only [key hp, hm, ho, hv, if_neg hc]
            simp
          · rename_i hv
            simp only [Option.some.injEq, Prod.mk.injEq] at h
            obtain ⟨rfl, -, rfl⟩ := h
            simp only [key hp, hm, ho, hv]
            simp
          · rename_i hv
            simp only [Option.some.injEq, Prod.mk.injEq] at h
            obtain ⟨rfl, -, rfl⟩ := h
            simp only [key hp, hm, ho, hv]
            simp
          · cases h
        · rename_i ho
          split at h
          · rename_i hr
            simp only [Option.ite_none_left_eq_some, Option.some.injEq, Prod.mk.injEq] at h
            obtain ⟨hc, rfl, -, rfl⟩ := h
            rw [all_app] at hp
            simp only [key hp.2, hm, ho, roH_ok hr hp.1, if_neg hc]
            simp
          · cases h
end Evl
