/- Texts that belong together, joined. No condition. -/
import Derived.Test.YtljcjahaeebocaaGreatJc
import Derived.Laws.StructEq
import Derived.ChangeKeysEq
/-! Exa -/
namespace Evl
open Go

variable {P : Program} {H : Hints} {fid : FuncId}

def All : List Prop → Prop
  | [] => True
  | p :: ps => p ∧ All ps
theorem onil : All [] := trivial
theorem ocons {p : Prop} {ps : List Prop} (h : p) (hs : All ps) : All (p :: ps) := ⟨h, hs⟩
theorem all_app {ps qs : List Prop} : All (ps ++ qs) ↔ All ps ∧ All qs := by
  induction ps with
  | nil => simp [All]
  | cons p ps ih => simp [All, ih, and_assoc]

/-- Cells that are looked at; 'ns': what the rows in them come to. -/
def shareH : List (List AV) → List AV → Option (List AV × List (List AV) × List Prop)
  | ns, [] => some ([], ns, [])
  | ns, .sl true sz n ds :: cs =>
    match ns with
    | ys :: ns => match shareH ns cs with
      | some (cs', ns', ps) => some (.sl false sz n ys :: cs', ns', (shareL ds = ys) :: ps)
      | none => none
    | [] => match shareH [] cs with
      | some (cs', ns', ps) => some (.sl false sz n (shareL ds) :: cs', ns', ps)
      | none => none
  | ns, c :: cs => match shareH ns cs with
    | some (cs', ns', ps) => some (share c :: cs', ns', ps)
    | none => none
theorem shareH_ok : ∀ {cs ns ys ns' ps}, shareH ns cs = some (ys, ns', ps) → All ps → shareL cs = ys := by
  intro cs
  induction cs with
  | nil => intro ns ys ns' ps h _; simp only [shareH, Option.some.injEq, Prod.mk.injEq] at h; rw [← h.1]; rfl
  | cons c cs ih =>
    intro ns ys ns' ps h hp
    unfold shareH at h
    split at h
    · cases ‹_ :: _ = []›
    · rename_i heq
      simp only [List.cons.injEq] at heq
      obtain ⟨rfl, rfl⟩ := heq
      split at h
      · split at h
        · rename_i hh
          simp only [Option.some.injEq, Prod.mk.injEq] at h
          obtain ⟨rfl, -, rfl⟩ := h
          simp only [shareL, share]
          rw [hp.1, ih hh hp.2]
        · cases h
      · split at h
        · rename_i hh
          simp only [Option.some.injEq, Prod.mk.injEq] at h
          obtain ⟨rfl, -, rfl⟩ := h
          simp only [shareL, share]
          rw [ih hh hp]
        · cases h
    · rename_i heq
      simp only [List.cons.injEq] at heq
      obtain ⟨rfl, rfl⟩ := heq
      split at h
      · rename_i hh
        simp only [Option.some.injEq, Prod.mk.injEq] at h
        obtain ⟨rfl, -, rfl⟩ := h
        simp only [shareL]
        rw [ih hh hp]
      · cases h

def freezeH (b : Nat → Option Box) : List AV → Option ((List AV × List Nat) × List Prop)
  | [] => some (([], []), [])
  | .msl r n :: cs =>
    match b r, freezeH b cs with
    | some x, some ((ys, ks), ps) => if x.sz ≠ 0 ∧ r ∉ ks then some ((.sl true x.sz n x.cs :: ys, r :: ks), (n * x.sz = x.cs.length) :: ps) else none
    | _, _ => none
  | .bad :: _ => none
  | c :: cs => match freezeH b cs with
    | some ((ys, ks), ps) => some ((c :: ys, ks), ps)
    | none => none
theorem freezeH_ok {b : Nat → Option Box} : ∀ {cs q ps}, freezeH b cs = some (q, ps) → All ps → freezeL b cs = some q := by
  intro cs
  induction cs with
  | nil => intro q ps h _; simp only [freezeH, Option.some.injEq, Prod.mk.injEq] at h; rw [← h.1]; rfl
  | cons c cs ih =>
    intro q ps h hp
    unfold freezeH at h
    split at h
    · cases ‹_ :: _ = []›
    · rename_i heq
      simp only [List.cons.injEq] at heq
      obtain ⟨rfl, rfl⟩ := heq
      split at h
      · rename_i hb hh
        simp only [Option.ite_none_right_eq_some, Option.some.injEq, Prod.mk.injEq] at h
        obtain ⟨⟨h1, h2⟩, rfl, rfl⟩ := h
        simp only [freezeL, hb, ih hh hp.2]
        rw [if_pos ⟨h1, hp.1, h2⟩]
      · cases h
    · cases h
    · rename_i hn1 hn2 heq
      simp only [List.cons.injEq] at heq
      obtain ⟨rfl, rfl⟩ := heq
      split at h
      · rename_i hh
        simp only [Option.some.injEq, Prod.mk.injEq] at h
        obtain ⟨rfl, rfl⟩ := h
        have := ih hh hp
        cases c <;> first | (simp [freezeL, this]; done) | (exact absurd rfl (hn1 _ _)) | (exact absurd rfl hn2)
      · cases h

def roCellH (b : Nat → Option Box) (ns : List (List AV)) : AV → Option (AV × List (List AV) × List Prop)
  | .lit v => some (.lit v, ns, [])
  | .nil => some (.nil, ns, [])
  | .sl false sz n cs => some (.sl false sz n cs, ns, [])
  | .sl true sz n cs => match ns with
    | ys :: ns => some (.sl false sz n ys, ns, [shareL cs = ys])
    | [] => some (.sl false sz n (shareL cs), [], [])
  | .msl r n => match b r, ns with
    | some x, ys :: ns => if x.sz ≠ 0 then some (.sl false x.sz n ys, ns, [n * x.sz = x.cs.length, shareL x.cs = ys]) else none
    | _, _ => none
  | _ => none
theorem roCellH_ok {b : Nat → Option Box} {ns c y ns' ps} (h : roCellH b ns c = some (y, ns', ps)) (hp : All ps) : roCell b c = some y := by
  unfold roCellH at h
  split at h <;> first | (simp only [Option.some.injEq, Prod.mk.injEq] at h; obtain ⟨rfl, -, -⟩ := h; rfl) | skip
  · split at h
    · simp only [Option.some.injEq, Prod.mk.injEq] at h
      obtain ⟨rfl, -, rfl⟩ := h
      simp only [roCell, share]; rw [hp.1]
    · simp only [Option.some.injEq, Prod.mk.injEq] at h
      obtain ⟨rfl, -, -⟩ := h; rfl
  · split at h
    · rename_i x _ _ hb
      simp only [Option.ite_none_right_eq_some, Option.some.injEq, Prod.mk.injEq] at h
      obtain ⟨h1, rfl, -, rfl⟩ := h
      simp only [roCell, hb]
      rw [if_pos ⟨h1, Nat.le_of_eq hp.1⟩]
      rw [List.take_of_length_le (Nat.le_of_eq hp.1.symm), hp.2.1]
    · cases h
  · cases h
def roCellsH (b : Nat → Option Box) : List (List AV) → List AV → Option (List AV × List (List AV) × List Prop)
  | ns, [] => some ([], ns, [])
  | ns, x :: xs => match roCellH b ns x with
    | some (y, ns, ps) => match roCellsH b ns xs with
      | some (ys, ns, qs) => some (y :: ys, ns, ps ++ qs)
      | none => none
    | none => none
theorem roCellsH_ok {b : Nat → Option Box} : ∀ {cs ns ys ns' ps}, roCellsH b ns cs = some (ys, ns', ps) → All ps → roCells b cs = some ys := by
  intro cs
  induction cs with
  | nil => intro ns ys ns' ps h _; simp only [roCellsH, Option.some.injEq, Prod.mk.injEq] at h; rw [← h.1]; rfl
  | cons c cs ih =>
    intro ns ys ns' ps h hp
    simp only [roCellsH] at h
    split at h
    · rename_i h1
      split at h
      · rename_i h2
        simp only [Option.some.injEq, Prod.mk.injEq] at h
        obtain ⟨rfl, -, rfl⟩ := h
        rw [all_app] at hp
        simp only [roCells, roCellH_ok h1 hp.1, ih h2 hp.2]
      · cases h
    · cases h
def roPtrH (b : Nat → Option Box) (ns : List (List AV)) : AV → Option (AV × List (List AV) × List Prop)
  | .ptr r off => match b r with
    | some x => if off < x.cs.length then (match roCellsH b ns (x.cs.drop off) with
      | some (ys, ns, ps) => some (.cptr ys, ns, ps)
      | none => none) else none
    | none => none
  | .cptr cs => some (.cptr cs, ns, [])
  | _ => none
theorem roPtrH_ok {b : Nat → Option Box} {ns c y ns' ps} (h : roPtrH b ns c = some (y, ns', ps)) (hp : All ps) : roPtr b c = some y := by
  unfold roPtrH at h
  split at h
  · split at h
    · rename_i hb
      split at h
      · rename_i hl
        split at h
        · rename_i hh
          simp only [Option.some.injEq, Prod.mk.injEq] at h
          obtain ⟨rfl, -, rfl⟩ := h
          simp only [roPtr, hb, if_pos hl, roCellsH_ok hh hp, Option.map_some]
        · cases h
      · cases h
    · cases h
  · simp only [Option.some.injEq, Prod.mk.injEq] at h
    obtain ⟨rfl, -, -⟩ := h; rfl
  · cases h
def roCapsH (b : Nat → Option Box) : List (List AV) → List AV → Option (List AV × List (List AV) × List Prop)
  | ns, [] => some ([], ns, [])
  | ns, x :: xs => match roPtrH b ns x with
    | some (y, ns, ps) => match roCapsH b ns xs with
      | some (ys, ns, qs) => some (y :: ys, ns, ps ++ qs)
      | none => none
    | none => none
theorem roCapsH_ok {b : Nat → Option Box} : ∀ {cs ns ys ns' ps}, roCapsH b ns cs = some (ys, ns', ps) → All ps → roCaps b cs = some ys := by
  intro cs
  induction cs with
  | nil => intro ns ys ns' ps h _; simp only [roCapsH, Option.some.injEq, Prod.mk.injEq] at h; rw [← h.1]; rfl
  | cons c cs ih =>
    intro ns ys ns' ps h hp
    simp only [roCapsH] at h
    split at h
    · rename_i h1
      split at h
      · rename_i h2
        simp only [Option.some.injEq, Prod.mk.injEq] at h
        obtain ⟨rfl, -, rfl⟩ := h
        rw [all_app] at hp
        simp only [roCaps, roPtrH_ok h1 hp.1, ih h2 hp.2]
      · cases h
    · cases h
def roH (b : Nat → Option Box) (ns : List (List AV)) : AV → Option (AV × List (List AV) × List Prop)
  | .agg cs => match roCellsH b ns cs with
    | some (ys, ns, ps) => some (.agg ys, ns, ps)
    | none => none
  | .ptr r off => roPtrH b ns (.ptr r off)
  | .cptr cs => some (.cptr cs, ns, [])
  | .fnv f cs => match roCapsH b ns cs with
    | some (ys, ns, ps) => some (.fnv f ys, ns, ps)
    | none => none
  | .lit v => some (.lit v, ns, [])
  | .nil => some (.nil, ns, [])
  | .sl o sz n cs => roCellH b ns (.sl o sz n cs)
  | .msl r n => roCellH b ns (.msl r n)
  | _ => none
theorem roH_ok {b : Nat → Option Box} {ns c y ns' ps} (h : roH b ns c = some (y, ns', ps)) (hp : All ps) : ro b c = some y := by
  unfold roH at h
  split at h
  · split at h
    · rename_i hh
      simp only [Option.some.injEq, Prod.mk.injEq] at h
      obtain ⟨rfl, -, rfl⟩ := h
      simp only [ro, roCellsH_ok hh hp, Option.map_some]
    · cases h
  · exact roPtrH_ok h hp
  · simp only [Option.some.injEq, Prod.mk.injEq] at h
    obtain ⟨rfl, -, -⟩ := h; rfl
  · split at h
    · rename_i hh
      simp only [Option.some.injEq, Prod.mk.injEq] at h
      obtain ⟨rfl, -, rfl⟩ := h
      simp only [ro, roCapsH_ok hh hp, Option.map_some]
    · cases h
  · simp only [Option.some.injEq, Prod.mk.injEq] at h
    obtain ⟨rfl, -, -⟩ := h; rfl
  · simp only [Option.some.injEq, Prod.mk.injEq] at h
    obtain ⟨rfl, -, -⟩ := h; rfl
  · exact roCellH_ok h hp
  · exact roCellH_ok h hp
  · cases h

def prepH (H : Hints) (f : FuncId) (s : S) : List (List AV) → Nat → List Operand → Option (Prep × List (List AV) × List Prop)
  | ns, _, [] => some (⟨[], [], [], [], []⟩, ns, [])
  | ns, i, x :: xs =>
    match prepH H f s ns (i + 1) xs with
    | none => none
    | some (p, ns, ps) =>
      if H.mt f i then
        match s.ev x with
        | .ptr b 0 => match s.b b with
          | some bx => if cleanL bx.cs ∧ bx.sz = 0 ∧ bx.st = true ∧ b ∉ p.tmp ∧ b ∉ p.kl ∧ b ∉ p.mts.map (·.2) then some ({ p with args := .ptr (1000 + i) 0 :: p.args, mts := (i, b) :: p.mts }, ns, ps) else none
          | none => none
        | _ => none
      else if H.own f i then
        match s.ev x with
        | .msl r n => match freezeH s.b [.msl r n] with
          | some (([y], ks), qs) => if r ∈ p.kl ∨ r ∈ p.tmp ∨ r ∈ p.mts.map (·.2) then none else some ({ p with args := y :: p.args, kl := r :: p.kl }, ns, qs ++ ps)
          | _ => none
        | .agg cs => match freezeH s.b cs with
          | some ((ys, ks), qs) => if ks.any (fun k => k ∈ p.kl ∨ k ∈ p.tmp ∨ k ∈ p.mts.map (·.2)) ∨ (given x (.agg cs)).any (fun q => q.1 ∈ p.set.map (·.1)) then none else some ({ p with args := .agg ys :: p.args, kl := ks ++ p.kl, set := given x (.agg cs) ++ p.set }, ns, qs ++ ps)
          | none => none
        | .sl o sz n cs => if (given x (.sl o sz n cs)).any (fun q => q.1 ∈ p.set.map (·.1)) then none else some ({ p with args := .sl o sz n cs :: p.args, set := given x (.sl o sz n cs) ++ p.set }, ns, ps)
        | .nil => some ({ p with args := .nil :: p.args }, ns, ps)
        | .lit v => some ({ p with args := .lit v :: p.args }, ns, ps)
        | _ => none
      else
        match roH s.b ns (s.ev x) with
        | some (y, ns, qs) => if (leans s.b (s.ev x)).any (fun k => k ∈ p.kl ∨ k ∈ p.mts.map (·.2)) then none else some ({ p with args := y :: p.args, tmp := leans s.b (s.ev x) ++ p.tmp }, ns, qs ++ ps)
        | none => none
theorem prepH_ok {f : FuncId} {s : S} : ∀ {xs ns i p ns' ps}, prepH H f s ns i xs = some (p, ns', ps) → All ps → prep H f s i xs = some p := by
  intro xs
  induction xs with
  | nil => intro ns i p ns' ps h _; simp only [prepH, Option.some.injEq, Prod.mk.injEq] at h; rw [← h.1]; rfl
  | cons x xs ih =>
    intro ns i p ns' ps h hp
    simp only [prepH] at h
    split at h
    · cases h
    · rename_i p1 ns1 ps1 h1
      have key : All ps1 → prep H f s (i + 1) xs = some p1 := ih h1
      unfold prep
      split at h
      · rename_i hm
        split at h
        · rename_i hv
          split at h
          · rename_i hb
            simp only [Option.ite_none_right_eq_some, Option.some.injEq, Prod.mk.injEq] at h
            obtain ⟨hc, rfl, -, rfl⟩ := h
            simp only [key hp, hm, if_true, hv, hb, if_pos hc]
          · cases h
        · cases h
      · rename_i hm
        split at h
        · rename_i ho
          split at h
          · rename_i hv
            split at h
            · rename_i hf
              simp only [Option.ite_none_left_eq_some, Option.some.injEq, Prod.mk.injEq] at h
              obtain ⟨hc, rfl, -, rfl⟩ := h
              rw [all_app] at hp
              simp only [key hp.2, hm, ho, hv, freezeH_ok hf hp.1, if_neg hc]
              simp
            · cases h
          · rename_i hv
            split at h
            · rename_i hf
              simp only [Option.ite_none_left_eq_some, Option.some.injEq, Prod.mk.injEq] at h
              obtain ⟨hc, rfl, -, rfl⟩ := h
              rw [all_app] at hp
              simp only [key hp.2, hm, ho, hv, freezeH_ok hf hp.1, if_neg hc]
              simp
            · cases h
          · rename_i hv
            simp only [Option.ite_none_left_eq_some, Option.some.injEq, Prod.mk.injEq] at h
            obtain ⟨hc, rfl, -, rfl⟩ := h
            simp only [key hp, hm, ho, hv, if_neg hc]
            simp
          · rename_i hv
            simp only [Option.some.injEq, Prod.mk.injEq] at h
            obtain ⟨rfl, -, rfl⟩ := h
            simp only [key hp, hm, ho, hv]
            simp
          · rename_i hv
            simp only [Option.some.injEq, Prod.mk.injEq] at h
            obtain ⟨rfl, -, rfl⟩ := h
            simp only [key hp, hm, ho, hv]
            simp
          · cases h
        · rename_i ho
          split at h
          · rename_i hr
            simp only [Option.ite_none_left_eq_some, Option.some.injEq, Prod.mk.injEq] at h
            obtain ⟨hc, rfl, -, rfl⟩ := h
            rw [all_app] at hp
            simp only [key hp.2, hm, ho, roH_ok hr hp.1, if_neg hc]
            simp
          · cases h
end Evl

/-! Exb -/
namespace Evl
open Go

variable {P : Program} {H : Hints} {fid : FuncId}

/-- What is told beside an operation. -/
inductive Or where
  | val (v : AV)
  | unit
  | cells (cs : List AV)
  | rows (ns : List (List AV))
  | app (own : Bool) (m : Nat) (cs : List AV)
  | mk (n : Nat) (cs : List AV)
  | call (m : List (Bool × Nat)) (ns : List (List AV)) (r : AV) (bs : List (Nat × Box))
  | fix (t : Nat) (v : AV)
  | fixb (b : Nat) (x : Box)
  | virt (i b sz : Nat)
  | virtc (k : Nat) (y : Box) (j b sz : Nat)
  | adopt (i b n sz : Nat) (cs : List AV)
  | adoptc (k : Nat) (y : Box) (j b n sz : Nat) (cs : List AV)
  | openb (b : Nat) (y : Box)
  | ren (b d : Nat)
  | shutb (b : Nat) (y : Box)
  | wkb (b : Nat) (y x : Box)

/-- An element of a slice. -/
def IxSl (o : Bool) (z n : Nat) (cs : List AV) (j : Int) (w : AV) : Prop := 0 ≤ j ∧ j < n ∧ j.toNat * z ≤ cs.length ∧ w = .cptr (if o then shareL (cs.drop (j.toNat * z)) else cs.drop (j.toNat * z))
def InR (j : Int) (n : Nat) : Prop := 0 ≤ j ∧ j < n
def LdAg (cs : List AV) (off k : Nat) (seg : List AV) : Prop := off + k ≤ cs.length ∧ seg = (cs.drop off).take k
def LdOne (cs : List AV) (off : Nat) (c : AV) : Prop := cs[off]? = some c
def StAt (cs : List AV) (off k : Nat) (ys new : List AV) : Prop := off + k ≤ cs.length ∧ new = cs.take off ++ ys ++ cs.drop (off + k)
def SlS (z n : Nat) (cs : List AV) (l u : Int) (o : Bool) (w : AV) : Prop := cs.length = n * z ∧ 0 ≤ l ∧ l ≤ u ∧ u ≤ n ∧ w = .sl false z (u.toNat - l.toNat) (((if o then shareL cs else cs).drop (l.toNat * z)).take ((u.toNat - l.toNat) * z))
def SlT (v : ByteArray) (l u : Int) (w : AV) : Prop := 0 ≤ l ∧ l ≤ u ∧ u ≤ v.size ∧ w = .lit (.string (v.extract l.toNat u.toNat))
def StrIx (t : ByteArray) (j : Int) (w : AV) : Prop := ∃ h : 0 ≤ j ∧ j.toNat < t.size, w = .lit (.int .u8 (t[j.toNat]'h.2).toNat)
def AppB (bytes sz : Nat) (n : Nat) : Prop := n * bytes ≤ limBytes * sz ∧ n ≤ 9223372036854775807 * sz
def MkP (k : Int) (bytes : Nat) (z : List AV) (n : Nat) (cs : List AV) : Prop := 0 ≤ k ∧ k ≤ 9223372036854775807 ∧ k.toNat * bytes ≤ limBytes ∧ n = k.toNat ∧ cs = (List.replicate k.toNat z).flatten

def loadH (P : Program) (H : Hints) (fid d : Nat) (t : TypeId) (s : S) : AV → Or → Option (Eff × List Prop)
  | .ptr b off, .rows ns =>
    match s.b b, tsize P t, tagg P t with
    | some x, some k, some true =>
      if 0 < k ∧ off + k ≤ x.cs.length ∧ H.mv fid d = false then
        (match shareH ns ((x.cs.drop off).take k) with
        | some (ys, _, ps) => some ({ val := .agg ys, rd := [b] }, ps)
        | none => none)
      else none
    | some x, some 1, some false =>
      match x.cs[off]?, ns with
      | some (.sl true sz n ds), [ys] => some ({ val := .sl false sz n ys, rd := [b] }, [shareL ds = ys])
      | _, _ => none
    | _, _, _ => none
  | .ptr b off, .cells seg =>
    match s.b b, tsize P t, tagg P t with
    | some x, some k, some true => if 0 < k ∧ H.mv fid d = false then some ({ val := .agg (shareL seg), rd := [b] }, [LdAg x.cs off k seg]) else none
    | _, _, _ => none
  | .ptr b off, .val c =>
    match s.b b, tsize P t, tagg P t with
    | some x, some 1, some false => match c with
      | .sl true sz n ds => some ({ val := .sl false sz n (shareL ds), rd := [b] }, [LdOne x.cs off (.sl true sz n ds)])
      | .bad => none
      | c => some ({ val := c, rd := [b] }, [LdOne x.cs off c])
    | _, _, _ => none
  | _, _ => none
theorem loadH_ok {d : Nat} {t : TypeId} {s : S} {v : AV} {q : Or} {e : Eff} {ps : List Prop} (h : loadH P H fid d t s v q = some (e, ps)) (hp : All ps) : loadE P H fid d t s v = some e := by
  unfold loadH at h
  split at h
  · split at h
    · rename_i x k hb ht hg
      simp only [Option.ite_none_right_eq_some] at h
      obtain ⟨hc, h⟩ := h
      split at h
      · rename_i hs
        simp only [Option.some.injEq, Prod.mk.injEq] at h
        obtain ⟨rfl, rfl⟩ := h
        simp only [loadE, hb, ht, hg, hc.2.2, shareH_ok hs hp]
        rw [if_pos ⟨hc.1, hc.2.1⟩]; simp
      · cases h
    · rename_i x hb ht hg
      split at h
      · rename_i hx
        simp only [Option.some.injEq, Prod.mk.injEq] at h
        obtain ⟨rfl, rfl⟩ := h
        simp only [loadE, hb, ht, hg, hx, hp.1]
      · cases h
    · cases h
  · split at h
    · rename_i x k hb ht hg
      simp only [Option.ite_none_right_eq_some, Option.some.injEq, Prod.mk.injEq] at h
      obtain ⟨hc, rfl, rfl⟩ := h
      simp only [loadE, hb, ht, hg, hc.2]
      rw [if_pos ⟨hc.1, hp.1.1⟩, hp.1.2]
      simp
    · cases h
  · split at h
    · rename_i x hb ht hg
      split at h
      · simp only [Option.some.injEq, Prod.mk.injEq] at h
        obtain ⟨rfl, rfl⟩ := h
        have hl := hp.1
        unfold LdOne at hl
        simp only [loadE, hb, ht, hg, hl]
      · cases h
      · rename_i hn1 hn2
        simp only [Option.some.injEq, Prod.mk.injEq] at h
        obtain ⟨rfl, rfl⟩ := h
        have hl := hp.1
        unfold LdOne at hl
        simp only [loadE, hb, ht, hg, hl]
    · cases h
  · cases h

/-- A store: the row's cells behind it are told, where its place is not known. -/
def storeH (P : Program) (t : TypeId) (s : S) (a : AV) (xo : Operand) (q : Option Or) : Option (Eff × List Prop) :=
  match a, tsize P t, cellsOf (s.ev xo) with
  | .ptr b off, some k, some cs =>
    match s.b b with
    | some x =>
      if x.st = true ∧ cs.length = k ∧ 0 < k then
        match (if x.sz = 0 then some ((cs, []), []) else freezeH s.b cs) with
        | some ((ys, ks), ps) => if b ∈ ks then none else
          (match q with
          | none => if off + k ≤ x.cs.length then some ({ val := .bad, set := given xo (s.ev xo), kl := ks, put := [(b, { x with cs := x.cs.take off ++ ys ++ x.cs.drop (off + k) })], rd := b :: ks }, ps) else none
          | some (.cells new) => some ({ val := .bad, set := given xo (s.ev xo), kl := ks, put := [(b, { x with cs := new })], rd := b :: ks }, StAt x.cs off k ys new :: ps)
          | _ => none)
        | none => none
      else none
    | none => none
  | _, _, _ => none
theorem storeH_ok {t : TypeId} {s : S} {a : AV} {xo : Operand} {q : Option Or} {e : Eff} {ps : List Prop} (h : storeH P t s a xo q = some (e, ps)) (hp : All ps) : storeE P t s a xo = some e := by
  unfold storeH at h
  split at h
  · rename_i b off k cs ht hc
    split at h
    · rename_i x hb
      simp only [Option.ite_none_right_eq_some] at h
      obtain ⟨⟨h1, h2, h3⟩, h⟩ := h
      split at h
      · rename_i ys ks qs hf
        simp only [Option.ite_none_left_eq_some] at h
        obtain ⟨hn, h⟩ := h
        have key : ∀ new, off + k ≤ x.cs.length → All qs → new = x.cs.take off ++ ys ++ x.cs.drop (off + k) → storeE P t s (.ptr b off) xo = some { val := .bad, set := given xo (s.ev xo), kl := ks, put := [(b, { x with cs := new })], rd := b :: ks } := by
          intro new hl hq hnew
          simp only [storeE, ht, hc, hb]
          rw [if_pos ⟨h1, h2, hl, h3⟩]
          split at hf
          · rename_i hz
            simp only [Option.some.injEq, Prod.mk.injEq] at hf
            obtain ⟨⟨rfl, rfl⟩, -⟩ := hf
            rw [if_pos hz, hnew]
          · rename_i hz
            rw [if_neg hz, hnew]
            simp only [freezeH_ok hf hq, if_neg hn]
        split at h
        · simp only [Option.ite_none_right_eq_some, Option.some.injEq, Prod.mk.injEq] at h
          obtain ⟨hl, rfl, rfl⟩ := h
          exact key _ hl hp rfl
        · simp only [Option.some.injEq, Prod.mk.injEq] at h
          obtain ⟨rfl, rfl⟩ := h
          exact key _ hp.1.1 hp.2 hp.1.2
        · cases h
      · cases h
    · cases h
  · cases h

def appArgH (kb : Bool) (s : S) (sz : Nat) (own : Bool) : AV → Option ((List AV × List Nat × List Nat) × List Prop)
  | .nil => some (([], [], []), [])
  | .sl false z n cs => if z = sz then some ((cs, [], []), [cs.length = n * sz]) else none
  | .msl b n => match s.b b with
    | some r => if r.sz = sz then (if kb then some ((r.cs, [b], [b]), [r.cs.length = n * sz]) else some ((r.cs, if own then [b] else [], [b]), [r.cs.length = n * sz, hasOwnL r.cs = own])) else none
    | none => none
  | _ => none
theorem appArgH_ok {kb : Bool} {s : S} {sz : Nat} {own : Bool} {v : AV} {r ps} (h : appArgH kb s sz own v = some (r, ps)) (hp : All ps) : appArg kb s sz v = some r := by
  unfold appArgH at h
  split at h
  · simp only [Option.some.injEq, Prod.mk.injEq] at h; obtain ⟨rfl, -⟩ := h; rfl
  · simp only [Option.ite_none_right_eq_some, Option.some.injEq, Prod.mk.injEq] at h
    obtain ⟨hz, rfl, rfl⟩ := h
    simp only [appArg, if_pos (And.intro hz hp.1)]; simp
  · split at h
    · rename_i hb
      simp only [Option.ite_none_right_eq_some] at h
      obtain ⟨hz, h⟩ := h
      cases kb with
      | true =>
        simp only [if_true, Option.some.injEq, Prod.mk.injEq] at h
        obtain ⟨rfl, rfl⟩ := h
        simp only [appArg, hb, if_pos (And.intro hz hp.1)]; simp
      | false =>
        simp only [Bool.false_eq_true, if_false, Option.some.injEq, Prod.mk.injEq] at h
        obtain ⟨rfl, rfl⟩ := h
        simp only [appArg, hb, if_pos (And.intro hz hp.1), hp.2.1]
        cases own <;> simp
    · cases h
  · cases h

def appendH (P : Program) (kb : Bool) (d : Nat) (st : TypeId) (s : S) (x y : AV) (own : Bool) (m : Nat) (new : List AV) : Option (Eff × List Prop) :=
  match tslice P st with
  | some (e, sz, bytes) => if sz = 0 ∨ (tzero P e).map (·.length) ≠ some sz then none else
    match appArgH kb s sz own y with
    | some ((ys, ks, rs), ps) => if d ∈ ks then none else
      match x with
      | .msl b n => match s.b b with
        | some r => if r.sz = sz ∧ b ∉ ks then
            some ({ val := .msl d m, kl := d :: b :: ks, put := [(d, ⟨r.st, sz, new⟩)], rd := b :: rs }, (r.cs.length = n * sz) :: AppB bytes sz (r.cs.length + ys.length) :: (new = r.cs ++ ys) :: (n + ys.length / sz = m) :: ps)
          else none
        | none => none
      | _ => none
    | none => none
  | none => none
theorem appendH_ok {kb : Bool} {d : Nat} {st : TypeId} {s : S} {x y : AV} {own : Bool} {m : Nat} {new : List AV} {e : Eff} {ps : List Prop} (h : appendH P kb d st s x y own m new = some (e, ps)) (hp : All ps) : appendE P kb d st s x y = some e := by
  unfold appendH at h
  split at h
  · rename_i hts
    simp only [Option.ite_none_left_eq_some] at h
    obtain ⟨hz, h⟩ := h
    split at h
    · rename_i ha
      simp only [Option.ite_none_left_eq_some] at h
      obtain ⟨hd, h⟩ := h
      split at h
      · split at h
        · rename_i hb
          simp only [Option.ite_none_right_eq_some, Option.some.injEq, Prod.mk.injEq] at h
          obtain ⟨⟨h1, h2⟩, rfl, rfl⟩ := h
          obtain ⟨p1, p2, p3, p5, p4⟩ := hp
          simp only [appendE, hts, if_neg hz, appArgH_ok ha p4, if_neg hd, hb]
          rw [if_pos ⟨h1, p1, h2, p2.1, p2.2⟩, p3, p5]
        · cases h
      · cases h
    · cases h
  · cases h

def sliceH (P : Program) (t : TypeId) (s : S) (lo hi : Option Operand) (w : AV) : AV → Option (Eff × List Prop)
  | .lit (.string v) => match bnd s 0 lo, bnd s v.size hi with
    | some l, some u => if tstr P t = true then some ({ val := w }, [SlT v l u w]) else none
    | _, _ => none
  | .sl o z n cs => match bnd s 0 lo, bnd s n hi, tslice P t with
    | some l, some u, some (_, z', _) => if z = z' then some ({ val := w }, [SlS z n cs l u o w]) else none
    | _, _, _ => none
  | .msl b n => match s.b b with
    | some r => match bnd s 0 lo, bnd s n hi, tslice P t with
      | some l, some u, some (_, z', _) => if r.sz = z' ∧ z' ≠ 0 then some ({ val := w, put := [(b, { r with st := false })], rd := [b] }, [SlS z' n r.cs l u true w]) else none
      | _, _, _ => none
    | none => none
  | _ => none
theorem sliceH_ok {t : TypeId} {s : S} {lo hi : Option Operand} {w v : AV} {e : Eff} {ps : List Prop} (h : sliceH P t s lo hi w v = some (e, ps)) (hp : All ps) : sliceE P t s lo hi v = some e := by
  unfold sliceH at h
  split at h
  · split at h
    · rename_i hl hu
      simp only [Option.ite_none_right_eq_some, Option.some.injEq, Prod.mk.injEq] at h
      obtain ⟨ht, rfl, rfl⟩ := h
      obtain ⟨p1, p2, p3, p4⟩ := hp.1
      simp only [sliceE, hl, hu]; rw [if_pos ⟨ht, p1, p2, p3⟩, p4]
    · cases h
  · split at h
    · rename_i hl hu ht
      simp only [Option.ite_none_right_eq_some, Option.some.injEq, Prod.mk.injEq] at h
      obtain ⟨hz, rfl, rfl⟩ := h
      obtain ⟨p1, p2, p3, p4, p5⟩ := hp.1
      simp only [sliceE, hl, hu, ht]; rw [if_pos ⟨hz, p1, p2, p3, p4⟩, p5]
    · cases h
  · split at h
    · rename_i hb
      split at h
      · rename_i hl hu ht
        simp only [Option.ite_none_right_eq_some, Option.some.injEq, Prod.mk.injEq] at h
        obtain ⟨⟨h1, h2⟩, rfl, rfl⟩ := h
        obtain ⟨p1, p2, p3, p4, p5⟩ := hp.1
        simp only [sliceE, hb, hl, hu, ht]; rw [if_pos ⟨h1, p1, h2, p2, p3, p4⟩, p5]; simp
      · cases h
    · cases h
  · cases h

def buildSliceH (P : Program) (d : Nat) (t : TypeId) (len : Nat) (parts : List (Nat × Operand)) (s : S) : Option (Eff × List Prop) :=
  match tslice P t, partsOf s parts with
  | some (e, sz, _), some ps => match tzero P e with
    | some z => if sz ≠ 0 ∧ z.length = sz ∧ len * sz ≤ limCells ∧ noDup ((partsGiven s parts).map (·.1)) = true then
        match fillG (fun i => some (i * sz, sz)) ps ((List.replicate len z).flatten) with
        | some cs => (match freezeH s.b cs with
          | some ((ys, ks), os) => some ({ val := .msl d len, set := partsGiven s parts, kl := d :: ks, put := [(d, ⟨true, sz, ys⟩)], rd := ks }, os)
          | none => none)
        | none => none
      else none
    | none => none
  | _, _ => none

/-- An operation with what is told beside: what it does, and what it takes. -/
def opH (P : Program) (H : Hints) (fid : FuncId) (o : Oper) (s : S) (q : Option Or) : Option (Eff × List Prop) :=
  match o.op, q with
  | .indexAddr t x i, some q => match s.ev i with
    | .lit (.int _ j) => match s.ev x, tarr P t, tslice P t, q with
      | .sl o z n cs, none, some (_, z', _), .val w => if z = z' then some ({ val := w }, [IxSl o z n cs j w]) else none
      | .msl b n, none, some (_, z', _), .unit => match s.b b with
        | some r => if r.sz = z' then some ({ val := .ptr b (j.toNat * z'), rd := [b] }, [InR j n]) else none
        | none => none
      | .ptr b k, some (n, z), _, .unit => some ({ val := .ptr b (k + j.toNat * z) }, [InR j n])
      | _, _, _, _ => none
    | _ => none
  | .load t a, some q => match o.dst with
    | some d => loadH P H fid d t s (s.ev a) q
    | none => none
  | .store t a x, q => if o.dst = none then storeH P t s (s.ev a) x q else none
  | .buildSlice t len parts, none => match o.dst with
    | some d => buildSliceH P d t len parts.toList s
    | none => none
  | .call { callee := .builtin .append, args, argTypes }, some (.app own m new) => (match o.dst, args.toList, argTypes.toList with
      | some d, [x, y], [t, u] => if t = u then appendH P (H.mv fid d) d t s (s.ev x) (s.ev y) own m new else none
      | _, _, _ => none)
  | .slice t x lo hi mx, some (.val w) => if mx.isSome then none else sliceH P t s lo hi w (s.ev x)
  | .makeSlice t n _c, some (.mk m cs) => match o.dst, tslice P t, s.ev n, s.ev _c with
    | some d, some (e, sz, bytes), .lit (.int .i64 k), .lit (.int .i64 c) => match tzero P e with
      | some z => if sz ≠ 0 ∧ z.length = sz then some ({ val := .msl d m, kl := [d], put := [(d, ⟨true, sz, cs⟩)] }, [c = k, MkP k bytes z m cs]) else none
      | none => none
    | _, _, _, _ => none
  | .binOp op _ x y _, some (.val (.lit v)) => match s.ev x, s.ev y with
    | .lit a, .lit b => some ({ val := .lit v }, [binV op a b = some v])
    | _, _ => none
  | .index ty x i, some (.val w) => match s.ev x, s.ev i with
    | .lit (.string t), .lit (.int _ j) => if tstr P ty = true then some ({ val := w }, [StrIx t j w]) else none
    | _, _ => none
  | .convert src dst x, some (.val (.lit (.string t))) => match s.ev x with
    | .sl false 1 n cs => if tu8s P src = true ∧ tstr P dst = true then some ({ val := .lit (.string t) }, [strE cs n = some t]) else none
    | .msl b n => match s.b b with
      | some r => if tstr P dst = true ∧ tu8s P src = true ∧ r.sz = 1 then some ({ val := .lit (.string t), rd := [b] }, [strE r.cs n = some t]) else none
      | none => none
    | _ => none
  | .call { callee := .builtin .len, args, argTypes }, some (.val (.lit (.int .i64 m))) => match args.toList, argTypes.toList with
    | [x], [t] => match s.ev x with
      | .lit u => if (tslice P t).isSome then some ({ val := .lit (.int .i64 m) }, [lenV u = some m]) else none
      | _ => none
    | _, _ => none
  | .call { callee := .builtin .max, args, .. }, some (.val (.lit (.int k m))) => some ({ val := .lit (.int k m) }, [maxInts (args.toList.map s.ev) = some (k, m)])
  | .call { callee := .builtin .min, args, .. }, some (.val (.lit (.int k m))) => some ({ val := .lit (.int k m) }, [minInts (args.toList.map s.ev) = some (k, m)])
  | _, none => match opE P H fid o s with
    | some e => some (e, [])
    | none => none
  | _, _ => none

theorem opH_ok {o : Oper} {s : S} {q : Option Or} {e : Eff} {ps : List Prop} (h : opH P H fid o s q = some (e, ps)) (hp : All ps) : opE P H fid o s = some e := by
  unfold opH at h
  split at h
  · rename_i hop
    split at h
    · rename_i hi
      split at h
      · rename_i hx ht1 ht2
        simp only [Option.ite_none_right_eq_some, Option.some.injEq, Prod.mk.injEq] at h
        obtain ⟨hz, rfl, rfl⟩ := h
        obtain ⟨p1, p2, p3, p4⟩ := hp.1
        simp only [opE, hop, hi, hx, ht1, ht2]
        cases ‹Bool›
        · simp only [Bool.false_eq_true, if_false] at p4 ⊢; rw [if_pos ⟨hz, p1, p2, p3⟩, p4]
        · simp only [if_true] at p4 ⊢; rw [if_pos ⟨hz, p1, p2, p3⟩, p4]
      · rename_i hx ht1 ht2
        split at h
        · rename_i hb
          simp only [Option.ite_none_right_eq_some, Option.some.injEq, Prod.mk.injEq] at h
          obtain ⟨hz, rfl, rfl⟩ := h
          obtain ⟨p1, p2⟩ := hp.1
          simp only [opE, hop, hi, hx, ht1, ht2, hb]
          rw [if_pos ⟨hz, p1, p2⟩]
        · cases h
      · rename_i hx ht1
        simp only [Option.some.injEq, Prod.mk.injEq] at h
        obtain ⟨rfl, rfl⟩ := h
        obtain ⟨p1, p2⟩ := hp.1
        simp only [opE, hop, hi, hx, ht1]
        rw [if_pos ⟨p1, p2⟩]
      · cases h
    · cases h
  · rename_i hop
    split at h
    · rename_i hd
      simp only [opE, hop, hd]
      exact loadH_ok h hp
    · cases h
  · rename_i hop
    simp only [Option.ite_none_right_eq_some] at h
    simp only [opE, hop, if_pos h.1]
    exact storeH_ok h.2 hp
  · rename_i hop
    split at h
    · rename_i hd
      unfold buildSliceH at h
      split at h
      · rename_i ht hps
        split at h
        · rename_i hz
          simp only [Option.ite_none_right_eq_some] at h
          obtain ⟨hc, h⟩ := h
          split at h
          · rename_i hf
            split at h
            · rename_i hfr
              simp only [Option.some.injEq, Prod.mk.injEq] at h
              obtain ⟨rfl, rfl⟩ := h
              simp only [opE, hop, hd, ht, hps, hz, if_pos hc, hf, freezeH_ok hfr hp]
            · cases h
          · cases h
        · cases h
      · cases h
    · cases h
  · rename_i hop
    split at h
    · rename_i hd ha ht
      simp only [Option.ite_none_right_eq_some] at h
      simp only [opE, hop, hd, ha, ht, if_pos h.1]
      exact appendH_ok h.2 hp
    · cases h
  · rename_i hop
    simp only [Option.ite_none_left_eq_some] at h
    simp only [opE, hop, if_neg h.1]
    exact sliceH_ok h.2 hp
  · rename_i hop
    split at h
    · rename_i hd ht hn hc
      split at h
      · rename_i hz
        simp only [Option.ite_none_right_eq_some, Option.some.injEq, Prod.mk.injEq] at h
        obtain ⟨⟨h1, h2⟩, rfl, rfl⟩ := h
        obtain ⟨p0, ⟨p1, p2, p3, p4, p5⟩, -⟩ := hp
        simp only [opE, hop, hd, ht, hn, hc, hz]
        rw [if_pos ⟨h1, h2, p0, p1, p2, p3⟩, p4, p5]
      · cases h
    · cases h
  · rename_i hop
    split at h
    · rename_i hx hy
      simp only [Option.some.injEq, Prod.mk.injEq] at h
      obtain ⟨rfl, rfl⟩ := h
      simp only [opE, hop, hx, hy, hp.1]
    · cases h
  · rename_i hop
    split at h
    · rename_i hx hi
      simp only [Option.ite_none_right_eq_some, Option.some.injEq, Prod.mk.injEq] at h
      obtain ⟨hz, rfl, rfl⟩ := h
      obtain ⟨⟨p1, p2⟩, -⟩ := hp
      simp only [opE, hop, hx, hi]
      rw [dif_pos p1, if_pos hz, p2]
    · cases h
  · rename_i hop
    split at h
    · rename_i hx
      simp only [Option.ite_none_right_eq_some, Option.some.injEq, Prod.mk.injEq] at h
      obtain ⟨hc, rfl, rfl⟩ := h
      simp only [opE, hop, hx, if_pos hc, hp.1, Option.map_some]
    · rename_i hx
      split at h
      · rename_i hb
        simp only [Option.ite_none_right_eq_some, Option.some.injEq, Prod.mk.injEq] at h
        obtain ⟨⟨c1, c2, c3⟩, rfl, rfl⟩ := h
        simp only [opE, hop, hx, if_pos c1, hb, if_pos (And.intro c2 c3), hp.1, Option.map_some]
      · cases h
    · cases h
  · rename_i hop
    split at h
    · rename_i ha ht
      split at h
      · rename_i hx
        simp only [Option.ite_none_right_eq_some, Option.some.injEq, Prod.mk.injEq] at h
        obtain ⟨hs, rfl, rfl⟩ := h
        have h1 := hp.1
        unfold lenV at h1
        split at h1
        · simp only [Option.some.injEq] at h1
          subst h1
          simp only [opE, hop, ha, ht, hx, if_pos hs]
        · cases h1
      · cases h
    · cases h
  · rename_i hop
    simp only [Option.some.injEq, Prod.mk.injEq] at h
    obtain ⟨rfl, rfl⟩ := h
    simp only [opE, hop, hp.1, Option.map_some]
  · rename_i hop
    simp only [Option.some.injEq, Prod.mk.injEq] at h
    obtain ⟨rfl, rfl⟩ := h
    simp only [opE, hop, hp.1, Option.map_some]
  · split at h
    · rename_i he
      simp only [Option.some.injEq, Prod.mk.injEq] at h
      obtain ⟨rfl, -⟩ := h
      exact he
    · cases h
  · cases h
end Evl

/-! Exc -/
namespace Evl
open Go

variable {P : Program} {H : Hints} {Y : FuncId → List AV → (Nat → Option Box) → AV → (Nat → Option Box) → Prop} {fid : FuncId}

def setT (l : L) (t : Nat) (v : AV) : L := ⟨(t, v) :: l.ts, l.bs⟩
def setB (l : L) (b : Nat) (x : Box) : L := ⟨l.ts, (b, x) :: l.bs⟩
theorem setT_eq {l : L} {t : Nat} {v : AV} (h : l.get t = v) : (setT l t v).toS = l.toS := by
  apply S.ext'
  · intro i
    simp only [L.toS, L.get, setT, lookup]
    by_cases e : t = i
    · subst e; rw [if_pos rfl]; exact h.symm
    · rw [if_neg e]
  · intro i; rfl
theorem setB_eq {l : L} {b : Nat} {x : Box} (h : lookup b l.bs = some x) : (setB l b x).toS = l.toS := by
  apply S.ext'
  · intro i; rfl
  · intro i
    simp only [L.toS, setB, lookup]
    by_cases e : b = i
    · subst e; rw [if_pos rfl]; exact h.symm
    · rw [if_neg e]

/-! nils that are told as rows without elements -/
def wkC : List (Bool × Nat) → AV → AV × List (Bool × Nat)
  | (o, z) :: m, .nil => (.sl o z 0 [], m)
  | m, x => (x, m)
def wkCs : List (Bool × Nat) → List AV → List AV × List (Bool × Nat)
  | m, [] => ([], m)
  | m, x :: xs => ((wkC m x).1 :: (wkCs (wkC m x).2 xs).1, (wkCs (wkC m x).2 xs).2)
def wkU : List (Bool × Nat) → AV → AV × List (Bool × Nat)
  | [], x => (x, [])
  | m, .agg cs => (.agg (wkCs m cs).1, (wkCs m cs).2)
  | m, x => wkC m x
def wkT : List (Bool × Nat) → List AV → List AV × List (Bool × Nat)
  | m, [] => ([], m)
  | m, x :: xs => ((wkU m x).1 :: (wkT (wkU m x).2 xs).1, (wkT (wkU m x).2 xs).2)
def wkV : List (Bool × Nat) → AV → AV
  | [], x => x
  | m, .tup cs => .tup (wkT m cs).1
  | m, x => (wkU m x).1
theorem wkC_ok (m : List (Bool × Nat)) (x : AV) : WkC x (wkC m x).1 := by
  unfold wkC
  split
  · exact .inr (.inr (.inr ⟨rfl, _, _, rfl⟩))
  · exact .inl rfl
theorem wkCs_ok : ∀ (xs : List AV) (m : List (Bool × Nat)), WkCs xs (wkCs m xs).1
  | [], _ => trivial
  | x :: xs, m => ⟨wkC_ok m x, wkCs_ok xs _⟩
theorem wkU_ok (m : List (Bool × Nat)) (x : AV) : WkU x (wkU m x).1 := by
  unfold wkU
  split
  · exact .inl (.inl rfl)
  · exact .inr ⟨_, _, rfl, rfl, wkCs_ok _ _⟩
  · exact .inl (wkC_ok _ _)
theorem wkT_ok : ∀ (xs : List AV) (m : List (Bool × Nat)), WkT xs (wkT m xs).1
  | [], _ => trivial
  | x :: xs, m => ⟨wkU_ok m x, wkT_ok xs _⟩
theorem wkV_ok (m : List (Bool × Nat)) (x : AV) : WkV x (wkV m x) := by
  unfold wkV
  split
  · exact .inl (.inl (.inl rfl))
  · exact .inr ⟨_, _, rfl, rfl, wkT_ok _ _⟩
  · exact .inl (wkU_ok _ _)

/-! calls -/
def lk (bs : List (Nat × Box)) : Nat → Option Box := fun b => lookup b bs
def mtsB (s : S) : List (Nat × Nat) → Option (List (Nat × Box))
  | [] => some []
  | (i, b) :: l => match s.b b, mtsB s l with
    | some x, some r => some ((1000 + i, x) :: r)
    | _, _ => none
theorem mtsB_ok {s : S} : ∀ {l r}, mtsB s l = some r → bxOf s l = lk r := by
  intro l
  induction l with
  | nil => intro r h; simp only [mtsB, Option.some.injEq] at h; subst h; rfl
  | cons q l ih =>
    obtain ⟨i, b⟩ := q
    intro r h
    simp only [mtsB] at h
    split at h
    · rename_i hb hr
      simp only [Option.some.injEq] at h
      subst h
      funext k
      simp only [bxOf, lk, lookup, hb, ih hr]
      by_cases e : k = 1000 + i
      · rw [if_pos e, if_pos e.symm]
      · rw [if_neg e, if_neg (fun h => e h.symm)]
    · cases h

mutual
def flat : AV → Bool
  | .lit _ => true
  | .nil => true
  | .agg cs => flatL cs
  | .tup cs => flatL cs
  | _ => false
def flatL : List AV → Bool
  | [] => true
  | x :: xs => flat x && flatL xs
end
mutual
theorem flat_ok : ∀ x : AV, flat x = true → hasSh x = false
  | .lit _, _ => rfl
  | .nil, _ => rfl
  | .agg cs, h => by simp only [hasSh]; exact flatL_ok cs h
  | .tup cs, h => by simp only [hasSh]; exact flatL_ok cs h
  | .sl _ _ _ _, h => by simp [flat] at h
  | .msl _ _, h => by simp [flat] at h
  | .ptr _ _, h => by simp [flat] at h
  | .cptr _, h => by simp [flat] at h
  | .nbx _, h => by simp [flat] at h
  | .fnv _ _, h => by simp [flat] at h
  | .bad, h => by simp [flat] at h
theorem flatL_ok : ∀ xs : List AV, flatL xs = true → hasShL xs = false
  | [], _ => rfl
  | x :: xs, h => by
    simp only [flatL, Bool.and_eq_true] at h
    simp only [hasShL, flat_ok x h.1, flatL_ok xs h.2, Bool.or_self]
end

def callEH (dst : Option Nat) (p : Prep) (r : AV) (bx' : Nat → Option Box) : Option (Eff × List Prop) :=
  match backs bx' p.mts with
  | none => none
  | some pb =>
    if (pb.all fun q => cleanL q.2.cs) = false then none else
    let os : List Prop := if p.tmp.isEmpty then [] else (if flat r then [] else [hasSh r = false]) ++ (if pb.all fun q => flatL q.2.cs then [] else [(pb.any fun q => hasShL q.2.cs) = false])
    let rd := p.tmp ++ p.kl ++ p.mts.map (·.2)
    match r, dst with
    | .sl true sz n cs, some d =>
      if sz ≠ 0 ∧ d ∉ pb.map (·.1) then some ({ val := .msl d n, set := p.set, kl := d :: p.kl, put := (d, ⟨false, sz, cs⟩) :: pb, rd := rd }, os) else none
    | .nbx cs, some d => if d ∉ pb.map (·.1) then some ({ val := .ptr d 0, set := p.set, kl := d :: p.kl, put := (d, ⟨true, 0, cs⟩) :: pb, rd := rd }, os) else none
    | .bad, _ => none
    | v, _ => some ({ val := v, set := p.set, kl := p.kl, put := pb, rd := rd }, os)
theorem callEH_ok {dst : Option Nat} {p : Prep} {r : AV} {bx' : Nat → Option Box} {e : Eff} {os : List Prop} (h : callEH dst p r bx' = some (e, os)) (hp : All os) : callE dst p r bx' = some e := by
  unfold callEH at h
  unfold callE
  split at h
  · cases h
  · rename_i pb hb
    simp only [Option.ite_none_left_eq_some] at h
    obtain ⟨hc, h⟩ := h
    have key : ∀ os : List Prop, os = (if p.tmp.isEmpty then [] else (if flat r then [] else [hasSh r = false]) ++ (if pb.all fun q => flatL q.2.cs then [] else [(pb.any fun q => hasShL q.2.cs) = false])) → All os →
        ¬((p.tmp ≠ [] ∧ (hasSh r || pb.any fun q => hasShL q.2.cs) = true) ∨ (pb.all fun q => cleanL q.2.cs) = false) := by
      intro os ho hos
      rintro (⟨h1, h2⟩ | h2)
      · have : p.tmp.isEmpty = false := by simpa using h1
        rw [this] at ho
        subst ho
        simp only [Bool.false_eq_true, if_false] at hos
        rw [all_app] at hos
        have e1 : hasSh r = false := by
          by_cases e : flat r = true
          · exact flat_ok r e
          · have := hos.1; rw [if_neg e] at this; exact this.1
        have e2 : (pb.any fun q => hasShL q.2.cs) = false := by
          by_cases e : (pb.all fun q => flatL q.2.cs) = true
          · rw [List.any_eq_false]
            intro q hq
            have := flatL_ok _ (List.all_eq_true.1 e q hq)
            simp [this]
          · have := hos.2; rw [if_neg e] at this; exact this.1
        rw [e1, e2] at h2; cases h2
      · exact hc h2
    simp only [hb]
    split at h
    · simp only [Option.ite_none_right_eq_some, Option.some.injEq, Prod.mk.injEq] at h
      obtain ⟨h1, rfl, rfl⟩ := h
      rw [if_neg (key _ rfl hp)]
      simp only []
      rw [if_pos h1]
    · simp only [Option.ite_none_right_eq_some, Option.some.injEq, Prod.mk.injEq] at h
      obtain ⟨h1, rfl, rfl⟩ := h
      rw [if_neg (key _ rfl hp)]
      simp only []
      rw [if_pos h1]
    · cases h
    · rename_i hn1 hn2 hn3
      simp only [Option.some.injEq, Prod.mk.injEq] at h
      obtain ⟨rfl, rfl⟩ := h
      rw [if_neg (key _ rfl hp)]
      split <;> first | rfl | exact (hn1 _ _ _ _ rfl rfl).elim | exact (hn2 _ _ _ _ rfl rfl).elim | exact (hn1 _ _ rfl rfl).elim | exact (hn2 _ _ rfl rfl).elim | exact (hn3 _ _ rfl rfl).elim | exact (hn2 rfl).elim | exact (hn3 rfl).elim | (exfalso; simp_all)

/-- A call: what it does, and what it takes. 'm': nils among the arguments; 'ns': what lent rows come to; 'r', 'bs': what comes back. -/
def callX (P : Program) (H : Hints) (Y : FuncId → List AV → (Nat → Option Box) → AV → (Nat → Option Box) → Prop) (o : Oper) (l : L) (m : List (Bool × Nat)) (ns : List (List AV)) (r : AV) (bs : List (Nat × Box)) : Option (Eff × List Prop) :=
  match calleeOf o l.toS with
  | some (f, xs, caps) => match prepH H f l.toS ns 0 xs with
    | some (p, ns, ps) => match roCapsH l.toS.b ns caps, mtsB l.toS p.mts with
      | some (caps', _, qs), some bx => if (caps.isEmpty || p.mts.isEmpty) && (!H.fl f || callPlain l.toS p) then
          (match callEH o.dst { p with tmp := leans l.toS.b (.fnv f caps) ++ p.tmp } r (lk bs) with
          | some (e, os) => some (e, Big P H Y (.call f (wkT m (p.args ++ caps')).1 (lk bx) r (lk bs)) :: (ps ++ (qs ++ os)))
          | none => none)
        else none
      | _, _ => none
    | none => none
  | none => none

/-- One operation. -/
def opX (P : Program) (H : Hints) (Y : FuncId → List AV → (Nat → Option Box) → AV → (Nat → Option Box) → Prop) (fid : FuncId) (ops : Array Oper) (i : Nat) (l : L) (w : Option Or) : Option (L × LogE × List Prop) :=
  match ops[i]? with
  | some o => match gd ops o l.toS with
    | some true =>
      match (match w with
        | some (.call m ns r bs) => callX P H Y o l m ns r bs
        | w => opH P H fid o l.toS w) with
      | some (e, ps) => if e.kl.all (· < 1000) then some (applyL e o.dst l, mkLog ops i o l.toS e, ps) else none
      | none => none
    | some false => some (applyL skipE o.dst l, mkLog ops i o l.toS skipE, [])
    | none => none
  | none => none

variable {ops : Array Oper} {is : List Nat} {l : L} {Q : L → List LogE → Prop}
theorem opX_ok {i : Nat} {w : Option Or} {l' : L} {e : LogE} {ps : List Prop} (h : opX P H Y fid ops i l w = some (l', e, ps)) (hp : All ps)
    (h2 : WO P H Y fid ops is l' fun l'' lg => Q l'' (e :: lg)) : WO P H Y fid ops (i :: is) l Q := by
  unfold opX at h
  split at h
  · rename_i o ho
    split at h
    · rename_i hg
      split at h
      · rename_i e' ps' he
        simp only [Option.ite_none_right_eq_some, Option.some.injEq, Prod.mk.injEq] at h
        obtain ⟨hk, rfl, rfl, rfl⟩ := h
        split at he
        · unfold callX at he
          split at he
          · rename_i f xs caps hcal
            split at he
            · rename_i p ns' qs hpr
              split at he
              · rename_i caps' ns'' qs' bx hro hmb
                split at he
                · rename_i hcm
                  simp only [Bool.and_eq_true] at hcm
                  split at he
                  · rename_i e2 os hce
                    simp only [Option.some.injEq, Prod.mk.injEq] at he
                    obtain ⟨rfl, rfl⟩ := he
                    obtain ⟨hbig, hrest⟩ := hp
                    rw [all_app, all_app] at hrest
                    obtain ⟨h3, h4, h5⟩ := hrest
                    refine wo_call ho hg hcal (roCapsH_ok hro h4) (prepH_ok hpr h3) (by simpa using hcm.1) (by simpa using hcm.2) ?_ (callEH_ok hce h5) hk rfl h2
                    rw [mtsB_ok hmb]
                    exact .wka (wkT_ok _ _) hbig
                  · cases he
                · cases he
              · cases he
            · cases he
          · cases he
        · exact wo_one ho hg (opH_ok he hp) hk rfl h2
      · cases h
    · rename_i hg
      simp only [Option.some.injEq, Prod.mk.injEq] at h
      obtain ⟨rfl, rfl, rfl⟩ := h
      exact wo_skip ho hg rfl h2
    · cases h
  · cases h

/-! what is still to be done -/
inductive Td where
  | code (c : Code)
  | blk (i : Nat)
  | lp (c : Code)
  | ops (o : Array Oper) (is : List Nat)
  | opsd (o : Array Oper) (is : List Nat) (lg : List LogE)

def WX (P : Program) (H : Hints) (Y : FuncId → List AV → (Nat → Option Box) → AV → (Nat → Option Box) → Prop) (fid : FuncId) : List Td → (X → L → Prop) → X → L → Prop
  | [], Q => Q
  | .code c :: k, Q => fun x l => match x with
    | .nor => W P H Y fid c l (WX P H Y fid k Q)
    | x => WX P H Y fid k Q x l
  | .lp c :: k, Q => fun x l => match x with
    | .nor => W P H Y fid c l (WX P H Y fid k Q)
    | x => WX P H Y fid k Q x l
  | .blk i :: k, Q => fun x l => match x with
    | .nor => WX P H Y fid k Q .nor l
    | .ext j => if j = i then WX P H Y fid k Q .nor l else WX P H Y fid k Q (.ext j) l
    | .ret => WX P H Y fid k Q .ret l
  | .ops o is :: k, Q => fun x l => match x with
    | .nor => WO P H Y fid o is l fun l' _ => WX P H Y fid k Q .nor l'
    | x => WX P H Y fid k Q x l
  | .opsd o is lg :: k, Q => fun x l => match x with
    | .nor => WO P H Y fid o is l fun l' lg' => drawOk o (lg ++ lg') = true ∧ WX P H Y fid k Q .nor l'
    | x => WX P H Y fid k Q x l

def exitX (i : Nat) : List Td → Option (List Td)
  | [] => none
  | .blk j :: k => if i = j then some k else exitX i k
  | _ :: k => exitX i k

end Evl

/-! Exd -/
namespace Evl
open Go

variable {P : Program} {H : Hints} {Y : FuncId → List AV → (Nat → Option Box) → AV → (Nat → Option Box) → Prop} {fid : FuncId}

def addO {α β : Type _} (ps : List Prop) : Option (α × β × List Prop) → Option (α × β × List Prop)
  | some (k, l, qs) => some (k, l, ps ++ qs)
  | none => none

/-- What is told at the front, for an operation that stands there. -/
def front : List (Nat × Or) → Option Or × List (Nat × Or)
  | (0, w) :: q => (some w, q)
  | (g + 1, w) :: q => (none, (g, w) :: q)
  | [] => (none, [])

def virtL (i b sz : Nat) (l : L) : L := applyL { val := .msl b 0, kl := [b], put := [(b, ⟨true, sz, []⟩)] } (some i) l
def virtcL (k : Nat) (y : Box) (j b sz : Nat) (l : L) : L := applyL { val := .bad, kl := [b], put := [(b, ⟨true, sz, []⟩), (k, { y with cs := (killL b y.cs).set j (.msl b 0) })] } none l

def adoptL (i b n sz : Nat) (cs : List AV) (l : L) : L := applyL { val := .msl b n, kl := [b], put := [(b, ⟨false, sz, cs⟩)] } (some i) l

def adoptcL (k : Nat) (y : Box) (j b n sz : Nat) (cs : List AV) (l : L) : L := applyL { val := .bad, kl := [b], put := [(b, ⟨false, sz, cs⟩), (k, { y with cs := (killL b y.cs).set j (.msl b n) })] } none l

/-! a local row that nobody looks into -/
def lkP : AV → Option (List Prop)
  | .sl false _ n cs => some [n = cs.length ∧ ∀ c ∈ cs, isU8 c = true]
  | .lit _ => some []
  | .nil => some []
  | .msl _ _ => some []
  | .ptr _ _ => some []
  | .bad => some []
  | _ => none
def lkPs : List AV → Option (List Prop)
  | [] => some []
  | x :: xs => match lkP x, lkPs xs with
    | some a, some b => some (a ++ b)
    | _, _ => none
theorem lkP_ok {x : AV} {ps : List Prop} (h : lkP x = some ps) (hp : All ps) : byLk x := by
  unfold lkP at h
  split at h <;> first
    | (cases h; exact hp.1)
    | trivial
    | cases h
theorem lkPs_ok : ∀ {l : List AV} {ps : List Prop}, lkPs l = some ps → All ps → ∀ x ∈ l, byLk x
  | [], _, _, _ => by simp
  | x :: xs, ps, h, hp => by
    simp only [lkPs] at h
    split at h
    · rename_i a b ha hb
      cases h
      rw [all_app] at hp
      intro y hy
      rcases List.mem_cons.1 hy with rfl | hy
      · exact lkP_ok ha hp.1
      · exact lkPs_ok hb hp.2 y hy
    · cases h
theorem lkup_pr {α : Type} {t : Nat} : ∀ {l : List (Nat × α)} {x : α}, lookup t l = some x → (t, x) ∈ l
  | [], _, h => by simp [lookup] at h
  | (k, y) :: l, x, h => by
    simp only [lookup] at h
    split at h
    · rename_i e; subst e; cases h; exact List.mem_cons_self
    · exact List.mem_cons_of_mem _ (lkup_pr h)
def openL (b : Nat) (y : Box) (l : L) : L := ⟨l.ts, (b, { y with st := true }) :: l.bs⟩
theorem openL_ok (b : Nat) (y : Box) (l : L) : (openL b y l).toS = openS b y l.toS := by
  apply S.ext'
  · intro i; rfl
  · intro i
    simp only [L.toS, openL, openS, lookup]
    by_cases e : b = i
    · rw [if_pos e, if_pos e.symm]
    · rw [if_neg e, if_neg (fun h => e h.symm)]
def firsts {α : Type} : List Nat → List (Nat × α) → List (Nat × α)
  | _, [] => []
  | sn, (k, x) :: l => if sn.contains k then firsts sn l else (k, x) :: firsts (k :: sn) l
theorem firsts_in {α : Type} {k : Nat} {x : α} : ∀ {l : List (Nat × α)} {sn : List Nat}, lookup k l = some x → k ∉ sn → (k, x) ∈ firsts sn l
  | [], _, h, _ => by simp [lookup] at h
  | (j, y) :: l, sn, h, hs => by
    simp only [lookup] at h
    simp only [firsts]
    split at h
    · rename_i e; subst e; cases h
      rw [if_neg (by simpa using hs)]; exact List.mem_cons_self
    · rename_i e
      split
      · exact firsts_in h hs
      · exact List.mem_cons_of_mem _ (firsts_in h (by simp only [List.mem_cons, not_or]; exact ⟨fun e' => e e'.symm, hs⟩))
def othB (b : Nat) (l : L) : List AV := ((firsts [] l.bs).filter fun r => r.1 != b).flatMap fun r => r.2.cs
def othT (l : L) : List AV := (firsts [] l.ts).map (·.2)
theorem lk_ts {l : L} {ps : List Prop} (h : lkPs (othT l) = some ps) (hp : All ps) (t : Nat) : byLk (l.toS.t t) := by
  show byLk (l.get t)
  unfold L.get
  split
  · rename_i x hx
    exact lkPs_ok h hp x (List.mem_map.2 ⟨_, firsts_in hx (by simp), rfl⟩)
  · trivial
theorem lk_bs {l : L} {b : Nat} {ps : List Prop} (h : lkPs (othB b l) = some ps) (hp : All ps) : ∀ k x, l.toS.b k = some x → k ≠ b → ∀ c ∈ x.cs, byLk c := fun k x hk hb c hc =>
  lkPs_ok h hp c (List.mem_flatMap.2 ⟨(k, x), List.mem_filter.2 ⟨firsts_in hk (by simp), by simpa using hb⟩, hc⟩)
def shutL (b : Nat) (y : Box) (l : L) : L := applyL { val := .bad, put := [(b, { y with st := false })] } none l
def renLs (b d : Nat) (l : L) : L where
  ts := l.ts.map fun q => (q.1, ren b d q.2)
  bs := l.bs.map fun q => (renI b d q.1, renB b d q.2)
theorem renI_inj {b d k j : Nat} (h : renI b d k = renI b d j) : k = j := by rw [← renI_renI b d k, h, renI_renI]
theorem renLs_ok (b d : Nat) (l : L) : (renLs b d l).toS = renS b d l.toS := by
  apply S.ext'
  · intro i
    have : ∀ m : List (Nat × AV), (match lookup i (m.map fun q => (q.1, ren b d q.2)) with | some v => v | none => .bad) = ren b d (match lookup i m with | some v => v | none => .bad) := by
      intro m
      rw [lookup_map]
      cases lookup i m with
      | none => rfl
      | some v => rfl
    exact this l.ts
  · intro k
    have : ∀ m : List (Nat × Box), lookup k (m.map fun q => (renI b d q.1, renB b d q.2)) = (lookup (renI b d k) m).map (renB b d) := by
      intro m
      induction m with
      | nil => rfl
      | cons q m ih =>
        obtain ⟨j, x⟩ := q
        simp only [List.map_cons, lookup]
        by_cases h : renI b d j = k
        · rw [if_pos h, if_pos (by rw [← h, renI_renI])]; rfl
        · rw [if_neg h, if_neg (fun e => h (by rw [e, renI_renI]))]; exact ih
    exact this l.bs

/-- At most n steps; it ends where n is used up, and what was told with it. -/
def ex (P : Program) (H : Hints) (Y : FuncId → List AV → (Nat → Option Box) → AV → (Nat → Option Box) → Prop) (fid : FuncId) : Nat → List Td → L → List (Nat × Or) → Option (List Td × L × List Prop)
  | 0, k, l, q => match q with
    | [] => some (k, l, [])
    | _ => none
  | n + 1, k, l, q => match k with
    | .code c :: k => match q with
      | (0, .virt i b sz) :: q => addO [l.get i = .nil, b < 1000 ∧ sz ≠ 0] (ex P H Y fid n (.code c :: k) (virtL i b sz l) q)
      | (0, .virtc a y j b sz) :: q => addO [lookup a l.bs = some y, y.cs[j]? = some .nil ∧ y.sz = 0 ∧ a ≠ b ∧ b < 1000 ∧ sz ≠ 0] (ex P H Y fid n (.code c :: k) (virtcL a y j b sz l) q)
      | (0, .adopt i b m sz cs) :: q => addO [l.get i = .sl true sz m cs, b < 1000 ∧ sz ≠ 0] (ex P H Y fid n (.code c :: k) (adoptL i b m sz cs l) q)
      | (0, .adoptc a y j b m sz cs) :: q => addO [lookup a l.bs = some y, y.cs[j]? = some (.sl true sz m cs) ∧ y.sz = 0 ∧ a ≠ b ∧ b < 1000 ∧ sz ≠ 0] (ex P H Y fid n (.code c :: k) (adoptcL a y j b m sz cs l) q)
      | (0, .openb b y) :: q => match lkPs (othT l), lkPs (othB b l) with
        | some ps, some qs => addO ([lookup b l.bs = some y ∧ y.sz ≠ 0 ∧ H.fl fid = true, ∀ c ∈ y.cs, isU8 c = false, hasShL y.cs = false] ++ (ps ++ qs)) (ex P H Y fid n (.code c :: k) (openL b y l) q)
        | _, _ => none
      | (0, .ren b d) :: q => addO [b < 1000 ∧ d < 1000] (ex P H Y fid n (.code c :: k) (renLs b d l) q)
      | (0, .shutb b y) :: q => addO [lookup b l.bs = some y, y.sz ≠ 0] (ex P H Y fid n (.code c :: k) (shutL b y l) q)
      | (0, .fix t v) :: q => addO [l.get t = v] (ex P H Y fid n (.code c :: k) (setT l t v) q)
      | (0, .fixb b x) :: q => addO [lookup b l.bs = some x] (ex P H Y fid n (.code c :: k) (setB l b x) q)
      | (0, .wkb b y x) :: q => addO [lookup b l.bs = some y, WkB y x] (ex P H Y fid n (.code c :: k) (setB l b x) q)
      | q => match c with
        | .seq a b => ex P H Y fid n (.code a :: .code b :: k) l q
        | .skip => ex P H Y fid n k l q
        | .block i a => ex P H Y fid n (.code a :: .blk i :: k) l q
        | .region _ o false => ex P H Y fid n (.ops o (List.range o.size) :: k) l q
        | .region _ o true => ex P H Y fid n (.opsd o (List.range o.size) [] :: k) l q
        | .cond c a b => match l.toS.ev c with
          | .lit (.bool true) => ex P H Y fid n (.code a :: k) l q
          | .lit (.bool false) => ex P H Y fid n (.code b :: k) l q
          | _ => none
        | .exit i => match exitX i k with
          | some k' => ex P H Y fid n k' l q
          | none => none
        | .loop a => ex P H Y fid n (.code a :: .lp (.loop a) :: k) l q
        | _ => none
    | .lp c :: k => ex P H Y fid n (.code c :: k) l q
    | .blk _ :: k => ex P H Y fid n k l q
    | .ops _ [] :: k => ex P H Y fid n k l q
    | .ops o (i :: is) :: k => match q with
      | (0, .fix t v) :: q => addO [l.get t = v] (ex P H Y fid n (.ops o (i :: is) :: k) (setT l t v) q)
      | (0, .fixb b x) :: q => addO [lookup b l.bs = some x] (ex P H Y fid n (.ops o (i :: is) :: k) (setB l b x) q)
      | q => match opX P H Y fid o i l (front q).1 with
        | some (l', _, ps) => addO ps (ex P H Y fid n (.ops o is :: k) l' (front q).2)
        | none => none
    | .opsd o [] lg :: k => if drawOk o lg then ex P H Y fid n k l q else none
    | .opsd o (i :: is) lg :: k => match q with
      | (0, .fix t v) :: q => addO [l.get t = v] (ex P H Y fid n (.opsd o (i :: is) lg :: k) (setT l t v) q)
      | (0, .fixb b x) :: q => addO [lookup b l.bs = some x] (ex P H Y fid n (.opsd o (i :: is) lg :: k) (setB l b x) q)
      | q => match opX P H Y fid o i l (front q).1 with
        | some (l', e, ps) => addO ps (ex P H Y fid n (.opsd o is (lg ++ [e]) :: k) l' (front q).2)
        | none => none
    | [] => none

theorem addO_some {α β : Type _} {ps : List Prop} {x : Option (α × β × List Prop)} {k l rs} (h : addO ps x = some (k, l, rs)) : ∃ qs, x = some (k, l, qs) ∧ rs = ps ++ qs := by
  unfold addO at h
  split at h
  · simp only [Option.some.injEq, Prod.mk.injEq] at h
    obtain ⟨rfl, rfl, rfl⟩ := h
    exact ⟨_, rfl, rfl⟩
  · cases h

theorem wx_code_toS {c : Code} {k : List Td} {Q : X → L → Prop} {l u : L} (e : u.toS = l.toS) (h : WX P H Y fid (.code c :: k) Q .nor u) : WX P H Y fid (.code c :: k) Q .nor l := by
  obtain ⟨x, l1, hb, hq⟩ := h
  rw [e] at hb
  exact ⟨x, l1, hb, hq⟩
theorem W.toS {c : Code} {K : X → L → Prop} {l u : L} (e : u.toS = l.toS) (h : W P H Y fid c u K) : W P H Y fid c l K := by
  obtain ⟨x, l1, hb, hq⟩ := h
  rw [e] at hb
  exact ⟨x, l1, hb, hq⟩
theorem wo_toS {ops : Array Oper} {is : List Nat} {Q : L → List LogE → Prop} {l u : L} (e : u.toS = l.toS) (h : WO P H Y fid ops is u Q) : WO P H Y fid ops is l Q := by
  unfold WO at h ⊢
  rw [e] at h; exact h

theorem ex_ok {Q : X → L → Prop} : ∀ n {k l q k' l' ps}, ex P H Y fid n k l q = some (k', l', ps) → All ps → WX P H Y fid k' Q .nor l' → WX P H Y fid k Q .nor l := by
  intro n
  induction n with
  | zero =>
    intro k l q k' l' ps h _ hw
    simp only [ex] at h
    split at h
    · simp only [Option.some.injEq, Prod.mk.injEq] at h; obtain ⟨rfl, rfl, -⟩ := h; exact hw
    · cases h
  | succ n ih =>
    intro k l q k' l' ps h hp hw
    simp only [ex] at h
    split at h
    · rename_i c k
      split at h
      · obtain ⟨qs, h1, rfl⟩ := addO_some h
        obtain ⟨p1, p2, p3⟩ := hp
        obtain ⟨x, l1, hb, hq⟩ := ih h1 p3 hw
        unfold virtL at hb
        rw [applyL_ok] at hb
        exact ⟨x, l1, .virt _ _ _ p1 p2.1 p2.2 hb, hq⟩
      · obtain ⟨qs, h1, rfl⟩ := addO_some h
        obtain ⟨p1, p2, p3⟩ := hp
        obtain ⟨x, l1, hb, hq⟩ := ih h1 p3 hw
        unfold virtcL at hb
        rw [applyL_ok] at hb
        exact ⟨x, l1, .virtc _ _ _ _ _ p1 p2.1 p2.2.1 p2.2.2.1 p2.2.2.2.1 p2.2.2.2.2 hb, hq⟩
      · obtain ⟨qs, h1, rfl⟩ := addO_some h
        obtain ⟨p1, p2, p3⟩ := hp
        obtain ⟨x, l1, hb, hq⟩ := ih h1 p3 hw
        unfold adoptL at hb
        rw [applyL_ok] at hb
        exact ⟨x, l1, .adopt _ _ _ _ _ p1 p2.1 p2.2 hb, hq⟩
      · obtain ⟨qs, h1, rfl⟩ := addO_some h
        obtain ⟨p1, p2, p3⟩ := hp
        obtain ⟨x, l1, hb, hq⟩ := ih h1 p3 hw
        unfold adoptcL at hb
        rw [applyL_ok] at hb
        exact ⟨x, l1, .adoptc _ _ _ _ _ _ _ p1 p2.1 p2.2.1 p2.2.2.1 p2.2.2.2.1 p2.2.2.2.2 hb, hq⟩
      · split at h
        · rename_i ps qs e1 e2
          obtain ⟨rs, h1, rfl⟩ := addO_some h
          obtain ⟨p1, p2, p3, p4⟩ := hp
          have p5 : All ((ps ++ qs) ++ rs) := p4
          rw [all_app, all_app] at p5
          obtain ⟨x, l1, hb, hq⟩ := ih h1 p5.2 hw
          rw [openL_ok] at hb
          exact ⟨x, l1, .openb _ _ p1.2.2 p1.1 p1.2.1 (lk_ts e1 p5.1.1) (lk_bs e2 p5.1.2) p2 p3 hb, hq⟩
        · cases h
      · obtain ⟨qs, h1, rfl⟩ := addO_some h
        obtain ⟨p1, p3⟩ := hp
        obtain ⟨x, l1, hb, hq⟩ := ih h1 p3 hw
        rw [renLs_ok] at hb
        exact ⟨x, l1, .ren _ _ p1.1 p1.2 hb, hq⟩
      · obtain ⟨qs, h1, rfl⟩ := addO_some h
        obtain ⟨p1, p2, p3⟩ := hp
        obtain ⟨x, l1, hb, hq⟩ := ih h1 p3 hw
        unfold shutL at hb
        rw [applyL_ok] at hb
        exact ⟨x, l1, .shutb _ _ p1 p2 hb, hq⟩
      · obtain ⟨qs, h1, rfl⟩ := addO_some h
        exact wx_code_toS (setT_eq hp.1) (ih h1 hp.2 hw)
      · obtain ⟨qs, h1, rfl⟩ := addO_some h
        exact wx_code_toS (setB_eq hp.1) (ih h1 hp.2 hw)
      · obtain ⟨qs, h1, rfl⟩ := addO_some h
        obtain ⟨p1, p2, p3⟩ := hp
        obtain ⟨x, l1, hb, hq⟩ := ih h1 p3 hw
        refine ⟨x, l1, Big.wks ?_ hb, hq⟩
        refine ⟨fun i => .inl (.inl (.inl rfl)), fun b' z hz => ?_⟩
        simp only [L.toS, setB, lookup] at hz
        split at hz
        · rename_i e; subst e
          simp only [Option.some.injEq] at hz; subst hz
          exact ⟨_, p1, p2⟩
        · exact ⟨z, hz, rfl, rfl, wkCs_refl _⟩
      · split at h
        · refine w_seq rfl (W.mono (ih h hp hw) fun x l h => ?_)
          cases x <;> exact h
        · exact w_skip rfl (ih h hp hw)
        · refine w_block rfl (W.mono (ih h hp hw) fun x l h => ?_)
          cases x <;> exact h
        · exact w_region rfl (ih h hp hw)
        · exact w_draw rfl (ih h hp hw)
        · split at h
          · rename_i hc; exact w_cond rfl (b := true) hc (fun _ => ih h hp hw) (fun e => by cases e)
          · rename_i hc; exact w_cond rfl (b := false) hc (fun e => by cases e) (fun _ => ih h hp hw)
          · cases h
        · split at h
          · rename_i i k1 hx
            refine w_exit rfl ?_
            have hk := ih h hp hw
            clear h hw
            induction k with
            | nil => cases hx
            | cons f k ihk =>
              cases f with
              | blk j =>
                simp only [exitX] at hx
                show (if _ = j then _ else _)
                split at hx
                · rename_i e; cases hx; rw [if_pos e]; exact hk
                · rename_i e; rw [if_neg e]; exact ihk hx
              | _ => exact ihk hx
          · cases h
        · have hk := ih h hp hw
          obtain ⟨x, l1, hb, hq⟩ := hk
          cases x with
          | nor =>
            obtain ⟨x', l2, hb', hq'⟩ := hq
            exact ⟨x', l2, .loopn hb hb', hq'⟩
          | ext id => exact ⟨_, l1, .loopx hb (by simp), hq⟩
          | ret => exact ⟨_, l1, .loopx hb (by simp), hq⟩
        · cases h
    · have := ih h hp hw; exact this
    · have := ih h hp hw; exact this
    · exact wo_nil (ih h hp hw)
    · split at h
      · obtain ⟨qs, h1, rfl⟩ := addO_some h
        exact wo_toS (setT_eq hp.1) (ih h1 hp.2 hw)
      · obtain ⟨qs, h1, rfl⟩ := addO_some h
        exact wo_toS (setB_eq hp.1) (ih h1 hp.2 hw)
      · split at h
        · rename_i ho
          obtain ⟨qs, h1, rfl⟩ := addO_some h
          rw [all_app] at hp
          exact opX_ok ho hp.1 (ih h1 hp.2 hw)
        · cases h
    · split at h
      · rename_i hd
        exact wo_nil ⟨by rw [List.append_nil]; exact hd, ih h hp hw⟩
      · cases h
    · split at h
      · obtain ⟨qs, h1, rfl⟩ := addO_some h
        exact wo_toS (setT_eq hp.1) (ih h1 hp.2 hw)
      · obtain ⟨qs, h1, rfl⟩ := addO_some h
        exact wo_toS (setB_eq hp.1) (ih h1 hp.2 hw)
      · split at h
        · rename_i ho
          obtain ⟨qs, h1, rfl⟩ := addO_some h
          rw [all_app] at hp
          refine opX_ok ho hp.1 ?_
          have := ih h1 hp.2 hw
          obtain ⟨l2, lg2, hb, hd, hq⟩ := this
          exact ⟨l2, lg2, hb, by rw [List.append_assoc] at hd; exact hd, hq⟩
        · cases h
    · cases h

/-- Only frames at which less may be told. -/
def lookAt : List Td → Bool
  | .code _ :: _ => true
  | .lp _ :: _ => true
  | .blk _ :: k => lookAt k
  | _ => false
theorem wx_look {Q : X → L → Prop} {l u : L} (h : look u l = seen u) : ∀ {k : List Td}, lookAt k = true → WX P H Y fid k Q .nor u → WX P H Y fid k Q .nor l := by
  intro k
  induction k with
  | nil => intro hk; cases hk
  | cons f k ih =>
    intro hk hw
    cases f with
    | code c => exact w_look u h hw
    | lp c => exact w_look u h hw
    | blk i => exact ih hk hw
    | ops o is => cases hk
    | opsd o is lg => cases hk

/-- What is to be shown, shut: nothing looks into it by the way. -/
structure Wk (P : Program) (H : Hints) (Y : FuncId → List AV → (Nat → Option Box) → AV → (Nat → Option Box) → Prop) (fid : FuncId) (k : List Td) (Q : X → L → Prop) (l : L) : Prop where
  out : WX P H Y fid k Q .nor l

/-- To a state that is told. -/
theorem x_to (n : Nat) (q : List (Nat × Or)) {k k' : List Td} {l u : L} {ps : List Prop} {Q : X → L → Prop} (hobs : All ps) (hw : Wk P H Y fid k' Q u)
    (h : (ex P H Y fid n k l q).map (fun r => (r.1, look u r.2.1, r.2.2, lookAt r.1)) = some (k', seen u, ps, true)) : Wk P H Y fid k Q l := by
  obtain ⟨⟨k1, l1, ps1⟩, h1, h2⟩ := Option.map_eq_some_iff.1 h
  simp only [Prod.mk.injEq] at h2
  obtain ⟨rfl, h3, rfl, h4⟩ := h2
  exact ⟨ex_ok n h1 hobs (wx_look h3 h4 hw.out)⟩

/-- Where the way forks. -/
def forkX : List Td → L → Option (AV × (List Td × L) × (List Td × L))
  | .code (.cond (.tmp t) a b) :: k, l => some (l.get t, (.code a :: k, setT l t (.lit (.bool true))), (.code b :: k, setT l t (.lit (.bool false))))
  | .ops o (i :: is) :: k, l => match (o[i]?).bind (·.guard) with
    | some (j, _) => match (o[j]?).bind (·.dst) with
      | some t => some (l.get t, (.ops o (i :: is) :: k, setT l t (.lit (.bool true))), (.ops o (i :: is) :: k, setT l t (.lit (.bool false))))
      | none => none
    | none => none
  | .opsd o (i :: is) lg :: k, l => match (o[i]?).bind (·.guard) with
    | some (j, _) => match (o[j]?).bind (·.dst) with
      | some t => some (l.get t, (.opsd o (i :: is) lg :: k, setT l t (.lit (.bool true))), (.opsd o (i :: is) lg :: k, setT l t (.lit (.bool false))))
      | none => none
    | none => none
  | _, _ => none
theorem forkX_ok {Q : X → L → Prop} {k : List Td} {l : L} {v : Bool} {kt kf : List Td} {lt lf : L} (h : forkX k l = some (.lit (.bool v), (kt, lt), (kf, lf)))
    (ht : v = true → WX P H Y fid kt Q .nor lt) (hf : v = false → WX P H Y fid kf Q .nor lf) : WX P H Y fid k Q .nor l := by
  unfold forkX at h
  split at h
  · rename_i t a b k
    simp only [Option.some.injEq, Prod.mk.injEq] at h
    obtain ⟨hv, ⟨rfl, rfl⟩, rfl, rfl⟩ := h
    refine w_cond (b := v) rfl hv (fun e => ?_) (fun e => ?_)
    · subst e; exact W.toS (setT_eq hv) (ht rfl)
    · subst e; exact W.toS (setT_eq hv) (hf rfl)
  · split at h
    · split at h
      · simp only [Option.some.injEq, Prod.mk.injEq] at h
        obtain ⟨hv, ⟨rfl, rfl⟩, rfl, rfl⟩ := h
        cases v with
        | true => exact wo_toS (setT_eq hv) (ht rfl)
        | false => exact wo_toS (setT_eq hv) (hf rfl)
      · cases h
    · cases h
  · split at h
    · split at h
      · simp only [Option.some.injEq, Prod.mk.injEq] at h
        obtain ⟨hv, ⟨rfl, rfl⟩, rfl, rfl⟩ := h
        cases v with
        | true => exact wo_toS (setT_eq hv) (ht rfl)
        | false => exact wo_toS (setT_eq hv) (hf rfl)
      · cases h
    · cases h
  · cases h

/-- The two ways behind a fork, as they come. -/
def frkK (b : Bool) (r : Option (List Td × L × List Prop)) : List Td :=
  match r with
  | some (k, l, _) => match forkX k l with
    | some (_, t, f) => if b then t.1 else f.1
    | none => []
  | none => []
def frkL (b : Bool) (r : Option (List Td × L × List Prop)) : L :=
  match r with
  | some (k, l, _) => match forkX k l with
    | some (_, t, f) => if b then t.2 else f.2
    | none => ⟨[], []⟩
  | none => ⟨[], []⟩
theorem x_frk (n : Nat) (q : List (Nat × Or)) {k : List Td} {l : L} {v : Bool} {ps : List Prop} {Q : X → L → Prop} {α : Type} {A B : Option α} {r : α} (hobs : All ps) (h : frk v A B = some r)
    (hx : (ex P H Y fid n k l q).bind (fun r => (forkX r.1 r.2.1).map fun f => (f.1, r.2.2)) = some (.lit (.bool v), ps))
    (ht : A = some r → Wk P H Y fid (frkK true (ex P H Y fid n k l q)) Q (frkL true (ex P H Y fid n k l q)))
    (hf : B = some r → Wk P H Y fid (frkK false (ex P H Y fid n k l q)) Q (frkL false (ex P H Y fid n k l q))) : Wk P H Y fid k Q l := by
  obtain ⟨⟨k1, l1, ps1⟩, h1, h2⟩ := Option.bind_eq_some_iff.1 hx
  obtain ⟨⟨a, ⟨kt, lt⟩, kf, lf⟩, h3, h4⟩ := Option.map_eq_some_iff.1 h2
  simp only [Prod.mk.injEq] at h4
  obtain ⟨rfl, rfl⟩ := h4
  simp only [frkK, frkL, h1, h3] at ht hf
  refine ⟨ex_ok n h1 hobs (forkX_ok h3 (fun e => ?_) (fun e => ?_))⟩
  · exact (ht (frk_true e h)).out
  · exact (hf (frk_false e h)).out

/-! a function's end -/
def resEH (P : Program) (s : S) : ResultVar → Option ((AV × List Nat × List Nat) × List Prop)
  | .tmp t => match s.t t with
    | .msl r n => match freezeH s.b [.msl r n] with
      | some (([y], ks), ps) => some ((y, ks, [t]), ps)
      | _ => none
    | .agg cs => match freezeH s.b cs with
      | some ((ys, ks), ps) => some ((.agg ys, ks, [t]), ps)
      | none => none
    | .ptr b 0 => match s.b b with
      | some x => if b < 1000 ∧ x.sz = 0 ∧ x.st = true ∧ cleanL x.cs then some ((.nbx x.cs, [b], [t]), []) else none
      | none => none
    | .lit v => some ((.lit v, [], [t]), [])
    | .nil => some ((.nil, [], [t]), [])
    | .sl o sz n cs => some ((.sl o sz n cs, [], [t]), [])
    | _ => none
  | .cell a t => match s.t a, tsize P t, tagg P t with
    | .ptr b 0, some k, some ag => match s.b b with
      | some x => if b < 1000 ∧ x.cs.length = k ∧ x.sz = 0 then
          match freezeH s.b x.cs with
          | some ((ys, ks), ps) => if b ∈ ks then none else
            (match ag, ys with
            | true, _ => some ((.agg ys, b :: ks, []), ps)
            | false, [y] => some ((y, b :: ks, []), ps)
            | _, _ => none)
          | none => none
        else none
      | none => none
    | _, _, _ => none
theorem resEH_ok {s : S} {v : ResultVar} {r ps} (h : resEH P s v = some (r, ps)) (hp : All ps) : resE P s v = some r := by
  unfold resEH at h
  split at h
  · split at h
    · rename_i hv
      split at h
      · rename_i hf
        simp only [Option.some.injEq, Prod.mk.injEq] at h
        obtain ⟨rfl, rfl⟩ := h
        simp only [resE, hv, freezeH_ok hf hp]
      · cases h
    · rename_i hv
      split at h
      · rename_i hf
        simp only [Option.some.injEq, Prod.mk.injEq] at h
        obtain ⟨rfl, rfl⟩ := h
        simp only [resE, hv, freezeH_ok hf hp]
      · cases h
    · rename_i hv
      split at h
      · rename_i hb
        simp only [Option.ite_none_right_eq_some, Option.some.injEq, Prod.mk.injEq] at h
        obtain ⟨hc, rfl, rfl⟩ := h
        simp only [resE, hv, hb]
        rw [if_pos hc]
      · cases h
    · rename_i hv
      simp only [Option.some.injEq, Prod.mk.injEq] at h
      obtain ⟨rfl, rfl⟩ := h
      simp only [resE, hv]
    · rename_i hv
      simp only [Option.some.injEq, Prod.mk.injEq] at h
      obtain ⟨rfl, rfl⟩ := h
      simp only [resE, hv]
    · rename_i hv
      simp only [Option.some.injEq, Prod.mk.injEq] at h
      obtain ⟨rfl, rfl⟩ := h
      simp only [resE, hv]
    · cases h
  · split at h
    · rename_i hv ht hg
      split at h
      · rename_i hb
        simp only [Option.ite_none_right_eq_some] at h
        obtain ⟨hc, h⟩ := h
        split at h
        · rename_i hf
          simp only [Option.ite_none_left_eq_some] at h
          obtain ⟨hn, h⟩ := h
          split at h
          · simp only [Option.some.injEq, Prod.mk.injEq] at h
            obtain ⟨rfl, rfl⟩ := h
            simp only [resE, hv, ht, hg, hb]
            rw [if_pos hc]
            simp only [freezeH_ok hf hp]
            rw [if_neg hn]
          · simp only [Option.some.injEq, Prod.mk.injEq] at h
            obtain ⟨rfl, rfl⟩ := h
            simp only [resE, hv, ht, hg, hb]
            rw [if_pos hc]
            simp only [freezeH_ok hf hp]
            rw [if_neg hn]
          · cases h
        · cases h
      · cases h
    · cases h
def resLH (P : Program) (s : S) : List ResultVar → Option ((List AV × List Nat × List Nat) × List Prop)
  | [] => some (([], [], []), [])
  | x :: xs => match resEH P s x, resLH P s xs with
    | some ((v, ks, ts), ps), some ((vs, ls, us), qs) => if disj ks ls && disj ts us && ks.all (· < 1000) then some ((v :: vs, ks ++ ls, ts ++ us), ps ++ qs) else none
    | _, _ => none
theorem resLH_ok {s : S} : ∀ {l r ps}, resLH P s l = some (r, ps) → All ps → resL P s l = some r := by
  intro l
  induction l with
  | nil => intro r ps h _; simp only [resLH, Option.some.injEq, Prod.mk.injEq] at h; rw [← h.1]; rfl
  | cons x l ih =>
    intro r ps h hp
    simp only [resLH] at h
    split at h
    · rename_i h1 h2
      simp only [Option.ite_none_right_eq_some, Option.some.injEq, Prod.mk.injEq] at h
      obtain ⟨hc, rfl, rfl⟩ := h
      rw [all_app] at hp
      simp only [resL, resEH_ok h1 hp.1, ih h2 hp.2]
      rw [if_pos hc]
    · cases h
def resH (P : Program) (s : S) (m : List (Bool × Nat)) (l : List ResultVar) : Option (AV × List Prop) :=
  match resLH P s l with
  | some (([v], _, _), ps) => some (wkV m v, ps)
  | some ((vs, _, _), ps) => if vs.any isNbx then none else some (wkV m (.tup vs), ps)
  | none => none
theorem resH_ok {s : S} {m : List (Bool × Nat)} {l : List ResultVar} {r ps} (h : resH P s m l = some (r, ps)) (hp : All ps) : ∃ v, resOf P s l = some v ∧ WkV v r := by
  unfold resH at h
  split at h
  · rename_i hl
    simp only [Option.some.injEq, Prod.mk.injEq] at h
    obtain ⟨rfl, rfl⟩ := h
    exact ⟨_, by simp only [resOf, resLH_ok hl hp], wkV_ok _ _⟩
  · rename_i hn hl
    simp only [Option.ite_none_left_eq_some, Option.some.injEq, Prod.mk.injEq] at h
    obtain ⟨hc, rfl, rfl⟩ := h
    refine ⟨_, ?_, wkV_ok _ _⟩
    simp only [resOf, resLH_ok hl hp]
    rw [if_neg hc]
  · cases h

/-- The borrowed boxes at the end. -/
def backB (s : S) : List (Nat × Box) → Option (List (Nat × Box))
  | [] => some []
  | (i, x) :: l => match s.b i, backB s l with
    | some y, some r => if 1000 ≤ i ∧ cleanL y.cs = true ∧ y.sz = x.sz ∧ y.st = true ∧ y.cs.length = x.cs.length then some ((i, y) :: r) else none
    | _, _ => none
theorem backB_ok {s : S} : ∀ {bs bs'}, backB s bs = some bs' → exitOk (lk bs) s ∧ exitB (lk bs) s = lk bs' := by
  intro bs
  induction bs with
  | nil => intro bs' h; simp only [backB, Option.some.injEq] at h; subst h; exact ⟨fun i x h => (by cases h), rfl⟩
  | cons q bs ih =>
    obtain ⟨i, x⟩ := q
    intro bs' h
    simp only [backB] at h
    split at h
    · rename_i y r hb hr
      simp only [Option.ite_none_right_eq_some, Option.some.injEq] at h
      obtain ⟨⟨h1, h2, h3, h4, h5⟩, rfl⟩ := h
      obtain ⟨i1, i2⟩ := ih hr
      refine ⟨fun j z hz => ?_, funext fun j => ?_⟩
      · simp only [lk, lookup] at hz
        split at hz
        · rename_i e; subst e
          simp only [Option.some.injEq] at hz; subst hz
          exact ⟨h1, y, hb, h2, h3, h4, h5⟩
        · exact i1 j z hz
      · have := congrFun i2 j
        simp only [exitB, lk, lookup] at this ⊢
        by_cases e : i = j
        · subst e; simp only [if_pos rfl]; simpa using hb
        · simp only [if_neg e]; exact this
    · cases h

def FinX (P : Program) (fn : Func) (bs : List (Nat × Box)) (r : AV) (bs' : List (Nat × Box)) : X → L → Prop := fun x l' => (x = .nor ∨ x = .ret) ∧ (∃ v, resOf P l'.toS fn.results.toList = some v ∧ WkV v r) ∧ exitOk (lk bs) l'.toS ∧ exitB (lk bs) l'.toS = lk bs'
def atEnd : List Td → Bool
  | [] => true
  | .code .ret :: _ => true
  | .blk _ :: k => atEnd k
  | _ => false
theorem wx_ret {Q : X → L → Prop} {l : L} : ∀ {k : List Td}, Q .ret l → WX P H Y fid k Q .ret l := by
  intro k hq
  induction k with
  | nil => exact hq
  | cons f k ih => cases f <;> exact ih
theorem wx_end {Q : X → L → Prop} {l : L} (h1 : Q .nor l) (h2 : Q .ret l) : ∀ {k : List Td}, atEnd k = true → WX P H Y fid k Q .nor l := by
  intro k
  induction k with
  | nil => intro _; exact h1
  | cons f k ih =>
    intro h
    cases f with
    | code c => cases c <;> first | (cases h; done) | exact w_ret rfl (wx_ret h2)
    | blk i => exact ih h
    | lp c => cases h
    | ops o is => cases h
    | opsd o is lg => cases h
theorem x_end (n : Nat) (q : List (Nat × Or)) (m : List (Bool × Nat)) {k : List Td} {l : L} {fn : Func} {bs bs' : List (Nat × Box)} {r : AV} {ps os : List Prop} (hobs : All ps) (hos : All os)
    (h : (ex P H Y fid n k l q).bind (fun x => match resH P x.2.1.toS m fn.results.toList, backB x.2.1.toS bs with
      | some (v, os), some bs' => some (atEnd x.1, v, bs', x.2.2, os)
      | _, _ => none) = some (true, r, bs', ps, os)) : Wk P H Y fid k (FinX P fn bs r bs') l := by
  obtain ⟨⟨k1, l1, ps1⟩, h1, h2⟩ := Option.bind_eq_some_iff.1 h
  simp only at h2
  split at h2
  · rename_i hr hb
    simp only [Option.some.injEq, Prod.mk.injEq] at h2
    obtain ⟨h3, rfl, rfl, rfl, rfl⟩ := h2
    obtain ⟨e1, e2⟩ := backB_ok hb
    exact ⟨ex_ok n h1 hobs (wx_end ⟨.inl rfl, resH_ok hr hos, e1, e2⟩ ⟨.inr rfl, resH_ok hr hos, e1, e2⟩ h3)⟩
  · cases h2

theorem resH_ok0 {s : S} {l : List ResultVar} {r ps} (h : resH P s [] l = some (r, ps)) (hp : All ps) : resOf P s l = some r := by
  have w0 : ∀ x, wkV [] x = x := fun _ => rfl
  unfold resH at h
  split at h
  · rename_i hl
    simp only [w0, Option.some.injEq, Prod.mk.injEq] at h
    obtain ⟨rfl, rfl⟩ := h
    simp only [resOf, resLH_ok hl hp]
  · rename_i hn hl
    simp only [w0, Option.ite_none_left_eq_some, Option.some.injEq, Prod.mk.injEq] at h
    obtain ⟨hc, rfl, rfl⟩ := h
    simp only [resOf, resLH_ok hl hp]
    rw [if_neg hc]
  · cases h
/-- An end whose result is told less. -/
theorem x_endS (n : Nat) (q : List (Nat × Or)) {k : List Td} {l : L} {fn : Func} {bs bs' : List (Nat × Box)} {v r : AV} {ps os : List Prop} (hobs : All ps) (hos : All os) (hv : WkV v r)
    (h : (ex P H Y fid n k l q).bind (fun x => match resH P x.2.1.toS [] fn.results.toList, backB x.2.1.toS bs with
      | some (v, os), some bs' => some (atEnd x.1, v, bs', x.2.2, os)
      | _, _ => none) = some (true, v, bs', ps, os)) : Wk P H Y fid k (FinX P fn bs r bs') l := by
  obtain ⟨⟨k1, l1, ps1⟩, h1, h2⟩ := Option.bind_eq_some_iff.1 h
  simp only at h2
  split at h2
  · rename_i hr hb
    simp only [Option.some.injEq, Prod.mk.injEq] at h2
    obtain ⟨h3, rfl, rfl, rfl, rfl⟩ := h2
    obtain ⟨e1, e2⟩ := backB_ok hb
    exact ⟨ex_ok n h1 hobs (wx_end ⟨.inl rfl, ⟨_, resH_ok0 hr hos, hv⟩, e1, e2⟩ ⟨.inr rfl, ⟨_, resH_ok0 hr hos, hv⟩, e1, e2⟩ h3)⟩
  · cases h2

/-- Any place on the way. -/
def goK : Option (List Td × L × List Prop) → List Td
  | some (k, _, _) => k
  | none => []
def goL : Option (List Td × L × List Prop) → L
  | some (_, l, _) => l
  | none => ⟨[], []⟩
theorem x_pt (n : Nat) (q : List (Nat × Or)) {k : List Td} {l : L} {ps : List Prop} {Q : X → L → Prop} (hobs : All ps) (h : (ex P H Y fid n k l q).map (fun r => r.2.2) = some ps)
    (hw : Wk P H Y fid (goK (ex P H Y fid n k l q)) Q (goL (ex P H Y fid n k l q))) : Wk P H Y fid k Q l := by
  obtain ⟨⟨k1, l1, ps1⟩, h1, h2⟩ := Option.map_eq_some_iff.1 h
  simp only at h2
  subst h2
  rw [h1] at hw
  exact ⟨ex_ok n h1 hobs hw.out⟩
theorem frk_eq {α : Type} {a b : Int} {A B : Option α} {r : α} (h : frk (a == b) A B = some r) : (a = b ∧ A = some r) ∨ B = some r := by
  cases e : (a == b) with
  | true => rw [e] at h; exact .inl ⟨by simpa using e, h⟩
  | false => rw [e] at h; exact .inr h

/-- Boxes by their sizes alone. -/
def shapeB (bs : List (Nat × Box)) : List (Nat × Box) := bs.map fun q => (q.1, (fun x : Box => (⟨true, x.sz, x.cs.map fun _ => .bad⟩ : Box)) q.2)
theorem shapeB_lk (bs : List (Nat × Box)) (i : Nat) : lk (shapeB bs) i = (lk bs i).map fun x : Box => (⟨true, x.sz, x.cs.map fun _ => .bad⟩ : Box) := lookup_map (fun x : Box => (⟨true, x.sz, x.cs.map fun _ => .bad⟩ : Box)) i bs
theorem shapeB_ok {bs : List (Nat × Box)} {s : S} (h : exitOk (lk (shapeB bs)) s) : exitOk (lk bs) s ∧ exitB (lk (shapeB bs)) s = exitB (lk bs) s := by
  refine ⟨fun i x hx => ?_, funext fun i => ?_⟩
  · obtain ⟨h1, y, h2, h3, h4, h5, h6⟩ := h i _ (by rw [shapeB_lk, hx]; rfl)
    exact ⟨h1, y, h2, h3, h4, h5, by simpa using h6⟩
  · simp only [exitB, shapeB_lk]
    cases lk bs i <;> rfl

/-- A function, by its body. -/
theorem x_call {f : FuncId} {fn : Func} {c : Code} {args : List AV} {r : AV} {bs bs0 bs' : List (Nat × Box)} (h1 : P.funcs[f]? = some fn) (h0 : shapeB bs = bs0)
    (h2 : (fn.body, fn.name == "runtime.NumGoroutine", args.length, decide (args.length ≤ fn.ntmps), codeOk fn.ntmps c) = (some c, false, fn.params.size + fn.nfree, true, true))
    (hw : Wk P H Y f [.code c] (FinX P fn bs0 r bs') ⟨args.zipIdx.map fun q => (q.2, q.1), bs⟩) : Big P H Y (.call f args (lk bs) r (lk bs')) := by
  simp only [Prod.mk.injEq] at h2
  obtain ⟨e1, e2, e3, e4, e5⟩ := h2
  subst h0
  obtain ⟨x, l', hb, h3, ⟨v, h4, h5⟩, h6, h7⟩ := hw.out
  obtain ⟨h8, h9⟩ := shapeB_ok h6
  rw [h9] at h7
  exact .wkr (call_of bs (fun _ => rfl) h1 e1 e2 e3 (of_decide_eq_true e4) e5 _ rfl ⟨x, l', hb, h3, h4, h8, h7⟩) h5
end Evl

/-! Exe -/
namespace Evl
open Go

def fl {τ : Type} (c : τ → List AV) : List τ → List AV
  | [] => []
  | x :: xs => c x ++ fl c xs

/-- How elements of a kind stand as cells. -/
structure Enc (τ : Type) where
  c : τ → List AV
  f : List τ → List AV
  z : Nat
  hf : ∀ l, f l = fl c l
  hz : ∀ x, (c x).length = z

structure Pl where
  (A B C D : Int)
structure Pt where
  (X Y Z : Int)
structure Spot where
  (X Y Z W : Int)
inductive Sol where
  | mk (inn : Bool) (pl : Pl) (kids : List Sol)
def Sol.inn : Sol → Bool | .mk i _ _ => i
def Sol.pl : Sol → Pl | .mk _ p _ => p
def Sol.kids : Sol → List Sol | .mk _ _ k => k
theorem Sol.eta (s : Sol) : Sol.mk s.inn s.pl s.kids = s := by cases s; rfl

mutual
def cSol (o : Bool) : Sol → List AV
  | .mk i p k => [bl i, i64 p.A, i64 p.B, i64 p.C, i64 p.D, .sl o 6 k.length (cSols o k)]
def cSols (o : Bool) : List Sol → List AV
  | [] => []
  | x :: xs => cSol o x ++ cSols o xs
end
def dSol (o : Bool) (s : Sol) : List AV := [bl s.inn, i64 s.pl.A, i64 s.pl.B, i64 s.pl.C, i64 s.pl.D, .sl o 6 s.kids.length (cSols o s.kids)]
theorem dSol_eq (o : Bool) (s : Sol) : cSol o s = dSol o s := by cases s; rw [cSol]; rfl
theorem cSols_fl (o : Bool) : ∀ l, cSols o l = fl (dSol o) l
  | [] => by rw [cSols]; rfl
  | x :: xs => by rw [cSols, dSol_eq, cSols_fl o xs]; rfl

def cPl (p : Pl) : List AV := [i64 p.A, i64 p.B, i64 p.C, i64 p.D]
def ePl : Enc Pl := ⟨cPl, fl cPl, 4, fun _ => rfl, fun _ => rfl⟩
def cSpot (p : Spot) : List AV := [i64 p.X, i64 p.Y, i64 p.Z, i64 p.W]
def eSpot : Enc Spot := ⟨cSpot, fl cSpot, 4, fun _ => rfl, fun _ => rfl⟩
def eSol (o : Bool) : Enc Sol := ⟨dSol o, cSols o, 6, cSols_fl o, fun _ => rfl⟩
def cInt (x : Int) : List AV := [i64 x]
def eInt : Enc Int := ⟨cInt, fl cInt, 1, fun _ => rfl, fun _ => rfl⟩
def cU8 (x : Int) : List AV := [.lit (.int .u8 x)]
def eU8 : Enc Int := ⟨cU8, fl cU8, 1, fun _ => rfl, fun _ => rfl⟩
def cBool (x : Bool) : List AV := [bl x]
def eBool : Enc Bool := ⟨cBool, fl cBool, 1, fun _ => rfl, fun _ => rfl⟩
def cStr (x : ByteArray) : List AV := [.lit (.string x)]
def eStr : Enc ByteArray := ⟨cStr, fl cStr, 1, fun _ => rfl, fun _ => rfl⟩
def cPls (o : Bool) (l : List Pl) : List AV := [.sl o 4 l.length (ePl.f l)]
def ePls (o : Bool) : Enc (List Pl) := ⟨cPls o, fl (cPls o), 1, fun _ => rfl, fun _ => rfl⟩

variable {τ : Type} {e : Enc τ} {L M : List τ} {j : Int} {x : τ}

theorem fl_app (c : τ → List AV) : ∀ l m : List τ, fl c (l ++ m) = fl c l ++ fl c m
  | [], _ => rfl
  | x :: l, m => by simp only [List.cons_append, fl, fl_app c l m, List.append_assoc]
theorem fl_len (c : τ → List AV) (z : Nat) (hz : ∀ x, (c x).length = z) : ∀ l : List τ, (fl c l).length = l.length * z
  | [] => by simp [fl]
  | x :: l => by simp only [fl, List.length_append, hz, fl_len c z hz l, List.length_cons]; rw [Nat.add_mul]; omega
theorem fl_dropk (c : τ → List AV) (z : Nat) (hz : ∀ x, (c x).length = z) : ∀ (l : List τ) (k : Nat), (fl c l).drop (k * z) = fl c (l.drop k)
  | [], k => by simp [fl]
  | x :: l, 0 => by simp
  | x :: l, k + 1 => by
    simp only [fl, List.drop_succ_cons]
    rw [← fl_dropk c z hz l k, List.drop_append, hz]
    have e1 : (k + 1) * z = k * z + z := by rw [Nat.add_mul]; omega
    rw [List.drop_eq_nil_of_le (by rw [hz, e1]; omega), List.nil_append, e1]
    congr 1; omega
theorem fl_takek (c : τ → List AV) (z : Nat) (hz : ∀ x, (c x).length = z) : ∀ (l : List τ) (k : Nat), (fl c l).take (k * z) = fl c (l.take k)
  | [], k => by simp [fl]
  | x :: l, 0 => by simp [fl]
  | x :: l, k + 1 => by
    simp only [fl, List.take_succ_cons]
    rw [← fl_takek c z hz l k, List.take_append, hz]
    have e1 : (k + 1) * z = k * z + z := by rw [Nat.add_mul]; omega
    rw [List.take_of_length_le (by rw [hz, e1]; omega), e1]
    congr 2; omega
theorem Enc.len (e : Enc τ) (l : List τ) : (e.f l).length = l.length * e.z := by rw [e.hf]; exact fl_len _ _ e.hz l
theorem Enc.dropk (e : Enc τ) (l : List τ) (k : Nat) : (e.f l).drop (k * e.z) = e.f (l.drop k) := by rw [e.hf, e.hf]; exact fl_dropk _ _ e.hz l k
theorem Enc.takek (e : Enc τ) (l : List τ) (k : Nat) : (e.f l).take (k * e.z) = e.f (l.take k) := by rw [e.hf, e.hf]; exact fl_takek _ _ e.hz l k
theorem Enc.app (e : Enc τ) (l m : List τ) : e.f (l ++ m) = e.f l ++ e.f m := by rw [e.hf, e.hf, e.hf]; exact fl_app _ l m
theorem Enc.cons (e : Enc τ) (x : τ) (l : List τ) : e.f (x :: l) = e.c x ++ e.f l := by rw [e.hf, e.hf]; rfl

theorem boxSol (st o : Bool) (l : List Sol) : (some ⟨st, 6, fl (dSol o) l⟩ : Option Box) = some ⟨st, 6, (eSol o).f l⟩ := by rw [(eSol o).hf]; rfl
theorem hasOwnL_app : ∀ a b : List AV, hasOwnL (a ++ b) = (hasOwnL a || hasOwnL b)
  | [], b => by simp [hasOwnL]
  | x :: a, b => by simp only [List.cons_append, hasOwnL, hasOwnL_app a b, Bool.or_assoc]
theorem solOwn (x : Sol) (l : List Sol) : hasOwnL ((eSol true).f (x :: l)) = true := by
  rw [Enc.hf]
  show hasOwnL (dSol true x ++ _) = true
  rw [hasOwnL_app]; rfl
/-- An element at a place that is an int. -/
def lget (l : List τ) (j : Int) : Option τ := if 0 ≤ j then l[j.toNat]? else none
theorem lget_some (h : lget L j = some x) : 0 ≤ j ∧ j.toNat < L.length ∧ L[j.toNat]? = some x := by
  unfold lget at h
  split at h
  · exact ⟨by assumption, (List.getElem?_eq_some_iff.1 h).1, h⟩
  · cases h
theorem Enc.dropx (e : Enc τ) {k : Nat} (h : L[k]? = some x) : (e.f L).drop (k * e.z) = e.c x ++ e.f (L.drop (k + 1)) := by
  rw [e.dropk]
  obtain ⟨hk, hx⟩ := List.getElem?_eq_some_iff.1 h
  rw [List.drop_eq_getElem_cons hk, e.cons, hx]
theorem ix (e : Enc τ) (h : lget L j = some x) : IxSl false e.z L.length (e.f L) j (.cptr (e.c x ++ e.f (L.drop (j.toNat + 1)))) := by
  obtain ⟨h1, h2, h3⟩ := lget_some h
  refine ⟨h1, by omega, ?_, ?_⟩
  · rw [e.len]; exact Nat.mul_le_mul_right _ (by omega)
  · simp only [Bool.false_eq_true, if_false]; rw [e.dropx h3]
theorem Enc.share (e e' : Enc τ) (h : ∀ x, shareL (e.c x) = e'.c x) (l : List τ) : shareL (e.f l) = e'.f l := by
  rw [e.hf, e'.hf]
  have happ : ∀ a b : List AV, shareL (a ++ b) = shareL a ++ shareL b := by
    intro a b
    induction a with
    | nil => rfl
    | cons x a ih => simp only [List.cons_append, shareL, ih]
  induction l with
  | nil => rfl
  | cons x l ih => simp only [fl, happ, h, ih]
theorem ixo (e e' : Enc τ) (hs : ∀ x, shareL (e.c x) = e'.c x) (h : lget L j = some x) : IxSl true e.z L.length (e.f L) j (.cptr (e'.c x ++ e'.f (L.drop (j.toNat + 1)))) := by
  obtain ⟨h1, h2, h3⟩ := lget_some h
  refine ⟨h1, by omega, ?_, ?_⟩
  · rw [e.len]; exact Nat.mul_le_mul_right _ (by omega)
  · rw [if_pos rfl, e.dropk, Enc.share e e' hs]
    obtain ⟨hk, hx⟩ := List.getElem?_eq_some_iff.1 h3
    rw [List.drop_eq_getElem_cons hk, e'.cons, hx]
theorem inr (h : lget L j = some x) : InR j L.length := by
  obtain ⟨h1, h2, h3⟩ := lget_some h
  exact ⟨h1, by omega⟩
theorem inA {n : Nat} (h : (decide (0 ≤ j) && decide (j < (n : Int))) = true) : InR j n := by
  simpa [InR] using h
theorem ldA (e : Enc τ) (h : lget L j = some x) (f k : Nat) (hk : decide (f + k ≤ e.z) = true) (hkn : decide (0 < k ∨ 0 < e.z) = true) : LdAg (e.f L) (j.toNat * e.z + f) k (((e.c x).drop f).take k) := by
  obtain ⟨h1, h2, h3⟩ := lget_some h
  have hk := of_decide_eq_true hk
  refine ⟨?_, ?_⟩
  · rw [e.len]
    have := Nat.mul_le_mul_right e.z (Nat.succ_le_of_lt h2)
    rw [Nat.succ_mul] at this; omega
  · rw [← List.drop_drop, e.dropx h3, List.drop_append, List.take_append]
    rw [List.length_drop, e.hz]
    have : k - (e.z - f) = 0 := by omega
    rw [this]; simp
theorem ld1 (e : Enc τ) (h : lget L j = some x) (f : Nat) {c : AV} (hc : (e.c x)[f]? = some c) : LdOne (e.f L) (j.toNat * e.z + f) c := by
  obtain ⟨h1, h2, h3⟩ := lget_some h
  unfold LdOne
  have := e.dropx h3
  rw [← List.getElem?_drop, this, List.getElem?_append_left ((List.getElem?_eq_some_iff.1 hc).1)]
  exact hc
theorem stA (e : Enc τ) (h : lget L j = some x) (f k : Nat) (ys : List AV) (x' : τ) (hk : decide (f + k ≤ e.z) = true) (hy : e.c x' = (e.c x).take f ++ ys ++ (e.c x).drop (f + k)) : StAt (e.f L) (j.toNat * e.z + f) k ys (e.f (L.set j.toNat x')) := by
  obtain ⟨h1, h2, h3⟩ := lget_some h
  have hk := of_decide_eq_true hk
  have hl := Nat.mul_le_mul_right e.z (Nat.succ_le_of_lt h2)
  rw [Nat.succ_mul] at hl
  refine ⟨by rw [e.len]; omega, ?_⟩
  obtain ⟨hj, hx⟩ := List.getElem?_eq_some_iff.1 h3
  have e0 : L.set j.toNat x' = L.take j.toNat ++ x' :: L.drop (j.toNat + 1) := List.set_eq_take_append_cons_drop .. |>.trans (by rw [if_pos h2])
  have e1 : e.f L = e.f (L.take j.toNat) ++ (e.c x ++ e.f (L.drop (j.toNat + 1))) := by
    rw [← e.dropx h3, ← e.takek, List.take_append_drop]
  have el : (e.f (L.take j.toNat)).length = j.toNat * e.z := by rw [e.len, List.length_take, Nat.min_eq_left (Nat.le_of_lt h2)]
  rw [e0, e.app, e.cons, hy, e1]
  rw [List.take_append, el, List.drop_append, el]
  have t1 : List.take (j.toNat * e.z + f) (e.f (L.take j.toNat)) = e.f (L.take j.toNat) := List.take_of_length_le (by omega)
  have t2 : List.drop (j.toNat * e.z + f + k) (e.f (L.take j.toNat)) = [] := List.drop_eq_nil_of_le (by omega)
  rw [t1, t2, List.nil_append]
  have t3 : j.toNat * e.z + f - j.toNat * e.z = f := by omega
  have t4 : j.toNat * e.z + f + k - j.toNat * e.z = f + k := by omega
  rw [t3, t4, List.take_append, List.drop_append, e.hz]
  have t5 : f - e.z = 0 := by omega
  have t6 : f + k - e.z = 0 := by omega
  rw [t5, t6]
  simp [List.append_assoc]

/-! appends -/
def apB (bytes n : Nat) : Bool := decide (n * bytes ≤ 140737488355328) && decide (n ≤ 9223372036854775807)
theorem apOk (e : Enc τ) {bytes n : Nat} (h : apB bytes n = true) {m : Nat} (hm : m = n * e.z) : AppB bytes e.z m := by
  simp only [apB, Bool.and_eq_true, decide_eq_true_eq] at h
  subst hm
  refine ⟨?_, ?_⟩
  · have := Nat.mul_le_mul_right e.z h.1
    unfold limBytes
    calc n * e.z * bytes = n * bytes * e.z := by rw [Nat.mul_assoc, Nat.mul_comm e.z, Nat.mul_assoc]
      _ ≤ _ := this
  · exact Nat.mul_le_mul_right _ h.2
theorem app_one (e : Enc τ) {bytes : Nat} (h : apB bytes (L.length + M.length) = true) : AppB bytes e.z ((e.f L).length + (e.f M).length) := apOk e h (by rw [e.len, e.len, Nat.add_mul])
theorem app_m (e : Enc τ) (hz : decide (0 < e.z) = true) : L.length + (e.f M).length / e.z = (L ++ M).length := by
  rw [e.len, Nat.mul_div_cancel _ (of_decide_eq_true hz), List.length_append]
theorem app_new (e : Enc τ) : e.f (L ++ M) = e.f L ++ e.f M := e.app L M
theorem len_row (e : Enc τ) : L.length * e.z = (e.f L).length := (e.len L).symm
theorem len_row' (e : Enc τ) : (e.f L).length = L.length * e.z := e.len L
theorem Enc.noOwn (e : Enc τ) (h : ∀ x, hasOwnL (e.c x) = false) (l : List τ) : hasOwnL (e.f l) = false := by
  rw [e.hf]
  have happ : ∀ a b : List AV, hasOwnL (a ++ b) = (hasOwnL a || hasOwnL b) := by
    intro a b
    induction a with
    | nil => rfl
    | cons x a ih => simp only [List.cons_append, hasOwnL, ih, Bool.or_assoc]
  induction l with
  | nil => rfl
  | cons x l ih => simp only [fl, happ, h, ih, Bool.or_self]

/-! slices of slices -/
def lsl (l : List τ) (a b : Int) : Option (List τ) := if 0 ≤ a ∧ a ≤ b ∧ b ≤ l.length then some ((l.drop a.toNat).take (b.toNat - a.toNat)) else none
theorem slF (e : Enc τ) {a b : Int} (h : lsl L a b = some M) : SlS e.z L.length (e.f L) a b false (.sl false e.z M.length (e.f M)) := by
  unfold lsl at h
  split at h
  · rename_i hc
    cases h
    refine ⟨e.len L, hc.1, hc.2.1, hc.2.2, ?_⟩
    simp only [Bool.false_eq_true, if_false]
    rw [e.dropk, e.takek]
    congr 1
    rw [List.length_take, List.length_drop]; omega
  · cases h
theorem slM (e e' : Enc τ) (hs : ∀ x, shareL (e.c x) = e'.c x) {a b : Int} (h : lsl L a b = some M) : SlS e.z L.length (e.f L) a b true (.sl false e.z M.length (e'.f M)) := by
  have hz : L = [] ∨ e'.z = e.z := by
    cases L with
    | nil => exact .inl rfl
    | cons x _ => right; rw [← e'.hz x, ← hs, shareL_length, e.hz]
  unfold lsl at h
  split at h
  · rename_i hc
    cases h
    refine ⟨e.len L, hc.1, hc.2.1, hc.2.2, ?_⟩
    rw [if_pos rfl, Enc.share e e' hs]
    rcases hz with rfl | hz
    · simp only [List.length_nil] at hc
      have h1 : b = 0 := by have := hc.2.2; have := hc.2.1; have := hc.1; simp only [Int.ofNat_zero] at *; omega
      have h2 : a = 0 := by have := hc.2.1; have := hc.1; omega
      subst h1; subst h2
      simp [e'.hf, fl]
    · rw [← hz, e'.dropk, e'.takek]
      congr 1
      rw [List.length_take, List.length_drop]; omega
  · cases h

/-! made rows -/
def mkB (k : Int) (bytes : Nat) : Bool := decide (0 ≤ k) && (decide (k ≤ 9223372036854775807) && decide (k.toNat * bytes ≤ 140737488355328))
theorem mkOk (e : Enc τ) {k : Int} {bytes : Nat} (h : mkB k bytes = true) (x : τ) {z : List AV} (hx : e.c x = z) : MkP k bytes z (List.replicate k.toNat x).length (e.f (List.replicate k.toNat x)) := by
  simp only [mkB, Bool.and_eq_true, decide_eq_true_eq] at h
  refine ⟨h.1, h.2.1, h.2.2, by simp, ?_⟩
  rw [e.hf]
  generalize k.toNat = n
  induction n with
  | zero => rfl
  | succ n ih => simp only [List.replicate_succ, fl, ih, List.flatten_cons, hx]

/-! strings -/
def sget (t : ByteArray) (j : Int) : Option Int := if h : 0 ≤ j ∧ j.toNat < t.size then some ((t[j.toNat]'h.2).toNat : Int) else none
theorem strIx {t : ByteArray} {x : Int} (h : sget t j = some x) : StrIx t j (.lit (.int .u8 x)) := by
  unfold sget at h
  split at h
  · rename_i hc; cases h; exact ⟨hc, rfl⟩
  · cases h
def ssl (t : ByteArray) (a b : Int) : Option ByteArray := if 0 ≤ a ∧ a ≤ b ∧ b ≤ t.size then some (t.extract a.toNat b.toNat) else none
theorem strSl {t u : ByteArray} {a b : Int} (h : ssl t a b = some u) : SlT t a b (.lit (.string u)) := by
  unfold ssl at h
  split at h
  · rename_i hc; cases h; exact ⟨hc.1, hc.2.1, hc.2.2, rfl⟩
  · cases h
def scat (a b : ByteArray) : Option ByteArray := if a.size + b.size ≤ 9223372036854775807 then some (a ++ b) else none
theorem catOk {a b c : ByteArray} (h : scat a b = some c) : binV .add (.string a) (.string b) = some (.string c) := by
  unfold scat at h
  split at h
  · rename_i hc; cases h; simp only [binV, if_pos hc]
  · cases h

/-! numbers -/
def qt (k : IntKind) (a b : Int) : Option Int := if b = 0 then none else some (k.wrap (a.tdiv b))
def rm (_ : IntKind) (a b : Int) : Option Int := if b = 0 then none else some (a.tmod b)
theorem qtOk {k : IntKind} {a b c : Int} (h : qt k a b = some c) : binV .quo (.int k a) (.int k b) = some (.int k c) := by
  unfold qt at h
  split at h
  · cases h
  · rename_i hb; cases h; simp only [binV, if_true, if_neg hb]
theorem rmOk {k : IntKind} {a b c : Int} (h : rm k a b = some c) : binV .rem (.int k a) (.int k b) = some (.int k c) := by
  unfold rm at h
  split at h
  · cases h
  · rename_i hb; cases h; simp only [binV, if_true, if_neg hb]
theorem max2 (k : IntKind) (a b : Int) : maxInts [.lit (.int k a), .lit (.int k b)] = some (k, if b > a then b else a) := by
  simp [maxInts]
theorem min2 (k : IntKind) (a b : Int) : minInts [.lit (.int k a), .lit (.int k b)] = some (k, if b < a then b else a) := by
  simp [minInts]

def maxN : Int → List Int → Int
  | a, [] => a
  | a, b :: l => maxN (if b > a then b else a) l
theorem maxNok (k : IntKind) : ∀ (l : List Int) (a : Int), maxInts (.lit (.int k a) :: l.map fun x => .lit (.int k x)) = some (k, maxN a l)
  | [], a => by simp [maxInts, maxN]
  | b :: l, a => by
    simp only [List.map_cons, maxInts, if_true, maxN]
    exact maxNok k l _
def minN : Int → List Int → Int
  | a, [] => a
  | a, b :: l => minN (if b < a then b else a) l
theorem minNok (k : IntKind) : ∀ (l : List Int) (a : Int), minInts (.lit (.int k a) :: l.map fun x => .lit (.int k x)) = some (k, minN a l)
  | [], a => by simp [minInts, minN]
  | b :: l, a => by
    simp only [List.map_cons, minInts, if_true, minN]
    exact minNok k l _

/-- Made rows of trees: their nils told as rows. -/
def cZs (_ : Unit) : List AV := [bl false, i64 0, i64 0, i64 0, i64 0, .nil]
def eZs : Enc Unit := ⟨cZs, fl cZs, 6, fun _ => rfl, fun _ => rfl⟩
def zSol : Sol := .mk false ⟨0, 0, 0, 0⟩ []
theorem wkZs (o st : Bool) (n : Nat) : WkB ⟨st, 6, eZs.f (List.replicate n ())⟩ ⟨st, 6, (eSol o).f (List.replicate n zSol)⟩ := by
  refine ⟨rfl, rfl, ?_⟩
  show WkCs (eZs.f (List.replicate n ())) ((eSol o).f (List.replicate n zSol))
  rw [eZs.hf, (eSol o).hf]
  induction n with
  | zero => exact trivial
  | succ n ih =>
    simp only [List.replicate_succ, fl]
    exact ⟨.inl rfl, .inl rfl, .inl rfl, .inl rfl, .inl rfl, .inr (.inr (.inr ⟨rfl, o, 6, rfl⟩)), ih⟩
theorem rflB (x : Box) : some x = some x := rfl
theorem rflV (x : AV) : x = x := rfl
theorem rflI (x : Int) : x = x := rfl
theorem setLen (b : Nat) (l : List τ) (i : Nat) (x : τ) : AV.msl b l.length = AV.msl b (l.set i x).length := congrArg (AV.msl b) List.length_set.symm
theorem zLen (n : Nat) : (List.replicate n ()).length = (List.replicate n zSol).length := by simp

/-! bits -/
def bAnd (k : IntKind) (a b : Int) : Int := k.wrap (BitVec.ofInt k.bits a &&& BitVec.ofInt k.bits b).toNat
def bOr (k : IntKind) (a b : Int) : Int := k.wrap (BitVec.ofInt k.bits a ||| BitVec.ofInt k.bits b).toNat
def bXor (k : IntKind) (a b : Int) : Int := k.wrap (BitVec.ofInt k.bits a ^^^ BitVec.ofInt k.bits b).toNat

/-- A piece of code by the way to it: 0 the first part, else the second. -/
def cp : List Nat → Code → Code
  | [], c => c
  | 0 :: p, c => cp p (Code.fst c)
  | _ :: p, c => cp p (Code.snd c)
def hasP (l : List (Nat × Nat)) (a b : Nat) : Bool := l.any fun p => p.1 == a && p.2 == b

theorem sPl (p : Pl) : shareL (ePl.c p) = ePl.c p := rfl
theorem sInt (p : Int) : shareL (eInt.c p) = eInt.c p := rfl
theorem sU8 (p : Int) : shareL (eU8.c p) = eU8.c p := rfl
theorem sStr (p : ByteArray) : shareL (eStr.c p) = eStr.c p := rfl
theorem sSpot (p : Spot) : shareL (eSpot.c p) = eSpot.c p := rfl
theorem sSols (o : Bool) : (∀ s : Sol, shareL (dSol o s) = dSol false s) := by
  have key : ∀ n : Nat, ∀ s : Sol, sizeOf s < n → shareL (dSol o s) = dSol false s := by
    intro n
    induction n with
    | zero => intro s h; omega
    | succ n ih =>
      intro s hs
      obtain ⟨i, p, k⟩ := s
      have hk : ∀ l : List Sol, (∀ x ∈ l, sizeOf x < n) → shareL (cSols o l) = cSols false l := by
        intro l hl
        rw [cSols_fl, cSols_fl]
        induction l with
        | nil => rfl
        | cons x l ihl =>
          have happ : ∀ a b : List AV, shareL (a ++ b) = shareL a ++ shareL b := by
            intro a b
            induction a with
            | nil => rfl
            | cons x a ih => simp only [List.cons_append, shareL, ih]
          simp only [fl, happ]
          rw [ih x (hl x (by simp)), ihl (fun y hy => hl y (by simp [hy]))]
      have := hk k (fun x hx => by
        have h1 := List.sizeOf_lt_of_mem hx
        simp only [Sol.mk.sizeOf_spec] at hs; omega)
      cases o with
      | false => rfl
      | true =>
        show [_, _, _, _, _, AV.sl false 6 k.length (shareL (cSols true k))] = _
        rw [this]; rfl
  exact fun s => key (sizeOf s + 1) s (by omega)
theorem hasSh_app : ∀ a b : List AV, hasShL (a ++ b) = (hasShL a || hasShL b)
  | [], b => by simp [hasShL]
  | x :: a, b => by simp [hasShL, hasSh_app a b, Bool.or_assoc]
mutual
theorem nSh1 : ∀ s : Sol, hasShL (cSol true s) = false
  | .mk i p k => by rw [cSol]; simp [hasShL, hasSh, nSh0 k]
theorem nSh0 : ∀ l : List Sol, hasShL (cSols true l) = false
  | [] => by rw [cSols]; rfl
  | x :: xs => by rw [cSols, hasSh_app, nSh1 x, nSh0 xs]; rfl
end
theorem nSh (l : List Sol) : hasShL ((eSol true).f l) = false := nSh0 l
theorem sSol (o : Bool) (s : Sol) : shareL ((eSol o).c s) = (eSol false).c s := sSols o s
theorem sPls (o : Bool) (l : List Pl) : shareL ((ePls o).c l) = (ePls false).c l := by
  cases o with
  | false => rfl
  | true =>
    show [AV.sl false 4 l.length (shareL (ePl.f l))] = _
    rw [Enc.share ePl ePl sPl]; rfl
/-- A result that is looked at alone. -/
theorem shSl {P : Program} {H : Hints} {Y : FuncId → List AV → (Nat → Option Box) → AV → (Nat → Option Box) → Prop} {f : FuncId} {args : List AV} {bx bx' : Nat → Option Box} (e e' : Enc τ) (hs : ∀ x, shareL (e.c x) = e'.c x) {z n : Nat} (h : Big P H Y (.call f args bx (.sl true z n (e.f L)) bx')) : Big P H Y (.call f args bx (.sl false z n (e'.f L)) bx') := by
  refine .wkr h (.inl (.inl (.inr (.inr (.inl ?_)))))
  simp only [Evl.share, Enc.share e e' hs]
/-! arrays of whole numbers in a box, the index not known -/
def intC (k : IntKind) (x : Int) : AV := .lit (.int k x)
theorem arIn {L : List Int} {j v : Int} {n : Nat} (h : lget L j = some v) (hn : L.length = n) : InR j n := by
  obtain ⟨h1, h2, -⟩ := lget_some h
  exact ⟨h1, by omega⟩
theorem arLd (pre post : List AV) (k : IntKind) {L : List Int} {j v : Int} (h : lget L j = some v) : LdOne (pre ++ (L.map (intC k) ++ post)) (pre.length + j.toNat * 1) (intC k v) := by
  obtain ⟨h1, h2, h3⟩ := lget_some h
  unfold LdOne
  rw [List.getElem?_append_right (by omega), Nat.mul_one, Nat.add_sub_cancel_left, List.getElem?_append_left (by simpa using h2), List.getElem?_map, h3]; rfl
theorem take_add (A : List AV) (l : List AV) (i : Nat) : (A ++ l).take (A.length + i) = A ++ l.take i := by
  induction A with
  | nil => simp
  | cons a A ih => simpa [Nat.succ_add] using ih
theorem drop_add (A : List AV) (l : List AV) (i : Nat) : (A ++ l).drop (A.length + i) = l.drop i := by
  induction A with
  | nil => simp
  | cons a A ih => simp [Nat.succ_add]
theorem arSt (pre post : List AV) (k : IntKind) {L v : List Int} {j u x : Int} (n : Nat) (h : lget L j = some u) (hn : L.length = n) (hv : some (L.set j.toNat x) = some v) :
    StAt (pre ++ (L.map (intC k) ++ post)) (pre.length + j.toNat * 1) 1 [intC k x] (pre ++ ((List.range n).map (fun i => intC k (v.getD i 0)) ++ post)) := by
  obtain ⟨h1, h2, h3⟩ := lget_some h
  obtain rfl := Option.some.inj hv
  refine ⟨by simp; omega, ?_⟩
  have e1 : (List.range n).map (fun i => intC k ((L.set j.toNat x).getD i 0)) = (L.set j.toNat x).map (intC k) := by
    apply List.ext_getElem
    · simp [hn]
    · intro i a b
      simp only [List.length_map, List.length_range] at a
      have hi : i < (L.set j.toNat x).length := by simpa [hn] using a
      rw [List.getElem_map, List.getElem_map, List.getElem_range, List.getD_eq_getElem?_getD, List.getElem?_eq_getElem hi]; rfl
  have hl : j.toNat < (L.map (intC k)).length := by simpa using h2
  rw [e1, Nat.mul_one, take_add, Nat.add_assoc, drop_add, List.take_append_of_le_length (by omega), List.drop_append_of_le_length (by omega), List.map_set, List.set_eq_take_append_cons_drop, if_pos hl]
  simp
/-! strings of bytes -/
theorem bytesL : ∀ L : List Int, bytesOf (eU8.f L) = some L
  | [] => rfl
  | x :: L => by
    have := bytesL L
    show bytesOf (.lit (.int .u8 x) :: eU8.f L) = _
    rw [bytesOf, this]; rfl
theorem strL (L : List Int) {t : ByteArray} (h : some (strOfNums L) = some t) : strE (eU8.f L) L.length = some t := by
  unfold strE
  rw [bytesL]
  show (if L.length = L.length then some (strOfNums L) else none) = some t
  rw [if_pos rfl]; exact h
/-! shifts by a count that is not known -/
def shL (k : IntKind) (a b : Int) : Option Int := if b < 0 then none else some (k.wrap (a * 2 ^ (min b.toNat k.bits)))
def shR (k : IntKind) (a b : Int) : Option Int := if b < 0 then none else some (a.fdiv (2 ^ (min b.toNat k.bits)))
theorem shLOk {k k' : IntKind} {a b c : Int} (h : shL k a b = some c) : binV .shl (.int k a) (.int k' b) = some (.int k c) := by
  unfold shL at h
  split at h
  · cases h
  · rename_i hb; cases h; simp only [binV, if_neg hb]
theorem shROk {k k' : IntKind} {a b c : Int} (h : shR k a b = some c) : binV .shr (.int k a) (.int k' b) = some (.int k c) := by
  unfold shR at h
  split at h
  · cases h
  · rename_i hb; cases h; simp only [binV, if_neg hb]
/-! own rows that are handed back to be looked at -/
theorem wkShare {τ : Type} {L : List τ} (e e' : Enc τ) (hs : ∀ x, shareL (e.c x) = e'.c x) {z n : Nat} : WkV (.sl true z n (e.f L)) (.sl false z n (e'.f L)) :=
  .inl (.inl (.inr (.inr (.inl (by simp only [Evl.share, Enc.share e e' hs])))))
theorem wkShareU {τ : Type} {L : List τ} (e e' : Enc τ) (hs : ∀ x, shareL (e.c x) = e'.c x) {z n : Nat} : WkU (.sl true z n (e.f L)) (.sl false z n (e'.f L)) :=
  .inl (.inr (.inr (.inl (by simp only [Evl.share, Enc.share e e' hs]))))
theorem wkSameU (x : AV) : WkU x x := .inl (.inl rfl)
theorem wkShareC {τ : Type} {L : List τ} (e e' : Enc τ) (hs : ∀ x, shareL (e.c x) = e'.c x) {z n : Nat} : WkC (.sl true z n (e.f L)) (.sl false z n (e'.f L)) :=
  .inr (.inr (.inl (by simp only [Evl.share, Enc.share e e' hs])))
theorem wkCs_share : ∀ l : List AV, WkCs l (shareL l)
  | [] => trivial
  | _ :: l => ⟨.inr (.inr (.inl rfl)), wkCs_share l⟩
theorem wkRowB {τ : Type} {L : List τ} {st : Bool} {z : Nat} (e e' : Enc τ) (hs : ∀ x, shareL (e.c x) = e'.c x) : WkB ⟨st, z, e.f L⟩ ⟨st, z, e'.f L⟩ :=
  ⟨rfl, rfl, by
    have := wkCs_share (e.f L)
    rw [Enc.share e e' hs] at this; exact this⟩
theorem wkNilSol (i : Bool) (a b c d : Int) : WkB ⟨true, 6, [bl i, i64 a, i64 b, i64 c, i64 d, .nil]⟩ ⟨true, 6, (eSol true).f [Sol.mk i (Pl.mk a b c d) []]⟩ := by
  rw [(eSol true).hf]
  exact ⟨rfl, rfl, .inl rfl, .inl rfl, .inl rfl, .inl rfl, .inl rfl, .inr (.inr (.inr ⟨rfl, true, 6, rfl⟩)), trivial⟩
theorem wkCs_pre {xs ys : List AV} (h : WkCs xs ys) : ∀ zs : List AV, WkCs (zs ++ xs) (zs ++ ys)
  | [] => h
  | _ :: zs => ⟨.inl rfl, wkCs_pre h zs⟩
theorem wkAppNil (st : Bool) (i a b c d) (L : List Sol) : WkB ⟨st, 6, (eSol true).f L ++ [bl i, i64 a, i64 b, i64 c, i64 d, .nil]⟩ ⟨st, 6, (eSol true).f (L ++ [Sol.mk i (Pl.mk a b c d) []])⟩ := by
  refine ⟨rfl, rfl, ?_⟩
  show WkCs ((eSol true).f L ++ _) ((eSol true).f (L ++ _))
  rw [(eSol true).app]
  exact wkCs_pre (wkNilSol i a b c d).2.2 _
/-! long numbers -/
structure Num where
  (Neg : Bool)
  (D : List Int)
def cNum (o : Bool) (x : Num) : List AV := [bl x.Neg, .sl o 1 x.D.length (eInt.f x.D)]
def eNum (o : Bool) : Enc Num := ⟨cNum o, fl (cNum o), 2, fun _ => rfl, fun _ => rfl⟩
theorem sNum (o : Bool) (x : Num) : shareL ((eNum o).c x) = (eNum false).c x := by
  cases o with
  | false => rfl
  | true =>
    show [bl x.Neg, AV.sl false 1 x.D.length (shareL (eInt.f x.D))] = _
    rw [Enc.share eInt eInt sInt]; rfl
def cInts (o : Bool) (l : List Int) : List AV := [.sl o 1 l.length (eInt.f l)]
def eInts (o : Bool) : Enc (List Int) := ⟨cInts o, fl (cInts o), 1, fun _ => rfl, fun _ => rfl⟩
theorem sInts (o : Bool) (l : List Int) : shareL ((eInts o).c l) = (eInts false).c l := by
  cases o with
  | false => rfl
  | true =>
    show [AV.sl false 1 l.length (shareL (eInt.f l))] = _
    rw [Enc.share eInt eInt sInt]; rfl
theorem eNsh {τ : Type} (e : Enc τ) (h : ∀ x, hasShL (e.c x) = false) (l : List τ) : hasShL (e.f l) = false := by
  rw [e.hf]
  induction l with
  | nil => rfl
  | cons x l ih => simp only [fl]; rw [hasSh_app, h, ih]; rfl
theorem nShI (l : List Int) : hasShL (eInt.f l) = false := eNsh eInt (fun _ => rfl) l
theorem nShB (l : List Int) : hasShL (eU8.f l) = false := eNsh eU8 (fun _ => rfl) l
theorem nShP (l : List Pl) : hasShL (ePl.f l) = false := eNsh ePl (fun _ => rfl) l
theorem nShT (l : List Spot) : hasShL (eSpot.f l) = false := eNsh eSpot (fun _ => rfl) l
theorem nShN (l : List Num) : hasShL ((eNum true).f l) = false := eNsh (eNum true) (fun x => by
  show hasShL [bl x.Neg, .sl true 1 x.D.length (eInt.f x.D)] = false
  simp [hasShL, hasSh, nShI]) l
theorem nShPs (l : List (List Pl)) : hasShL ((ePls true).f l) = false := eNsh (ePls true) (fun x => by
  show hasShL [.sl true 4 x.length (ePl.f x)] = false
  simp [hasShL, hasSh, nShP]) l

theorem u8Lk (l : List Int) : l.length = (eU8.f l).length ∧ ∀ c ∈ eU8.f l, isU8 c = true := by
  refine ⟨by rw [Enc.len]; exact (Nat.mul_one _).symm, fun c hc => ?_⟩
  induction l with
  | nil => simp [eU8, fl] at hc
  | cons x l ih =>
    have hc' : c ∈ AV.lit (.int .u8 x) :: eU8.f l := hc
    rcases List.mem_cons.1 hc' with rfl | hc'
    · rfl
    · exact ih hc'
theorem nu8Sol (o : Bool) (l : List Sol) : ∀ c ∈ (eSol o).f l, isU8 c = false := by
  induction l with
  | nil => intro c hc; simp [eSol, cSols] at hc
  | cons x l ih =>
    intro c hc
    have hc' : c ∈ cSol o x ++ (eSol o).f l := by
      have : cSols o (x :: l) = cSol o x ++ cSols o l := by rw [cSols]
      rw [← show cSols o (x :: l) = cSol o x ++ (eSol o).f l from this]; exact hc
    rcases List.mem_append.1 hc' with h | h
    · rw [dSol_eq] at h
      simp only [dSol, List.mem_cons, List.not_mem_nil, or_false] at h
      rcases h with rfl | rfl | rfl | rfl | rfl | rfl <;> rfl
    · exact ih c h
/-! a copy of a slice, be it nil or not -/
def opsB : Code → Array Oper
  | .region _ ops _ => ops
  | _ => #[]
def idB : Code → Nat
  | .region id _ _ => id
  | _ => 0
def nilB (P : Program) (ops : Array Oper) : Option (Nat × Nat × Nat) :=
  match ops.toList with
  | [o0, o1] => match o0.dst, o0.op, o0.guard with
    | some t3, .move (.tmp i), none => match o1.dst, o1.op, o1.guard with
      | some t4, .binOp .eql ty (.tmp t) (.const (.slice none 0 0)) _, none => if t = t3 then match P.underlying ty with
        | some (.slice _) => some (i, t3, t4)
        | _ => none else none
      | _, _, _ => none
    | _, _, _ => none
  | _ => none
theorem nilB_ok {P : Program} {ops : Array Oper} {i t3 t4 : Nat} (h : nilB P ops = some (i, t3, t4)) : NilOps P ops i t3 t4 := by
  unfold nilB at h
  split at h
  · rename_i o0 o1 hl
    have e0 : ops[0]? = some o0 := by rw [← Array.getElem?_toList, hl]; rfl
    have e1 : ops[1]? = some o1 := by rw [← Array.getElem?_toList, hl]; rfl
    split at h
    · rename_i a b c hd0 hp0 hg0
      split at h
      · rename_i d ty t t' hd1 hp1 hg1
        split at h
        · rename_i ht
          subst ht
          split at h
          · rename_i e he
            simp only [Option.some.injEq, Prod.mk.injEq] at h
            obtain ⟨rfl, rfl, rfl⟩ := h
            exact ⟨by rw [← Array.length_toList, hl]; rfl, ⟨o0, e0, hd0, hp0, hg0⟩, ⟨o1, ty, e, t', e1, hd1, hp1, hg1, he⟩⟩
          · cases h
        · cases h
      · cases h
    · cases h
  · cases h
theorem args_toS (args : List AV) (bs : List (Nat × Box)) : (⟨args.zipIdx.map fun q => (q.2, q.1), bs⟩ : Evl.L).toS = S0 args (lk bs) := by
  apply S.ext'
  · intro i
    simp only [L.toS, L.get, S0]
    have : ∀ (as : List AV) (k : Nat), lookup i ((as.zipIdx k).map fun q => (q.2, q.1)) = if k ≤ i then as[i - k]? else none := by
      intro as
      induction as with
      | nil => intro k; simp [lookup]
      | cons a as ih =>
        intro k
        simp only [List.zipIdx_cons, List.map_cons, lookup, ih]
        by_cases e1 : k = i
        · subst e1; simp
        · rw [if_neg e1]
          by_cases e2 : k ≤ i
          · have : i - k = (i - (k + 1)) + 1 := by omega
            rw [if_pos e2, if_pos (by omega), this]; simp
          · rw [if_neg e2, if_neg (by omega)]
    have := this args 0
    simp only [Nat.zero_le, if_true, Nat.sub_zero] at this
    rw [this]
    cases args[i]? <;> rfl
  · intro i; rfl
theorem x_at (m : Nat) {P : Program} {H : Hints} {Y : FuncId → List AV → (Nat → Option Box) → AV → (Nat → Option Box) → Prop} {fid : FuncId} {k : List Td} {l u : Evl.L} (h : (ex P H Y fid m k l []).map (fun r => (r.1.isEmpty, r.2.1.ts, r.2.1.bs, r.2.2)) = some (true, u.ts, u.bs, [])) : Wk P H Y fid k (fun x l' => x = .nor ∧ l'.toS = u.toS) l := by
  obtain ⟨⟨k1, l1, ps1⟩, h1, h2⟩ := Option.map_eq_some_iff.1 h
  simp only [Prod.mk.injEq, List.isEmpty_iff] at h2
  obtain ⟨rfl, h3, h4, rfl⟩ := h2
  have e : l1 = u := by cases l1; cases u; simp only at h3 h4; subst h3; subst h4; rfl
  exact ⟨ex_ok m h1 onil ⟨rfl, by rw [e]⟩⟩
theorem x_clone {P : Program} {H : Hints} {Y : FuncId → List AV → (Nat → Option Box) → AV → (Nat → Option Box) → Prop} {f : FuncId} {fn : Func} {args : List AV} {r : AV} {c : Code} (i t3 t4 : Nat) {z ct : Nat} {cs : List AV} {lq : Evl.L} (h1 : P.funcs[f]? = some fn)
    (h2 : (fn.body, fn.name == "runtime.NumGoroutine", decide (args.length ≤ fn.ntmps), codeOk fn.ntmps c, nilB P (opsB (cp [1, 0, 0] c)), lookup i lq.ts) = (some c, false, true, true, some (i, t3, t4), some (.sl false z ct cs)))
    (hc : c = .seq (cp [0] c) (.seq (.seq (.region (idB (cp [1, 0, 0] c)) (opsB (cp [1, 0, 0] c)) false) (cp [1, 0, 1] c)) (cp [1, 1] c)))
    (hA : Wk P H Y f [.code (cp [0] c)] (fun x l => x = .nor ∧ l.toS = lq.toS) ⟨args.zipIdx.map fun q => (q.2, q.1), []⟩)
    (hB : ∀ b : Bool, (b = true → ct = 0) → Wk P H Y f [.code (cp [1, 0, 1] c), .code (cp [1, 1] c)] (FinX P fn [] r []) (setT (setT lq t3 (.sl false z ct cs)) t4 (.lit (.bool b)))) :
    Big P H Y (.call f args (lk []) r (lk [])) := by
  simp only [Prod.mk.injEq] at h2
  obtain ⟨e1, e2, e3, e4, e5, e6⟩ := h2
  obtain ⟨x, l', ha, rfl, hl'⟩ := hA.out
  rw [hl'] at ha
  have e : (⟨args.zipIdx.map fun q => (q.2, q.1), []⟩ : Evl.L).toS = S0 args (lk []) := args_toS args []
  rw [e] at ha
  have hi : lq.toS.t i = .sl false z ct cs := by simp only [L.toS, L.get, e6]
  have hs : ∀ b : Bool, (setT (setT lq t3 (.sl false z ct cs)) t4 (.lit (.bool b))).toS = nqS t3 t4 (.sl false z ct cs) b lq.toS := fun b => by
    apply S.ext'
    · intro k
      simp only [L.toS, L.get, setT, lookup, nqS, Eff.apply, killAll, Option.some.injEq]
      by_cases h4 : t4 = k
      · simp [h4]
      · by_cases h3 : t3 = k
        · simp [h4, h3]
        · simp [h4, h3]
    · intro k
      have hk0 : killBox [] = id := by
        funext x
        cases x; simp only [killBox, killAllL, id]; split <;> rfl
      simp [L.toS, setT, nqS, Eff.apply, lookup, hk0]
  have key : ∀ b : Bool, (b = true → ct = 0) → ∃ (xc : X) (sc : S) (xf : X) (sf : S) (v : AV), Big P H Y (.code f (cp [1, 0, 1] c) (nqS t3 t4 (.sl false z ct cs) b lq.toS) xc sc) ∧ (xc = .nor → Big P H Y (.code f (cp [1, 1] c) sc xf sf)) ∧ (xc ≠ .nor → xf = xc ∧ sf = sc) ∧
      (xf = .nor ∨ xf = .ret) ∧ resOf P sf fn.results.toList = some v ∧ WkV v r ∧ exitOk (lk []) sf ∧ exitB (lk []) sf = lk [] := by
    intro b hb
    obtain ⟨xc, lc, hbc, hw⟩ := (hB b hb).out
    rw [hs b] at hbc
    cases xc with
    | nor =>
      obtain ⟨xf, lf, hbf, h3, ⟨v, h4, h5⟩, h6, h7⟩ := hw
      exact ⟨.nor, lc.toS, xf, lf.toS, v, hbc, fun _ => hbf, fun h => absurd rfl h, h3, h4, h5, h6, h7⟩
    | ext j =>
      obtain ⟨h3, -⟩ := hw
      rcases h3 with h3 | h3 <;> cases h3
    | ret =>
      obtain ⟨h3, ⟨v, h4, h5⟩, h6, h7⟩ := hw
      exact ⟨.ret, lc.toS, .ret, lc.toS, v, hbc, fun h => (by cases h), fun _ => ⟨rfl, rfl⟩, h3, h4, h5, h6, h7⟩
  have kf := key false (fun h => by cases h)
  obtain ⟨xc0, sc0, xf0, sf0, v0, k0⟩ := kf
  by_cases hn : ct = 0
  · obtain ⟨xc1, sc1, xf1, sf1, v1, k1⟩ := key true (fun _ => hn)
    refine .bodyq i t3 t4 z ct cs lq.toS (fun b => cond b xc1 xc0) (fun b => cond b xf1 xf0) (fun b => cond b sc1 sc0) (fun b => cond b sf1 sf0) (fun b => cond b v1 v0) h1 (e1.trans (congrArg some hc)) e2 (of_decide_eq_true e3) ((congrArg (codeOk fn.ntmps) hc).symm.trans e4) (nilB_ok e5) hi ha ?_ ?_ ?_ ?_
    · intro b _; cases b; exact k0.1; exact k1.1
    · intro b _; cases b; exact k0.2.1; exact k1.2.1
    · intro b _; cases b; exact k0.2.2.1; exact k1.2.2.1
    · intro b _; cases b; exact k0.2.2.2; exact k1.2.2.2
  · refine .bodyq i t3 t4 z ct cs lq.toS (fun _ => xc0) (fun _ => xf0) (fun _ => sc0) (fun _ => sf0) (fun _ => v0) h1 (e1.trans (congrArg some hc)) e2 (of_decide_eq_true e3) ((congrArg (codeOk fn.ntmps) hc).symm.trans e4) (nilB_ok e5) hi ha ?_ ?_ ?_ ?_
    · intro b hb; cases b; exact k0.1; exact absurd (hb rfl) hn
    · intro b hb; cases b; exact k0.2.1; exact absurd (hb rfl) hn
    · intro b hb; cases b; exact k0.2.2.1; exact absurd (hb rfl) hn
    · intro b hb; cases b; exact k0.2.2.2; exact absurd (hb rfl) hn
end Evl

/-! Erb -/
namespace Evl
open Go

variable {P : Program} {t : TypeId}

/-- A struct of ints. -/
structure EqS (P : Program) (t : TypeId) : Prop where
  u : P.underlying t = some (.struct (P.fieldsOf t))
  f : ((P.fieldsOf t).toList.map fun f => (f.name ≠ "_" && P.plainKey f.type && decide (tint P f.type = some .i64), f.offset)) = (List.range (P.fieldsOf t).size).map fun i => (true, i)
  n : tsize P t = some (P.fieldsOf t).size
  h : P.stoodInHeld t = false
  g : P.eqGuardType P.depth t = false
/-- An array of ints. -/
structure EqA (P : Program) (t : TypeId) : Prop where
  u : ∃ n e i, P.underlying t = some (.array n e) ∧ P.info? e = some i ∧ P.cellsOf e = 1 ∧ P.plainKey e = true ∧ P.underlying e = some (.int .i64) ∧ tsize P t = some n
  g : P.eqGuardType P.depth t = false

theorem same_cons {c d : AV} {cs ds : List AV} {r : Bool} (hc : litInt c = true) (h : sameLits (c :: cs) (d :: ds) = some r) : ∃ k a b r', c = .lit (.int k a) ∧ d = .lit (.int k b) ∧ sameLits cs ds = some r' ∧ r = ((a == b) && r') := by
  unfold sameLits at h
  split at h
  · cases ‹_ :: _ = []›
  · rename_i k a xs k' b ys h1 h2
    cases h1; cases h2
    simp only [Option.ite_none_right_eq_some, Option.map_eq_some_iff] at h
    obtain ⟨rfl, r', h3, rfl⟩ := h
    exact ⟨k, a, b, r', rfl, rfl, h3, rfl⟩
  · rename_i h1 h2; cases h1; simp [litInt] at hc
  · cases h

theorem run_fields (w : World) (d : Nat) (xs ys : List Value) : ∀ (fs : List Field) (k : Nat) (r : Bool), (∀ (i : Nat) f, fs[i]? = some f → f.name ≠ "_" ∧ P.plainKey f.type = true ∧ P.underlying f.type = some (.int .i64) ∧ f.offset = k + i) → xs.length = k + fs.length → xs.length = ys.length →
    ((xs.drop k).map AV.lit).all litInt = true → sameLits ((xs.drop k).map .lit) ((ys.drop k).map .lit) = some r → (Op.eqFields (d + 1) xs.toArray ys.toArray fs).run P w = .ok r w := by
  intro fs
  induction fs with
  | nil =>
    intro k r _ h1 h2 _ h
    simp only [List.length_nil, Nat.add_zero] at h1
    rw [List.drop_eq_nil_of_le (by omega), List.drop_eq_nil_of_le (by omega)] at h
    simp only [List.map_nil, sameLits, Option.some.injEq] at h
    subst h
    simp [Op.eqFields]
  | cons f fs ih =>
    intro k r hf h1 h2 hi h
    simp only [List.length_cons] at h1
    obtain ⟨g1, g2, g3, g4⟩ := hf 0 f rfl
    have hx : k < xs.length := by omega
    have hy : k < ys.length := by omega
    rw [List.drop_eq_getElem_cons hx] at h hi
    rw [List.drop_eq_getElem_cons hy] at h
    simp only [List.map_cons, List.all_cons, Bool.and_eq_true] at h hi
    obtain ⟨kk, a, b, r', e1, e2, e3, rfl⟩ := same_cons hi.1 h
    have q1 : xs.toArray[f.offset]? = some (.int kk a) := by
      rw [g4, Nat.add_zero]
      have : xs[k] = .int kk a := by simpa using e1
      simp [List.getElem?_eq_getElem hx, this]
    have q2 : ys.toArray[f.offset]? = some (.int kk b) := by
      rw [g4, Nat.add_zero]
      have : ys[k] = .int kk b := by simpa using e2
      simp [List.getElem?_eq_getElem hy, this]
    have := ih (k + 1) r' (fun i f' hf' => by
      obtain ⟨j1, j2, j3, j4⟩ := hf (i + 1) f' (by simpa using hf')
      exact ⟨j1, j2, j3, by omega⟩) (by omega) h2 hi.2 e3
    simp only [Op.eqFields, g1, ne_eq, not_false_eq_true, if_true, Sem.run_bind, run_part_plain w g2 q1, run_part_plain w g2 q2, Result.andThen_ok, run_equalIn_int w d f.type kk .i64 a b g3]
    cases hab : (a == b)
    · simp
    · simpa using this

theorem run_items (w : World) (d : Nat) {e : TypeId} (g1 : P.plainKey e = true) (g2 : P.underlying e = some (.int .i64)) (xs ys : List Value) : ∀ (m k : Nat) (r : Bool), xs.length = k + m → xs.length = ys.length →
    ((xs.drop k).map AV.lit).all litInt = true → sameLits ((xs.drop k).map .lit) ((ys.drop k).map .lit) = some r → (Op.eqItems (d + 1) e 1 xs.toArray ys.toArray (List.range' k m)).run P w = .ok r w := by
  intro m
  induction m with
  | zero =>
    intro k r h1 h2 _ h
    rw [List.drop_eq_nil_of_le (by omega), List.drop_eq_nil_of_le (by omega)] at h
    simp only [List.map_nil, sameLits, Option.some.injEq] at h
    subst h
    simp [Op.eqItems]
  | succ m ih =>
    intro k r h1 h2 hi h
    have hx : k < xs.length := by omega
    have hy : k < ys.length := by omega
    rw [List.drop_eq_getElem_cons hx] at h hi
    rw [List.drop_eq_getElem_cons hy] at h
    simp only [List.map_cons, List.all_cons, Bool.and_eq_true] at h hi
    obtain ⟨kk, a, b, r', e1, e2, e3, rfl⟩ := same_cons hi.1 h
    have q1 : xs.toArray[k * 1]? = some (.int kk a) := by
      have : xs[k] = .int kk a := by simpa using e1
      simp [List.getElem?_eq_getElem hx, this]
    have q2 : ys.toArray[k * 1]? = some (.int kk b) := by
      have : ys[k] = .int kk b := by simpa using e2
      simp [List.getElem?_eq_getElem hy, this]
    have := ih (k + 1) r' (by omega) h2 hi.2 e3
    rw [List.range'_succ]
    simp only [Op.eqItems, Sem.run_bind, run_part_plain w g1 q1, run_part_plain w g1 q2, Result.andThen_ok, run_equalIn_int w d e kk .i64 a b g2]
    cases hab : (a == b)
    · simp
    · simpa using this

theorem EqS.run (E : EqS P t) (w : World) (xs ys : List Value) (hl : xs.length = ys.length) {r : Bool} (hn : tsize P t = some (xs.map AV.lit).length) (hi : (xs.map AV.lit).all litInt = true) (h : sameLits (xs.map .lit) (ys.map .lit) = some r) :
    (Op.equalIn 10000 t (.agg xs.toArray) (.agg ys.toArray)).run P w = .ok r w := by
  rw [run_equalIn_agg w 9999 t _ _ E.u E.h]
  refine run_fields w 9998 xs ys _ 0 r (fun i f hf => ?_) ?_ hl (by simpa using hi) (by simpa using h)
  · have := congrArg (fun l => l[i]?) E.f
    have hlt : i < (P.fieldsOf t).size := by simpa using (List.getElem?_eq_some_iff.1 hf).1
    simp only [List.getElem?_map, hf, Option.map_some, List.getElem?_range hlt, Option.some.injEq, Prod.mk.injEq, Bool.and_eq_true, decide_eq_true_eq] at this
    exact ⟨by simpa using this.1.1.1, this.1.1.2, tint_of this.1.2, by omega⟩
  · rw [E.n] at hn; simpa using hn.symm
theorem EqA.run (E : EqA P t) (w : World) (xs ys : List Value) (hl : xs.length = ys.length) {r : Bool} (hn : tsize P t = some (xs.map AV.lit).length) (hi : (xs.map AV.lit).all litInt = true) (h : sameLits (xs.map .lit) (ys.map .lit) = some r) :
    (Op.equalIn 10000 t (.agg xs.toArray) (.agg ys.toArray)).run P w = .ok r w := by
  obtain ⟨n, e, i, e1, e2, e3, e4, e5, e6⟩ := E.u
  rw [run_equalIn_array w 9999 _ _ e1 e2, e3, List.range_eq_range']
  refine run_items w 9998 e4 e5 xs ys n 0 r ?_ hl (by simpa using hi) (by simpa using h)
  rw [e6] at hn; simpa using hn.symm

theorem eqt_of {H : Hints} (h : ∀ t, H.eqt t = true → EqS P t ∨ EqA P t) : EqtOk P H := by
  intro t ht xs ys w hl hx hy cs ds r hc hd hn hi hs op xo yo
  subst hc; subst hd
  have hg : P.eqGuardType P.depth t = false := by rcases h t ht with E | E; exact E.g; exact E.g
  have hr : (Op.equalIn 10000 t (.agg xs.toArray) (.agg ys.toArray)).run P w = .ok r w := by
    rcases h t ht with E | E
    · exact E.run w xs ys hl hn hi hs
    · exact E.run w xs ys hl hn hi hs
  refine ⟨fun e => ?_, fun e => ?_⟩
  · subst e
    simp only [Sem.run_bind, run_eqGuard_agg w .eql t xo yo xs.toArray ys.toArray hg, Result.andThen_ok, run_eql_struct, hr]
  · subst e
    simp only [Sem.run_bind, run_eqGuard_agg w .neq t xo yo xs.toArray ys.toArray hg, Result.andThen_ok, run_neq_struct, hr]
end Evl
