/- Operations with obligations: what is told beside, and that it is right. No condition. -/
import Derived.Test.YtpjeibdllddkjaaExa
namespace Evl
open Go

variable {P : Program} {H : Hints} {fid : FuncId}

/-- What is told beside an operation. -/
inductive Or where
  | val (v : AV)
  | unit
  | cells (cs : List AV)
  | rows (ns : List (List AV))
  | app (own : Bool) (m : Nat) (cs : List AV)
  | mk (n : Nat) (cs : List AV)
  | call (m : List (Bool × Nat)) (ns : List (List AV)) (r : AV) (bs : List (Nat × Box))
  | fix (t : Nat) (v : AV)
  | fixb (b : Nat) (x : Box)
  | virt (i b sz : Nat)
  | virtc (k : Nat) (y : Box) (j b sz : Nat)
  | wkb (b : Nat) (y x : Box)

/-- An element of a slice. -/
def IxSl (o : Bool) (z n : Nat) (cs : List AV) (j : Int) (w : AV) : Prop := 0 ≤ j ∧ j < n ∧ j.toNat * z ≤ cs.length ∧ w = .cptr (if o then shareL (cs.drop (j.toNat * z)) else cs.drop (j.toNat * z))
def InR (j : Int) (n : Nat) : Prop := 0 ≤ j ∧ j < n
def LdAg (cs : List AV) (off k : Nat) (seg : List AV) : Prop := off + k ≤ cs.length ∧ seg = (cs.drop off).take k
def LdOne (cs : List AV) (off : Nat) (c : AV) : Prop := cs[off]? = some c
def StAt (cs : List AV) (off k : Nat) (ys new : List AV) : Prop := off + k ≤ cs.length ∧ new = cs.take off ++ ys ++ cs.drop (off + k)
def SlS (z n : Nat) (cs : List AV) (l u : Int) (o : Bool) (w : AV) : Prop := cs.length = n * z ∧ 0 ≤ l ∧ l ≤ u ∧ u ≤ n ∧ w = .sl false z (u.toNat - l.toNat) (((if o then shareL cs else cs).drop (l.toNat * z)).take ((u.toNat - l.toNat) * z))
def SlT (v : ByteArray) (l u : Int) (w : AV) : Prop := 0 ≤ l ∧ l ≤ u ∧ u ≤ v.size ∧ w = .lit (.string (v.extract l.toNat u.toNat))
def StrIx (t : ByteArray) (j : Int) (w : AV) : Prop := ∃ h : 0 ≤ j ∧ j.toNat < t.size, w = .lit (.int .u8 (t[j.toNat]'h.2).toNat)
def AppB (bytes sz : Nat) (n : Nat) : Prop := n * bytes ≤ limBytes * sz ∧ n ≤ 9223372036854775807 * sz
def MkP (k : Int) (bytes : Nat) (z : List AV) (n : Nat) (cs : List AV) : Prop := 0 ≤ k ∧ k ≤ 9223372036854775807 ∧ k.toNat * bytes ≤ limBytes ∧ n = k.toNat ∧ cs = (List.replicate k.toNat z).flatten

def loadH (P : Program) (H : Hints) (fid d : Nat) (t : TypeId) (s : S) : AV → Or → Option (Eff × List Prop)
  | .ptr b off, .rows ns =>
    match s.b b, tsize P t, tagg P t with
    | some x, some k, some true =>
      if 0 < k ∧ off + k ≤ x.cs.length ∧ H.mv fid d = false then
        (match shareH ns ((x.cs.drop off).take k) with
        | some (ys, _, ps) => some ({ val := .agg ys, rd := [b] }, ps)
        | none => none)
      else none
    | some x, some 1, some false =>
      match x.cs[off]?, ns with
      | some (.sl true sz n ds), [ys] => some ({ val := .sl false sz n ys, rd := [b] }, [shareL ds = ys])
      | _, _ => none
    | _, _, _ => none
  | .ptr b off, .cells seg =>
    match s.b b, tsize P t, tagg P t with
    | some x, some k, some true => if 0 < k ∧ H.mv fid d = false then some ({ val := .agg (shareL seg), rd := [b] }, [LdAg x.cs off k seg]) else none
    | _, _, _ => none
  | .ptr b off, .val c =>
    match s.b b, tsize P t, tagg P t with
    | some x, some 1, some false => match c with
      | .sl true _ _ _ => none
      | .bad => none
      | c => some ({ val := c, rd := [b] }, [LdOne x.cs off c])
    | _, _, _ => none
  | _, _ => none
theorem loadH_ok {d : Nat} {t : TypeId} {s : S} {v : AV} {q : Or} {e : Eff} {ps : List Prop} (h : loadH P H fid d t s v q = some (e, ps)) (hp : All ps) : loadE P H fid d t s v = some e := by
  unfold loadH at h
  split at h
  · split at h
    · rename_i x k hb ht hg
      simp only [Option.ite_none_right_eq_some] at h
      obtain ⟨hc, h⟩ := h
      split at h
      · rename_i hs
        simp only [Option.some.injEq, Prod.mk.injEq] at h
        obtain ⟨rfl, rfl⟩ := h
        simp only [loadE, hb, ht, hg, hc.2.2, shareH_ok hs hp]
        rw [if_pos ⟨hc.1, hc.2.1⟩]; simp
      · cases h
    · rename_i x hb ht hg
      split at h
      · rename_i hx
        simp only [Option.some.injEq, Prod.mk.injEq] at h
        obtain ⟨rfl, rfl⟩ := h
        simp only [loadE, hb, ht, hg, hx, hp.1]
      · cases h
    · cases h
  · split at h
    · rename_i x k hb ht hg
      simp only [Option.ite_none_right_eq_some, Option.some.injEq, Prod.mk.injEq] at h
      obtain ⟨hc, rfl, rfl⟩ := h
      simp only [loadE, hb, ht, hg, hc.2]
      rw [if_pos ⟨hc.1, hp.1.1⟩, hp.1.2]
      simp
    · cases h
  · split at h
    · rename_i x hb ht hg
      split at h
      · cases h
      · cases h
      · rename_i hn1 hn2
        simp only [Option.some.injEq, Prod.mk.injEq] at h
        obtain ⟨rfl, rfl⟩ := h
        have hl := hp.1
        unfold LdOne at hl
        simp only [loadE, hb, ht, hg, hl]
    · cases h
  · cases h

/-- A store: the row's cells behind it are told, where its place is not known. -/
def storeH (P : Program) (t : TypeId) (s : S) (a : AV) (xo : Operand) (q : Option Or) : Option (Eff × List Prop) :=
  match a, tsize P t, cellsOf (s.ev xo) with
  | .ptr b off, some k, some cs =>
    match s.b b with
    | some x =>
      if x.st = true ∧ cs.length = k ∧ 0 < k then
        match (if x.sz = 0 then some ((cs, []), []) else freezeH s.b cs) with
        | some ((ys, ks), ps) => if b ∈ ks then none else
          (match q with
          | none => if off + k ≤ x.cs.length then some ({ val := .bad, set := given xo (s.ev xo), kl := ks, put := [(b, { x with cs := x.cs.take off ++ ys ++ x.cs.drop (off + k) })], rd := b :: ks }, ps) else none
          | some (.cells new) => some ({ val := .bad, set := given xo (s.ev xo), kl := ks, put := [(b, { x with cs := new })], rd := b :: ks }, StAt x.cs off k ys new :: ps)
          | _ => none)
        | none => none
      else none
    | none => none
  | _, _, _ => none
theorem storeH_ok {t : TypeId} {s : S} {a : AV} {xo : Operand} {q : Option Or} {e : Eff} {ps : List Prop} (h : storeH P t s a xo q = some (e, ps)) (hp : All ps) : storeE P t s a xo = some e := by
  unfold storeH at h
  split at h
  · rename_i b off k cs ht hc
    split at h
    · rename_i x hb
      simp only [Option.ite_none_right_eq_some] at h
      obtain ⟨⟨h1, h2, h3⟩, h⟩ := h
      split at h
      · rename_i ys ks qs hf
        simp only [Option.ite_none_left_eq_some] at h
        obtain ⟨hn, h⟩ := h
        have key : ∀ new, off + k ≤ x.cs.length → All qs → new = x.cs.take off ++ ys ++ x.cs.drop (off + k) → storeE P t s (.ptr b off) xo = some { val := .bad, set := given xo (s.ev xo), kl := ks, put := [(b, { x with cs := new })], rd := b :: ks } := by
          intro new hl hq hnew
          simp only [storeE, ht, hc, hb]
          rw [if_pos ⟨h1, h2, hl, h3⟩]
          split at hf
          · rename_i hz
            simp only [Option.some.injEq, Prod.mk.injEq] at hf
            obtain ⟨⟨rfl, rfl⟩, -⟩ := hf
            rw [if_pos hz, hnew]
          · rename_i hz
            rw [if_neg hz, hnew]
            simp only [freezeH_ok hf hq, if_neg hn]
        split at h
        · simp only [Option.ite_none_right_eq_some, Option.some.injEq, Prod.mk.injEq] at h
          obtain ⟨hl, rfl, rfl⟩ := h
          exact key _ hl hp rfl
        · simp only [Option.some.injEq, Prod.mk.injEq] at h
          obtain ⟨rfl, rfl⟩ := h
          exact key _ hp.1.1 hp.2 hp.1.2
        · cases h
      · cases h
    · cases h
  · cases h

def appArgH (s : S) (sz : Nat) (own : Bool) : AV → Option ((List AV × List Nat × List Nat) × List Prop)
  | .nil => some (([], [], []), [])
  | .sl false z n cs => if z = sz then some ((cs, [], []), [cs.length = n * sz]) else none
  | .msl b n => match s.b b with
    | some r => if r.sz = sz then some ((r.cs, if own then [b] else [], [b]), [r.cs.length = n * sz, hasOwnL r.cs = own]) else none
    | none => none
  | _ => none
theorem appArgH_ok {s : S} {sz : Nat} {own : Bool} {v : AV} {r ps} (h : appArgH s sz own v = some (r, ps)) (hp : All ps) : appArg s sz v = some r := by
  unfold appArgH at h
  split at h
  · simp only [Option.some.injEq, Prod.mk.injEq] at h; obtain ⟨rfl, -⟩ := h; rfl
  · simp only [Option.ite_none_right_eq_some, Option.some.injEq, Prod.mk.injEq] at h
    obtain ⟨hz, rfl, rfl⟩ := h
    simp only [appArg, if_pos (And.intro hz hp.1)]; simp
  · split at h
    · rename_i hb
      simp only [Option.ite_none_right_eq_some, Option.some.injEq, Prod.mk.injEq] at h
      obtain ⟨hz, rfl, rfl⟩ := h
      simp only [appArg, hb, if_pos (And.intro hz hp.1), hp.2.1]
      cases own <;> simp
    · cases h
  · cases h

def appendH (P : Program) (d : Nat) (st : TypeId) (s : S) (x y : AV) (own : Bool) (m : Nat) (new : List AV) : Option (Eff × List Prop) :=
  match tslice P st with
  | some (e, sz, bytes) => if sz = 0 ∨ (tzero P e).map (·.length) ≠ some sz then none else
    match appArgH s sz own y with
    | some ((ys, ks, rs), ps) => if d ∈ ks then none else
      match x with
      | .msl b n => match s.b b with
        | some r => if r.sz = sz ∧ b ∉ ks then
            some ({ val := .msl d m, kl := d :: b :: ks, put := [(d, ⟨r.st, sz, new⟩)], rd := b :: rs }, (r.cs.length = n * sz) :: AppB bytes sz (r.cs.length + ys.length) :: (new = r.cs ++ ys) :: (n + ys.length / sz = m) :: ps)
          else none
        | none => none
      | _ => none
    | none => none
  | none => none
theorem appendH_ok {d : Nat} {st : TypeId} {s : S} {x y : AV} {own : Bool} {m : Nat} {new : List AV} {e : Eff} {ps : List Prop} (h : appendH P d st s x y own m new = some (e, ps)) (hp : All ps) : appendE P d st s x y = some e := by
  unfold appendH at h
  split at h
  · rename_i hts
    simp only [Option.ite_none_left_eq_some] at h
    obtain ⟨hz, h⟩ := h
    split at h
    · rename_i ha
      simp only [Option.ite_none_left_eq_some] at h
      obtain ⟨hd, h⟩ := h
      split at h
      · split at h
        · rename_i hb
          simp only [Option.ite_none_right_eq_some, Option.some.injEq, Prod.mk.injEq] at h
          obtain ⟨⟨h1, h2⟩, rfl, rfl⟩ := h
          obtain ⟨p1, p2, p3, p5, p4⟩ := hp
          simp only [appendE, hts, if_neg hz, appArgH_ok ha p4, if_neg hd, hb]
          rw [if_pos ⟨h1, p1, h2, p2.1, p2.2⟩, p3, p5]
        · cases h
      · cases h
    · cases h
  · cases h

def sliceH (P : Program) (t : TypeId) (s : S) (lo hi : Option Operand) (w : AV) : AV → Option (Eff × List Prop)
  | .lit (.string v) => match bnd s 0 lo, bnd s v.size hi with
    | some l, some u => if tstr P t = true then some ({ val := w }, [SlT v l u w]) else none
    | _, _ => none
  | .sl o z n cs => match bnd s 0 lo, bnd s n hi, tslice P t with
    | some l, some u, some (_, z', _) => if z = z' then some ({ val := w }, [SlS z n cs l u o w]) else none
    | _, _, _ => none
  | .msl b n => match s.b b with
    | some r => match bnd s 0 lo, bnd s n hi, tslice P t with
      | some l, some u, some (_, z', _) => if r.sz = z' ∧ z' ≠ 0 then some ({ val := w, put := [(b, { r with st := false })], rd := [b] }, [SlS z' n r.cs l u true w]) else none
      | _, _, _ => none
    | none => none
  | _ => none
theorem sliceH_ok {t : TypeId} {s : S} {lo hi : Option Operand} {w v : AV} {e : Eff} {ps : List Prop} (h : sliceH P t s lo hi w v = some (e, ps)) (hp : All ps) : sliceE P t s lo hi v = some e := by
  unfold sliceH at h
  split at h
  · split at h
    · rename_i hl hu
      simp only [Option.ite_none_right_eq_some, Option.some.injEq, Prod.mk.injEq] at h
      obtain ⟨ht, rfl, rfl⟩ := h
      obtain ⟨p1, p2, p3, p4⟩ := hp.1
      simp only [sliceE, hl, hu]; rw [if_pos ⟨ht, p1, p2, p3⟩, p4]
    · cases h
  · split at h
    · rename_i hl hu ht
      simp only [Option.ite_none_right_eq_some, Option.some.injEq, Prod.mk.injEq] at h
      obtain ⟨hz, rfl, rfl⟩ := h
      obtain ⟨p1, p2, p3, p4, p5⟩ := hp.1
      simp only [sliceE, hl, hu, ht]; rw [if_pos ⟨hz, p1, p2, p3, p4⟩, p5]
    · cases h
  · split at h
    · rename_i hb
      split at h
      · rename_i hl hu ht
        simp only [Option.ite_none_right_eq_some, Option.some.injEq, Prod.mk.injEq] at h
        obtain ⟨⟨h1, h2⟩, rfl, rfl⟩ := h
        obtain ⟨p1, p2, p3, p4, p5⟩ := hp.1
        simp only [sliceE, hb, hl, hu, ht]; rw [if_pos ⟨h1, p1, h2, p2, p3, p4⟩, p5]; simp
      · cases h
    · cases h
  · cases h

def buildSliceH (P : Program) (d : Nat) (t : TypeId) (len : Nat) (parts : List (Nat × Operand)) (s : S) : Option (Eff × List Prop) :=
  match tslice P t, partsOf s parts with
  | some (e, sz, _), some ps => match tzero P e with
    | some z => if sz ≠ 0 ∧ z.length = sz ∧ len * sz ≤ limCells ∧ noDup ((partsGiven s parts).map (·.1)) = true then
        match fillG (fun i => some (i * sz, sz)) ps ((List.replicate len z).flatten) with
        | some cs => (match freezeH s.b cs with
          | some ((ys, ks), os) => some ({ val := .msl d len, set := partsGiven s parts, kl := d :: ks, put := [(d, ⟨true, sz, ys⟩)], rd := ks }, os)
          | none => none)
        | none => none
      else none
    | none => none
  | _, _ => none

/-- An operation with what is told beside: what it does, and what it takes. -/
def opH (P : Program) (H : Hints) (fid : FuncId) (o : Oper) (s : S) (q : Option Or) : Option (Eff × List Prop) :=
  match o.op, q with
  | .indexAddr t x i, some q => match s.ev i with
    | .lit (.int _ j) => match s.ev x, tarr P t, tslice P t, q with
      | .sl o z n cs, none, some (_, z', _), .val w => if z = z' then some ({ val := w }, [IxSl o z n cs j w]) else none
      | .msl b n, none, some (_, z', _), .unit => match s.b b with
        | some r => if r.sz = z' then some ({ val := .ptr b (j.toNat * z'), rd := [b] }, [InR j n]) else none
        | none => none
      | .ptr b k, some (n, z), _, .unit => some ({ val := .ptr b (k + j.toNat * z) }, [InR j n])
      | _, _, _, _ => none
    | _ => none
  | .load t a, some q => match o.dst with
    | some d => loadH P H fid d t s (s.ev a) q
    | none => none
  | .store t a x, q => if o.dst = none then storeH P t s (s.ev a) x q else none
  | .buildSlice t len parts, none => match o.dst with
    | some d => buildSliceH P d t len parts.toList s
    | none => none
  | .call { callee := .builtin .append, args, argTypes }, some (.app own m new) => (match o.dst, args.toList, argTypes.toList with
      | some d, [x, y], [t, u] => if t = u then appendH P d t s (s.ev x) (s.ev y) own m new else none
      | _, _, _ => none)
  | .slice t x lo hi mx, some (.val w) => if mx.isSome then none else sliceH P t s lo hi w (s.ev x)
  | .makeSlice t n _c, some (.mk m cs) => match o.dst, tslice P t, s.ev n, s.ev _c with
    | some d, some (e, sz, bytes), .lit (.int .i64 k), .lit (.int .i64 c) => match tzero P e with
      | some z => if sz ≠ 0 ∧ z.length = sz then some ({ val := .msl d m, kl := [d], put := [(d, ⟨true, sz, cs⟩)] }, [c = k, MkP k bytes z m cs]) else none
      | none => none
    | _, _, _, _ => none
  | .binOp op _ x y _, some (.val (.lit v)) => match s.ev x, s.ev y with
    | .lit a, .lit b => some ({ val := .lit v }, [binV op a b = some v])
    | _, _ => none
  | .index ty x i, some (.val w) => match s.ev x, s.ev i with
    | .lit (.string t), .lit (.int _ j) => if tstr P ty = true then some ({ val := w }, [StrIx t j w]) else none
    | _, _ => none
  | .call { callee := .builtin .max, args, .. }, some (.val (.lit (.int k m))) => some ({ val := .lit (.int k m) }, [maxInts (args.toList.map s.ev) = some (k, m)])
  | .call { callee := .builtin .min, args, .. }, some (.val (.lit (.int k m))) => some ({ val := .lit (.int k m) }, [minInts (args.toList.map s.ev) = some (k, m)])
  | _, none => match opE P H fid o s with
    | some e => some (e, [])
    | none => none
  | _, _ => none

theorem opH_ok {o : Oper} {s : S} {q : Option Or} {e : Eff} {ps : List Prop} (h : opH P H fid o s q = some (e, ps)) (hp : All ps) : opE P H fid o s = some e := by
  unfold opH at h
  split at h
  · rename_i hop
    split at h
    · rename_i hi
      split at h
      · rename_i hx ht1 ht2
        simp only [Option.ite_none_right_eq_some, Option.some.injEq, Prod.mk.injEq] at h
        obtain ⟨hz, rfl, rfl⟩ := h
        obtain ⟨p1, p2, p3, p4⟩ := hp.1
        simp only [opE, hop, hi, hx, ht1, ht2]
        cases ‹Bool›
        · simp only [Bool.false_eq_true, if_false] at p4 ⊢; rw [if_pos ⟨hz, p1, p2, p3⟩, p4]
        · simp only [if_true] at p4 ⊢; rw [if_pos ⟨hz, p1, p2, p3⟩, p4]
      · rename_i hx ht1 ht2
        split at h
        · rename_i hb
          simp only [Option.ite_none_right_eq_some, Option.some.injEq, Prod.mk.injEq] at h
          obtain ⟨hz, rfl, rfl⟩ := h
          obtain ⟨p1, p2⟩ := hp.1
          simp only [opE, hop, hi, hx, ht1, ht2, hb]
          rw [if_pos ⟨hz, p1, p2⟩]
        · cases h
      · rename_i hx ht1
        simp only [Option.some.injEq, Prod.mk.injEq] at h
        obtain ⟨rfl, rfl⟩ := h
        obtain ⟨p1, p2⟩ := hp.1
        simp only [opE, hop, hi, hx, ht1]
        rw [if_pos ⟨p1, p2⟩]
      · cases h
    · cases h
  · rename_i hop
    split at h
    · rename_i hd
      simp only [opE, hop, hd]
      exact loadH_ok h hp
    · cases h
  · rename_i hop
    simp only [Option.ite_none_right_eq_some] at h
    simp only [opE, hop, if_pos h.1]
    exact storeH_ok h.2 hp
  · rename_i hop
    split at h
    · rename_i hd
      unfold buildSliceH at h
      split at h
      · rename_i ht hps
        split at h
        · rename_i hz
          simp only [Option.ite_none_right_eq_some] at h
          obtain ⟨hc, h⟩ := h
          split at h
          · rename_i hf
            split at h
            · rename_i hfr
              simp only [Option.some.injEq, Prod.mk.injEq] at h
              obtain ⟨rfl, rfl⟩ := h
              simp only [opE, hop, hd, ht, hps, hz, if_pos hc, hf, freezeH_ok hfr hp]
            · cases h
          · cases h
        · cases h
      · cases h
    · cases h
  · rename_i hop
    split at h
    · rename_i hd ha ht
      simp only [Option.ite_none_right_eq_some] at h
      simp only [opE, hop, hd, ha, ht, if_pos h.1]
      exact appendH_ok h.2 hp
    · cases h
  · rename_i hop
    simp only [Option.ite_none_left_eq_some] at h
    simp only [opE, hop, if_neg h.1]
    exact sliceH_ok h.2 hp
  · rename_i hop
    split at h
    · rename_i hd ht hn hc
      split at h
      · rename_i hz
        simp only [Option.ite_none_right_eq_some, Option.some.injEq, Prod.mk.injEq] at h
        obtain ⟨⟨h1, h2⟩, rfl, rfl⟩ := h
        obtain ⟨p0, ⟨p1, p2, p3, p4, p5⟩, -⟩ := hp
        simp only [opE, hop, hd, ht, hn, hc, hz]
        rw [if_pos ⟨h1, h2, p0, p1, p2, p3⟩, p4, p5]
      · cases h
    · cases h
  · rename_i hop
    split at h
    · rename_i hx hy
      simp only [Option.some.injEq, Prod.mk.injEq] at h
      obtain ⟨rfl, rfl⟩ := h
      simp only [opE, hop, hx, hy, hp.1]
    · cases h
  · rename_i hop
    split at h
    · rename_i hx hi
      simp only [Option.ite_none_right_eq_some, Option.some.injEq, Prod.mk.injEq] at h
      obtain ⟨hz, rfl, rfl⟩ := h
      obtain ⟨⟨p1, p2⟩, -⟩ := hp
      simp only [opE, hop, hx, hi]
      rw [dif_pos p1, if_pos hz, p2]
    · cases h
  · rename_i hop
    simp only [Option.some.injEq, Prod.mk.injEq] at h
    obtain ⟨rfl, rfl⟩ := h
    simp only [opE, hop, hp.1, Option.map_some]
  · rename_i hop
    simp only [Option.some.injEq, Prod.mk.injEq] at h
    obtain ⟨rfl, rfl⟩ := h
    simp only [opE, hop, hp.1, Option.map_some]
  · split at h
    · rename_i he
      simp only [Option.some.injEq, Prod.mk.injEq] at h
      obtain ⟨rfl, -⟩ := h
      exact he
    · cases h
  · cases h
end Evl
