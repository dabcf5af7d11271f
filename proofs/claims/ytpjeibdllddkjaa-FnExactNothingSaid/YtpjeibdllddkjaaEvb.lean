/- The abstract machine's runs. No condition. -/
import Derived.Test.YtpjeibdllddkjaaEva
namespace Evl
open Go

inductive X where
  | nor
  | ext (id : Nat)
  | ret

/-- Is the operation wanted? 'none': its guard is no bool. -/
def gd (ops : Array Oper) (o : Oper) (s : S) : Option Bool :=
  match o.guard with
  | none => some true
  | some (j, want) => match (ops[j]?).bind (·.dst) with
    | some d => match s.t d with
      | .lit (.bool b) => some (b == want)
      | .tup [] => some false
      | _ => none
    | none => none

/-- What an operation did, for the look at other orders. -/
structure LogE where
  i : Nat
  dst : Option Nat
  looks : List Nat
  ment : List Nat
  nb : Bool
  eff : Eff

mutual
/-- Is nothing in it gone? -/
def noBad : AV → Bool
  | .bad => false
  | .agg cs => noBadL cs
  | .tup cs => noBadL cs
  | .fnv _ cs => noBadL cs
  | _ => true
def noBadL : List AV → Bool
  | [] => true
  | x :: xs => noBad x && noBadL xs
end

def idsB (x : Box) : List Nat := if x.sz = 0 then idsL x.cs else []
def boxIds (s : S) (l : List Nat) : List Nat := l.flatMap fun b => match s.b b with | some x => idsB x | none => []

def mkLog (ops : Array Oper) (i : Nat) (o : Oper) (s : S) (e : Eff) : LogE where
  i := i
  dst := o.dst
  looks := o.looksAt ops
  ment := (o.op.operands.toList.flatMap fun x => ids (s.ev x)) ++ boxIds s e.rd ++ ids e.val ++ (e.put.flatMap fun p => idsB p.2) ++ (e.set.flatMap fun p => ids p.2)
  nb := (o.looksAt ops).all (fun t => noBad (s.t t)) && e.rd.all fun b => match s.b b with | some x => x.sz != 0 || noBadL x.cs | none => true
  eff := e

def disj (l l' : List Nat) : Bool := l.all fun x => !l'.contains x

def oneWay (x y : LogE) : Bool :=
  (match x.dst with | some d => !y.looks.contains d && y.dst != some d && !(y.eff.set.map (·.1)).contains d | none => true) &&
  disj (x.eff.set.map (·.1)) (y.looks ++ y.eff.set.map (·.1)) &&
  disj (x.eff.put.map (·.1)) (y.eff.rd ++ y.eff.put.map (·.1)) &&
  disj x.eff.kl (y.ment ++ y.eff.rd ++ y.eff.put.map (·.1) ++ y.eff.kl)
def indep (x y : LogE) : Bool := oneWay x y && oneWay y x

/-- Any two operations that are not ordered leave each other alone. -/
def drawOk (ops : Array Oper) (lg : List LogE) : Bool :=
  (lg.all fun x => x.nb) && ((List.range ops.size).all fun i => match ops[i]? with | some o => o.after.all fun e => !Region.binds .any e || e.on < i | none => true) &&
  lg.all fun x => lg.all fun y => !(x.i < y.i) || ((Region.before ops).getD y.i 0).testBit x.i || indep x y

def calleeOf (o : Oper) (s : S) : Option (FuncId × List Operand × List AV) :=
  match o.op with
  | .call { callee := .value x, args, .. } => match s.ev x with
    | .lit (.func (.func f) _ _) => some (f, args.toList, [])
    | .fnv f caps => some (f, args.toList, caps)
    | _ => none
  | _ => none

def bxOf (s : S) : List (Nat × Nat) → Nat → Option Box
  | [], _ => none
  | (i, b) :: l, k => if k = 1000 + i then s.b b else bxOf s l k

def backs (bx' : Nat → Option Box) : List (Nat × Nat) → Option (List (Nat × Box))
  | [] => some []
  | (i, b) :: l => match bx' (1000 + i), backs bx' l with
    | some x, some r => some ((b, x) :: r)
    | _, _ => none

/-- What a call that came back does. -/
def callE (dst : Option Nat) (p : Prep) (r : AV) (bx' : Nat → Option Box) : Option Eff :=
  match backs bx' p.mts with
  | none => none
  | some pb =>
    if (p.tmp ≠ [] ∧ (hasSh r || pb.any fun q => hasShL q.2.cs) = true) ∨ (pb.all fun q => cleanL q.2.cs) = false then none else
    let rd := p.tmp ++ p.kl ++ p.mts.map (·.2)
    match r, dst with
    | .sl true sz n cs, some d =>
      if sz ≠ 0 ∧ d ∉ pb.map (·.1) then some { val := .msl d n, set := p.set, kl := d :: p.kl, put := (d, ⟨false, sz, cs⟩) :: pb, rd := rd } else none
    | .nbx cs, some d => if d ∉ pb.map (·.1) then some { val := .ptr d 0, set := p.set, kl := d :: p.kl, put := (d, ⟨true, 0, cs⟩) :: pb, rd := rd } else none
    | .bad, _ => none
    | v, _ => some { val := v, set := p.set, kl := p.kl, put := pb, rd := rd }

/-- One result: its value, and the boxes whose trees went into it. -/
def resE (P : Program) (s : S) : ResultVar → Option (AV × List Nat × List Nat)
  | .tmp t => match s.t t with
    | .msl r n => match freezeL s.b [.msl r n] with
      | some ([y], ks) => some (y, ks, [t])
      | _ => none
    | .agg cs => match freezeL s.b cs with
      | some (ys, ks) => some (.agg ys, ks, [t])
      | none => none
    | .ptr b 0 => match s.b b with
      | some x => if b < 1000 ∧ x.sz = 0 ∧ x.st = true ∧ cleanL x.cs then some (.nbx x.cs, [b], [t]) else none
      | none => none
    | .lit v => some (.lit v, [], [t])
    | .nil => some (.nil, [], [t])
    | .sl o sz n cs => some (.sl o sz n cs, [], [t])
    | _ => none
  | .cell a t => match s.t a, tsize P t, tagg P t with
    | .ptr b 0, some k, some ag => match s.b b with
      | some x => if b < 1000 ∧ x.cs.length = k ∧ x.sz = 0 then
          match freezeL s.b x.cs with
          | some (ys, ks) => if b ∈ ks then none else
            (match ag, ys with
            | true, _ => some (.agg ys, b :: ks, [])
            | false, [y] => some (y, b :: ks, [])
            | _, _ => none)
          | none => none
        else none
      | none => none
    | _, _, _ => none

def resL (P : Program) (s : S) : List ResultVar → Option (List AV × List Nat × List Nat)
  | [] => some ([], [], [])
  | x :: xs => match resE P s x, resL P s xs with
    | some (v, ks, ts), some (vs, ls, us) => if disj ks ls && disj ts us && ks.all (· < 1000) then some (v :: vs, ks ++ ls, ts ++ us) else none
    | _, _ => none

def isNbx : AV → Bool
  | .nbx _ => true
  | _ => false
def resOf (P : Program) (s : S) (l : List ResultVar) : Option AV :=
  match resL P s l with
  | some ([v], _, _) => some v
  | some (vs, _, _) => if vs.any isNbx then none else some (.tup vs)
  | none => none

def S0 (args : List AV) (bx : Nat → Option Box) : S where
  t := fun i => match args[i]? with | some x => x | none => .bad
  b := bx

/-- The borrowed boxes at the end. -/
def exitOk (bx : Nat → Option Box) (s : S) : Prop := ∀ i x, bx i = some x → 1000 ≤ i ∧ ∃ y, s.b i = some y ∧ cleanL y.cs = true ∧ y.sz = 0 ∧ y.st = true ∧ y.cs.length = x.cs.length
def exitB (bx : Nat → Option Box) (s : S) : Nat → Option Box := fun i => match bx i with | some _ => s.b i | none => none

/-- Every operation's slot is one of the N slots. -/
def opsOk (N : Nat) (ops : Array Oper) : Bool := ops.all fun o => match o.dst with | some d => d < N | none => true
def codeOk (N : Nat) : Code → Bool
  | .region _ ops _ => opsOk N ops
  | .seq a b => codeOk N a && codeOk N b
  | .cond _ a b => codeOk N a && codeOk N b
  | .block _ a => codeOk N a
  | .loop a => codeOk N a
  | _ => true

inductive Judg where
  | ops (fid : FuncId) (ops : Array Oper) (l : List Nat) (s s' : S) (lg : List LogE)
  | code (fid : FuncId) (c : Code) (s : S) (x : X) (s' : S)
  | call (f : FuncId) (args : List AV) (bx : Nat → Option Box) (r : AV) (bx' : Nat → Option Box)

/-- Less is told: of a cell, of a value, of a state. -/
def WkC (x y : AV) : Prop := y = x ∨ y = .bad ∨ y = share x ∨ (x = .nil ∧ ∃ o z, y = .sl o z 0 [])
def WkCs : List AV → List AV → Prop
  | [], [] => True
  | x :: xs, y :: ys => WkC x y ∧ WkCs xs ys
  | _, _ => False
def WkU (x y : AV) : Prop := WkC x y ∨ ∃ cs ds, x = .agg cs ∧ y = .agg ds ∧ WkCs cs ds
def WkT : List AV → List AV → Prop
  | [], [] => True
  | x :: xs, y :: ys => WkU x y ∧ WkT xs ys
  | _, _ => False
def WkV (x y : AV) : Prop := WkU x y ∨ ∃ cs ds, x = .tup cs ∧ y = .tup ds ∧ WkT cs ds
def WkB (x y : Box) : Prop := y.st = x.st ∧ y.sz = x.sz ∧ WkCs x.cs y.cs
def WkS (s u : S) : Prop := (∀ i, WkV (s.t i) (u.t i)) ∧ ∀ b y, u.b b = some y → ∃ x, s.b b = some x ∧ WkB x y

/-- A nil slice in a slot, as a row that is nil as yet. -/
def virtS (i b sz : Nat) (s : S) : S := ({ val := .msl b 0, kl := [b], put := [(b, ⟨true, sz, []⟩)] } : Eff).apply (some i) s
/-- The same, in a box. -/
def virtC (k : Nat) (y : Box) (j b sz : Nat) (s : S) : S := ({ val := .bad, kl := [b], put := [(b, ⟨true, sz, []⟩), (k, { y with cs := (killL b y.cs).set j (.msl b 0) })] } : Eff).apply none s

def skipE : Eff := { val := .tup [] }

inductive Big (P : Program) (H : Hints) (Y : FuncId → List AV → (Nat → Option Box) → AV → (Nat → Option Box) → Prop) : Judg → Prop
  | nil {fid ops s} : Big P H Y (.ops fid ops [] s s [])
  | skip {fid ops i l o s s' lg} : ops[i]? = some o → gd ops o s = some false → Big P H Y (.ops fid ops l (skipE.apply o.dst s) s' lg) →
      Big P H Y (.ops fid ops (i :: l) s s' (mkLog ops i o s skipE :: lg))
  | step {fid ops i l o s s' lg e} : ops[i]? = some o → gd ops o s = some true → opE P H fid o s = some e → e.kl.all (· < 1000) = true →
      Big P H Y (.ops fid ops l (e.apply o.dst s) s' lg) → Big P H Y (.ops fid ops (i :: l) s s' (mkLog ops i o s e :: lg))
  | call {fid ops i l o s s' lg e f xs caps caps' p r bx'} : ops[i]? = some o → gd ops o s = some true → calleeOf o s = some (f, xs, caps) → roCaps s.b caps = some caps' →
      prep H f s 0 xs = some p → (caps = [] ∨ p.mts = []) → Big P H Y (.call f (p.args ++ caps') (bxOf s p.mts) r bx') →
      callE o.dst { p with tmp := leans s.b (.fnv f caps) ++ p.tmp } r bx' = some e → e.kl.all (· < 1000) = true →
      Big P H Y (.ops fid ops l (e.apply o.dst s) s' lg) → Big P H Y (.ops fid ops (i :: l) s s' (mkLog ops i o s e :: lg))
  | region {fid id ops s s' lg} : Big P H Y (.ops fid ops (List.range ops.size) s s' lg) → Big P H Y (.code fid (.region id ops false) s .nor s')
  | draw {fid id ops s s' lg} : Big P H Y (.ops fid ops (List.range ops.size) s s' lg) → drawOk ops lg = true → Big P H Y (.code fid (.region id ops true) s .nor s')
  | skipc {fid s} : Big P H Y (.code fid .skip s .nor s)
  | seqn {fid a b s s1 x s'} : Big P H Y (.code fid a s .nor s1) → Big P H Y (.code fid b s1 x s') → Big P H Y (.code fid (.seq a b) s x s')
  | seqx {fid a b s x s'} : Big P H Y (.code fid a s x s') → x ≠ .nor → Big P H Y (.code fid (.seq a b) s x s')
  | condt {fid c a b s x s'} : s.ev c = .lit (.bool true) → Big P H Y (.code fid a s x s') → Big P H Y (.code fid (.cond c a b) s x s')
  | condf {fid c a b s x s'} : s.ev c = .lit (.bool false) → Big P H Y (.code fid b s x s') → Big P H Y (.code fid (.cond c a b) s x s')
  | blockn {fid id a s s'} : Big P H Y (.code fid a s .nor s') → Big P H Y (.code fid (.block id a) s .nor s')
  | blocke {fid id a s s'} : Big P H Y (.code fid a s (.ext id) s') → Big P H Y (.code fid (.block id a) s .nor s')
  | blockx {fid id a s x s'} : Big P H Y (.code fid a s x s') → x ≠ .nor → x ≠ .ext id → Big P H Y (.code fid (.block id a) s x s')
  | loopn {fid a s s1 x s'} : Big P H Y (.code fid a s .nor s1) → Big P H Y (.code fid (.loop a) s1 x s') → Big P H Y (.code fid (.loop a) s x s')
  | loopx {fid a s x s'} : Big P H Y (.code fid a s x s') → x ≠ .nor → Big P H Y (.code fid (.loop a) s x s')
  | exit {fid id s} : Big P H Y (.code fid (.exit id) s (.ext id) s)
  | ret {fid s} : Big P H Y (.code fid .ret s .ret s)
  | wks {fid c s u x s'} : WkS s u → Big P H Y (.code fid c u x s') → Big P H Y (.code fid c s x s')
  | wke {fid c s x s' u} : Big P H Y (.code fid c s x s') → WkS s' u → Big P H Y (.code fid c s x u)
  | wka {f args args' bx r bx'} : WkT args args' → Big P H Y (.call f args' bx r bx') → Big P H Y (.call f args bx r bx')
  | wkr {f args bx r r' bx'} : Big P H Y (.call f args bx r bx') → WkV r r' → Big P H Y (.call f args bx r' bx')
  | virt {fid c s x s'} (i b sz : Nat) : s.t i = .nil → b < 1000 → sz ≠ 0 → Big P H Y (.code fid c (virtS i b sz s) x s') → Big P H Y (.code fid c s x s')
  | virtc {fid c s x s'} (k : Nat) (y : Box) (j b sz : Nat) : s.b k = some y → y.cs[j]? = some .nil → y.sz = 0 → k ≠ b → b < 1000 → sz ≠ 0 → Big P H Y (.code fid c (virtC k y j b sz s) x s') → Big P H Y (.code fid c s x s')
  | given {f fn c args bx r bx'} : P.funcs[f]? = some fn → fn.body = some c → (fn.name == "runtime.NumGoroutine") = false → Y f args bx r bx' → Big P H Y (.call f args bx r bx')
  | body {f fn c args bx x s' r} : P.funcs[f]? = some fn → fn.body = some c → (fn.name == "runtime.NumGoroutine") = false → args.length = fn.params.size + fn.nfree → args.length ≤ fn.ntmps → codeOk fn.ntmps c = true →
      Big P H Y (.code f c (S0 args bx) x s') → (x = .nor ∨ x = .ret) → resOf P s' fn.results.toList = some r → exitOk bx s' → Big P H Y (.call f args bx r (exitB bx s'))

end Evl
