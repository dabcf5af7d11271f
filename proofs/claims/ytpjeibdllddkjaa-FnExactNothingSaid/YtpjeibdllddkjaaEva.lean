/- The abstract machine: values are trees, local memory is named, no order and no capacity is left open. No condition. -/
import Derived.Calls
import Derived.Orders
import Derived.Below
import Derived.Laws.World
import Derived.Laws.Sem
namespace Evl
open Go

/-- A value of the abstract machine. 'lit': a scalar. 'nil': the nil slice. 'sl own sz n cs': a slice of n elements of sz cells each, as a tree; 'own': nobody else leads to its block. 'msl b n': a slice over the local row b. 'agg': a struct or an array by its cells. 'ptr b off': into the local box b. 'cptr cs': into memory that nobody writes; the cells from there on. 'nbx': a box that is handed back. -/
inductive AV where
  | lit (v : Value)
  | nil
  | sl (own : Bool) (sz n : Nat) (cs : List AV)
  | msl (b n : Nat)
  | agg (cs : List AV)
  | tup (vs : List AV)
  | ptr (b off : Nat)
  | cptr (cs : List AV)
  | nbx (cs : List AV)
  | fnv (f : FuncId) (cap : List AV)
  | bad

structure Box where
  st : Bool
  sz : Nat
  cs : List AV

structure S where
  t : Nat → AV
  b : Nat → Option Box

mutual
def share : AV → AV
  | .sl true sz n cs => .sl false sz n (shareL cs)
  | .sl false sz n cs => .sl false sz n cs
  | .agg cs => .agg (shareL cs)
  | .tup vs => .tup (shareL vs)
  | .lit v => .lit v
  | .nil => .nil
  | .msl b n => .msl b n
  | .ptr b o => .ptr b o
  | .cptr cs => .cptr cs
  | .nbx cs => .nbx cs
  | .fnv f cs => .fnv f cs
  | .bad => .bad
def shareL : List AV → List AV
  | [] => []
  | x :: xs => share x :: shareL xs
end

mutual
def kill (d : Nat) : AV → AV
  | .msl b n => if b = d then .bad else .msl b n
  | .ptr b o => if b = d then .bad else .ptr b o
  | .agg cs => .agg (killL d cs)
  | .tup vs => .tup (killL d vs)
  | .fnv f cs => .fnv f (killL d cs)
  | .lit v => .lit v
  | .nil => .nil
  | .sl o sz n cs => .sl o sz n cs
  | .cptr cs => .cptr cs
  | .nbx cs => .nbx cs
  | .bad => .bad
def killL (d : Nat) : List AV → List AV
  | [] => []
  | x :: xs => kill d x :: killL d xs
end

mutual
/-- Is there a tree that nobody else leads to? -/
def hasOwn : AV → Bool
  | .sl o _ _ _ => o
  | .agg cs => hasOwnL cs
  | .tup vs => hasOwnL vs
  | _ => false
def hasOwnL : List AV → Bool
  | [] => false
  | x :: xs => hasOwn x || hasOwnL xs
end

mutual
/-- Does a tree lead to what others may lead to? -/
def hasSh : AV → Bool
  | .sl o _ _ cs => !o || hasShL cs
  | .agg cs => hasShL cs
  | .tup vs => hasShL vs
  | .nbx cs => hasShL cs
  | .cptr _ => true
  | .fnv _ _ => true
  | .bad => true
  | .msl _ _ => true
  | .ptr _ _ => true
  | .lit _ => false
  | .nil => false
def hasShL : List AV → Bool
  | [] => false
  | x :: xs => hasSh x || hasShL xs
end

/-- A scalar: one cell that leads nowhere. -/
def plain : Value → Bool
  | .int _ _ => true
  | .bool _ => true
  | .string _ => true
  | .nilFunc => true
  | .func (.func _) f c => f.isEmpty && c.isEmpty
  | _ => false

def oc (v : Value) : Bool := match v with | .agg _ => false | .tuple _ => false | _ => true

def ofValue : Value → AV
  | .int k n => .lit (.int k n)
  | .bool b => .lit (.bool b)
  | .string s => .lit (.string s)
  | .nilFunc => .lit .nilFunc
  | .slice none 0 0 => .nil
  | _ => .bad

/-- A constant or a zero value, as it stands in a slot. -/
def ofConst : Value → AV
  | .agg cs => if cs.toList.all oc then .agg (cs.toList.map ofValue) else .bad
  | v => ofValue v

def cellsOf : AV → Option (List AV)
  | .agg cs => some cs
  | .lit v => some [.lit v]
  | .nil => some [.nil]
  | .sl o sz n cs => some [.sl o sz n cs]
  | .msl b n => some [.msl b n]
  | _ => none

/-! what types say -/
def tsize (P : Program) (t : TypeId) : Option Nat := (P.info? t).map (·.size)
def tbytes (P : Program) (t : TypeId) : Option Nat := (P.info? t).map (·.bytes)
def tagg (P : Program) (t : TypeId) : Option Bool := (P.underlying t).map fun
  | .struct _ => true
  | .array _ _ => true
  | _ => false
def tzero (P : Program) (t : TypeId) : Option (List AV) := ((P.info? t).bind (·.zero)).bind fun z => if z.cells.toList.all oc then some (z.cells.toList.map ofValue) else none
def tfield (P : Program) (t : TypeId) (f : Nat) : Option (Nat × Nat) :=
  match P.underlying t with
  | some (.struct fs) =>
    match fs[f]? with
    | some fd => match (P.info? fd.type).map (·.size) with
      | some (k + 1) => some (fd.offset, k + 1)
      | _ => none
    | none => none
  | _ => none
def tarr (P : Program) (t : TypeId) : Option (Nat × Nat) :=
  match P.underlying t with
  | some (.array n e) => (tsize P e).map fun z => (n, z)
  | _ => none
/-- a slice type's element type, its cells, its bytes -/
def tslice (P : Program) (t : TypeId) : Option (TypeId × Nat × Nat) :=
  match P.underlying t with
  | some (.slice e) => match tsize P e, tbytes P e with
    | some z, some b => some (e, z, b)
    | _, _ => none
  | _ => none
def tund (P : Program) (t : TypeId) : Bool := (P.underlying t).isSome
def tstr (P : Program) (t : TypeId) : Bool := match P.underlying t with | some .string => true | _ => false
def tbool (P : Program) (t : TypeId) : Bool := match P.underlying t with | some .bool => true | _ => false
def tint (P : Program) (t : TypeId) : Option IntKind := match P.underlying t with | some (.int k) => some k | _ => none

/-! operations on scalars -/
def binV (op : BinOp) : Value → Value → Option Value
  | .int k a, .int k' b =>
    match op with
    | .shl => if b < 0 then none else some (.int k (k.wrap (a * 2 ^ (min b.toNat k.bits))))
    | .shr => if b < 0 then none else some (.int k (a.fdiv (2 ^ (min b.toNat k.bits))))
    | .add => if k = k' then some (.int k (k.wrap (a + b))) else none
    | .sub => if k = k' then some (.int k (k.wrap (a - b))) else none
    | .mul => if k = k' then some (.int k (k.wrap (a * b))) else none
    | .quo => if k = k' then (if b = 0 then none else some (.int k (k.wrap (a.tdiv b)))) else none
    | .rem => if k = k' then (if b = 0 then none else some (.int k (a.tmod b))) else none
    | .and => if k = k' then some (.int k (k.wrap (BitVec.ofInt k.bits a &&& BitVec.ofInt k.bits b).toNat)) else none
    | .or => if k = k' then some (.int k (k.wrap (BitVec.ofInt k.bits a ||| BitVec.ofInt k.bits b).toNat)) else none
    | .xor => if k = k' then some (.int k (k.wrap (BitVec.ofInt k.bits a ^^^ BitVec.ofInt k.bits b).toNat)) else none
    | .andNot => none
    | .eql => if k = k' then some (.bool (a == b)) else none
    | .neq => if k = k' then some (.bool (a != b)) else none
    | .lss => if k = k' then some (.bool (a < b)) else none
    | .leq => if k = k' then some (.bool (a ≤ b)) else none
    | .gtr => if k = k' then some (.bool (a > b)) else none
    | .geq => if k = k' then some (.bool (a ≥ b)) else none
  | .string a, .string b =>
    match op with
    | .add => if a.size + b.size ≤ 9223372036854775807 then some (.string (a ++ b)) else none
    | .eql => some (.bool (a.toList == b.toList))
    | .neq => some (.bool (!(a.toList == b.toList)))
    | .lss => some (.bool (Op.bytesLess a.toList b.toList))
    | .gtr => some (.bool (!(Op.bytesLess a.toList b.toList || a.toList == b.toList)))
    | _ => none
  | _, _ => none

def eqB : BinOp → Value → Value → Option Value
  | .eql, .bool a, .bool b => some (.bool (a == b))
  | .neq, .bool a, .bool b => some (.bool (!(a == b)))
  | _, _, _ => none

def unV (op : UnOp) : Value → Option Value
  | .int k n => match op with | .neg => some (.int k (k.wrap (0 - n))) | _ => none
  | .bool b => match op with | .not => some (.bool (!b)) | _ => none
  | _ => none

/-- Are two rows of scalars alike? -/
def litInt : AV → Bool
  | .lit (.int _ _) => true
  | _ => false
def sameLits : List AV → List AV → Option Bool
  | [], [] => some true
  | .lit (.int k a) :: xs, .lit (.int k' b) :: ys => if k = k' then (sameLits xs ys).map fun r => (a == b) && r else none
  | .lit (.bool a) :: xs, .lit (.bool b) :: ys => (sameLits xs ys).map fun r => (a == b) && r
  | _, _ => none

def maxInts : List AV → Option (IntKind × Int)
  | [] => none
  | [.lit (.int k x)] => some (k, x)
  | .lit (.int k x) :: .lit (.int k' y) :: rest => if k = k' then maxInts (.lit (.int k (if y > x then y else x)) :: rest) else none
  | _ => none
  termination_by l => l.length
def minInts : List AV → Option (IntKind × Int)
  | [] => none
  | [.lit (.int k x)] => some (k, x)
  | .lit (.int k x) :: .lit (.int k' y) :: rest => if k = k' then minInts (.lit (.int k (if y < x then y else x)) :: rest) else none
  | _ => none
  termination_by l => l.length

/-! what an operation does: the value for its slot; slots that are told anew; boxes that are no more; boxes that are told anew (or new); 'rd': boxes that were looked into -/
structure Eff where
  val : AV
  set : List (Nat × AV) := []
  kl : List Nat := []
  put : List (Nat × Box) := []
  rd : List Nat := []

def lookup {α : Type} (d : Nat) : List (Nat × α) → Option α
  | [] => none
  | (k, x) :: xs => if k = d then some x else lookup d xs

def killAll : List Nat → AV → AV
  | [], x => x
  | d :: ds, x => killAll ds (kill d x)
def killAllL : List Nat → List AV → List AV
  | [], x => x
  | d :: ds, x => killAllL ds (killL d x)

/-- In a row no row stands. -/
def killBox (l : List Nat) (x : Box) : Box := { x with cs := if x.sz = 0 then killAllL l x.cs else x.cs }

def Eff.apply (e : Eff) (dst : Option Nat) (s : S) : S where
  t := fun i => if dst = some i then e.val else killAll e.kl (match lookup i e.set with | some x => x | none => s.t i)
  b := fun i => match lookup i e.put with
    | some x => some x
    | none => if i ∈ e.kl then none else (s.b i).map (killBox e.kl)

def S.ev (s : S) : Operand → AV
  | .tmp t => s.t t
  | .const v => ofConst v
  | .func f => .lit (.func (.func f) #[] #[])
  | .global _ => .bad

/-- A slot whose tree goes elsewhere keeps a look at it. -/
def given (x : Operand) (v : AV) : List (Nat × AV) :=
  match x with
  | .tmp t => if hasOwn v then [(t, share v)] else []
  | _ => []

/-- Local rows in a row of cells become trees: the cells, and the rows that are no more. -/
def freezeL (b : Nat → Option Box) : List AV → Option (List AV × List Nat)
  | [] => some ([], [])
  | .msl r n :: cs =>
    match b r, freezeL b cs with
    | some x, some (ys, ks) => if x.sz ≠ 0 ∧ n * x.sz = x.cs.length ∧ r ∉ ks then some (.sl true x.sz n x.cs :: ys, r :: ks) else none
    | _, _ => none
  | .bad :: _ => none
  | c :: cs => match freezeL b cs with
    | some (ys, ks) => some (c :: ys, ks)
    | none => none

/-- Parts laid into a row of cells. -/
def fillG (place : Nat → Option (Nat × Nat)) : List (Nat × List AV) → List AV → Option (List AV)
  | [], cs => some cs
  | (i, xs) :: rest, cs =>
    match place i with
    | some (off, size) => if xs.length = size ∧ off + size ≤ cs.length then fillG place rest (cs.take off ++ xs ++ cs.drop (off + size)) else none
    | none => none

def allSome {α : Type} : List (Option α) → Option (List α)
  | [] => some []
  | some x :: l => (allSome l).map (x :: ·)
  | none :: _ => none
/-- a struct's fields: where they begin, how many cells they have -/
def tfields (P : Program) (t : TypeId) : Option (List (Nat × Nat)) :=
  match P.underlying t with
  | some (.struct fs) => allSome (fs.toList.map fun f => (tsize P f.type).map fun k => (f.offset, k))
  | _ => none
/-- where the parts of a struct or an array go -/
def tplace (P : Program) (t : TypeId) : Option (Nat → Option (Nat × Nat)) :=
  match tarr P t with
  | some (_, z) => some fun i => some (i * z, z)
  | none => (tfields P t).map fun l => fun i => l[i]?

def noDup : List Nat → Bool
  | [] => true
  | x :: xs => !xs.contains x && noDup xs

/-- What the prover says beside the code: which loads hand their tree on ('mv': function, slot), which parameters take theirs ('own'), which are written through ('mt'), which types '==' compares cell by cell ('eqt'). -/
structure Hints where
  mv : FuncId → Nat → Bool
  own : FuncId → Nat → Bool
  mt : FuncId → Nat → Bool
  eqt : TypeId → Bool

def partsOf (s : S) : List (Nat × Operand) → Option (List (Nat × List AV))
  | [] => some []
  | (i, x) :: rest => match cellsOf (s.ev x), partsOf s rest with
    | some cs, some r => some ((i, cs) :: r)
    | _, _ => none
def partsGiven (s : S) : List (Nat × Operand) → List (Nat × AV)
  | [] => []
  | (_, x) :: rest => given x (s.ev x) ++ partsGiven s rest

def limBytes : Nat := 140737488355328
def limCells : Nat := 16777216

def boxOf (s : S) (b : Nat) : Option Box := s.b b

def loadE (P : Program) (H : Hints) (fid d : Nat) (t : TypeId) (s : S) : AV → Option Eff
  | .ptr b off =>
    match s.b b, tsize P t, tagg P t with
    | some x, some k, some true =>
      if 0 < k ∧ off + k ≤ x.cs.length then
        let seg := (x.cs.drop off).take k
        if H.mv fid d then some { val := .agg seg, put := [(b, { x with cs := x.cs.take off ++ shareL seg ++ x.cs.drop (off + k) })], rd := [b] }
        else some { val := .agg (shareL seg), rd := [b] }
      else none
    | some x, some 1, some false =>
      match x.cs[off]? with
      | some (.sl true sz n ds) => some { val := .sl false sz n (shareL ds), rd := [b] }
      | some .bad => none
      | some c => some { val := c, rd := [b] }
      | none => none
    | _, _, _ => none
  | .cptr cs =>
    match tsize P t, tagg P t with
    | some k, some true => if k ≤ cs.length then some { val := .agg (cs.take k) } else none
    | some 1, some false => match cs with
      | .bad :: _ => none
      | c :: _ => some { val := c }
      | [] => none
    | _, _ => none
  | _ => none

def storeE (P : Program) (t : TypeId) (s : S) (a : AV) (xo : Operand) : Option Eff :=
  match a, tsize P t, cellsOf (s.ev xo) with
  | .ptr b off, some k, some cs =>
    match s.b b with
    | some x =>
      if x.st = true ∧ cs.length = k ∧ off + k ≤ x.cs.length ∧ 0 < k then
        if x.sz = 0 then some { val := .bad, set := given xo (s.ev xo), put := [(b, { x with cs := x.cs.take off ++ cs ++ x.cs.drop (off + k) })], rd := [b] }
        else match freezeL s.b cs with
          | some (ys, ks) => if b ∈ ks then none else some { val := .bad, set := given xo (s.ev xo), kl := ks, put := [(b, { x with cs := x.cs.take off ++ ys ++ x.cs.drop (off + k) })], rd := b :: ks }
          | none => none
      else none
    | none => none
  | _, _, _ => none

/-- What is appended: its cells, and the rows that are no more, and the rows that were looked into. -/
def appArg (s : S) (sz : Nat) : AV → Option (List AV × List Nat × List Nat)
  | .nil => some ([], [], [])
  | .sl o z n cs => if z = sz ∧ cs.length = n * sz then some (if o then shareL cs else cs, [], []) else none
  | .msl b n => match s.b b with
    | some r => if r.sz = sz ∧ r.cs.length = n * sz then (if hasOwnL r.cs then some (r.cs, [b], [b]) else some (r.cs, [], [b])) else none
    | none => none
  | _ => none

def appendE (P : Program) (d : Nat) (st : TypeId) (s : S) (x y : AV) : Option Eff :=
  match tslice P st with
  | some (e, sz, bytes) => if sz = 0 ∨ (tzero P e).map (·.length) ≠ some sz then none else
    match appArg s sz y with
    | some (ys, ks, rs) => if d ∈ ks then none else
      match x with
      | .nil =>
        if ys.length * bytes ≤ limBytes * sz ∧ ys.length ≤ 9223372036854775807 * sz then
          if ys = [] then some { val := .nil, rd := rs }
          else some { val := .msl d (ys.length / sz), kl := d :: ks, put := [(d, ⟨true, sz, ys⟩)], rd := rs }
        else none
      | .msl b n => match s.b b with
        | some r =>
          if r.sz = sz ∧ r.cs.length = n * sz ∧ b ∉ ks ∧ (r.cs.length + ys.length) * bytes ≤ limBytes * sz ∧ r.cs.length + ys.length ≤ 9223372036854775807 * sz then
            some { val := .msl d (n + ys.length / sz), kl := d :: b :: ks, put := [(d, ⟨r.st, sz, r.cs ++ ys⟩)], rd := b :: rs }
          else none
        | none => none
      | _ => none
    | none => none
  | none => none

def bnd (s : S) (z : Int) : Option Operand → Option Int
  | none => some z
  | some l => match s.ev l with
    | .lit (.int _ j) => some j
    | _ => none

def sliceE (P : Program) (t : TypeId) (s : S) (lo hi : Option Operand) : AV → Option Eff
  | .lit (.string v) => match bnd s 0 lo, bnd s v.size hi with
    | some l, some u => if tstr P t = true ∧ 0 ≤ l ∧ l ≤ u ∧ u ≤ v.size then some { val := .lit (.string (v.extract l.toNat u.toNat)) } else none
    | _, _ => none
  | .sl o z n cs => match bnd s 0 lo, bnd s n hi, tslice P t with
    | some l, some u, some (_, z', _) => if z = z' ∧ cs.length = n * z ∧ 0 ≤ l ∧ l ≤ u ∧ u ≤ n then some { val := .sl false z (u.toNat - l.toNat) (((if o then shareL cs else cs).drop (l.toNat * z)).take ((u.toNat - l.toNat) * z)) } else none
    | _, _, _ => none
  | .msl b n => match s.b b with
    | some r => match bnd s 0 lo, bnd s n hi, tslice P t with
      | some l, some u, some (_, z', _) => if r.sz = z' ∧ r.cs.length = n * z' ∧ z' ≠ 0 ∧ 0 ≤ l ∧ l ≤ u ∧ u ≤ n then some { val := .sl false z' (u.toNat - l.toNat) (((shareL r.cs).drop (l.toNat * z')).take ((u.toNat - l.toNat) * z')), put := [(b, { r with st := false })], rd := [b] } else none
      | _, _, _ => none
    | none => none
  | _ => none

def isP : AV → Bool
  | .ptr _ _ => true
  | .cptr _ => true
  | _ => false

def opE (P : Program) (H : Hints) (fid : FuncId) (o : Oper) (s : S) : Option Eff :=
  match o.op with
  | .move x => match s.ev x with | .bad => none | v => some { val := v, set := given x v }
  | .assign x => match s.ev x with | .bad => none | v => some { val := v, set := given x v }
  | .pick c a b => match s.ev c with
    | .lit (.bool true) => (match s.ev a with | .lit v => some { val := .lit v } | _ => none)
    | .lit (.bool false) => (match s.ev b with | .lit v => some { val := .lit v } | _ => none)
    | _ => none
  | .alloc t => match o.dst, tzero P t, tsize P t with
    | some d, some z, some k => if z.length = k then some { val := .ptr d 0, kl := [d], put := [(d, ⟨true, 0, z⟩)] } else none
    | _, _, _ => none
  | .box t x => match o.dst, cellsOf (s.ev x), tsize P t with
    | some d, some cs, some k => if cs.length = k then some { val := .ptr d 0, set := given x (s.ev x), kl := [d], put := [(d, ⟨true, 0, killL d cs⟩)] } else none
    | _, _, _ => none
  | .build t parts => match tzero P t, partsOf s parts.toList, tplace P t with
    | some z, some ps, some pl => if noDup ((partsGiven s parts.toList).map (·.1)) then (fillG pl ps z).map fun cs => { val := .agg cs, set := partsGiven s parts.toList } else none
    | _, _, _ => none
  | .buildSlice t len parts => match o.dst, tslice P t, partsOf s parts.toList with
    | some d, some (e, sz, _), some ps => match tzero P e with
      | some z => if sz ≠ 0 ∧ z.length = sz ∧ len * sz ≤ limCells ∧ noDup ((partsGiven s parts.toList).map (·.1)) = true then
          match fillG (fun i => some (i * sz, sz)) ps ((List.replicate len z).flatten) with
          | some cs => (match freezeL s.b cs with
            | some (ys, ks) => some { val := .msl d len, set := partsGiven s parts.toList, kl := d :: ks, put := [(d, ⟨true, sz, ys⟩)], rd := ks }
            | none => none)
          | none => none
        else none
      | none => none
    | _, _, _ => none
  | .load t a => match o.dst with
    | some d => loadE P H fid d t s (s.ev a)
    | none => none
  | .store t a x => if o.dst = none then storeE P t s (s.ev a) x else none
  | .nilCheck x => match s.ev x with
    | .ptr b k => some { val := .ptr b k }
    | .cptr cs => some { val := .cptr cs }
    | _ => none
  | .binOp op t x y _ => match s.ev x, s.ev y with
    | .lit a, .lit b => (match binV op a b with
      | some v => some { val := .lit v }
      | none => if tbool P t = true then (eqB op a b).map fun v => { val := .lit v } else none)
    | .agg xs, .agg ys => if (H.eqt t && decide (tsize P t = some xs.length) && xs.all litInt) = true then
        (match op with
        | .eql => (sameLits xs ys).map fun r => { val := .lit (.bool r) }
        | .neq => (sameLits xs ys).map fun r => { val := .lit (.bool (!r)) }
        | _ => none) else none
    | _, _ => none
  | .unOp op _ x => match s.ev x with
    | .lit a => (unV op a).map fun v => { val := .lit v }
    | _ => none
  | .convert src dst x => match s.ev x with
    | .lit (.int _ n) => match tint P dst with
      | some k => if tund P src = true then some { val := .lit (.int k (k.wrap n)) } else none
      | none => none
    | .msl b n => match s.b b, tslice P dst with
      | some r, some (e, 1, _) => if src = dst ∧ tint P e = some .u8 ∧ r.sz = 1 ∧ r.cs.isEmpty = false then some { val := .msl b n, put := [(b, r)], rd := [b] } else none
      | _, _ => none
    | _ => none
  | .fieldAddr t x f => match s.ev x, tfield P t f with
    | .ptr b k, some (off, _) => some { val := .ptr b (k + off) }
    | .cptr cs, some (off, _) => if off ≤ cs.length then some { val := .cptr (cs.drop off) } else none
    | _, _ => none
  | .indexAddr t x i => match s.ev i with
    | .lit (.int _ j) => match s.ev x, tarr P t, tslice P t with
      | .ptr b k, some (n, z), _ => if 0 ≤ j ∧ j < n then some { val := .ptr b (k + j.toNat * z) } else none
      | .cptr cs, some (n, z), _ => if 0 ≤ j ∧ j < n ∧ j.toNat * z ≤ cs.length then some { val := .cptr (cs.drop (j.toNat * z)) } else none
      | .sl true z n cs, none, some (_, z', _) => if z = z' ∧ 0 ≤ j ∧ j < n ∧ j.toNat * z ≤ cs.length then some { val := .cptr (shareL (cs.drop (j.toNat * z))) } else none
      | .sl false z n cs, none, some (_, z', _) => if z = z' ∧ 0 ≤ j ∧ j < n ∧ j.toNat * z ≤ cs.length then some { val := .cptr (cs.drop (j.toNat * z)) } else none
      | .msl b n, none, some (_, z', _) => match s.b b with
        | some r => if r.sz = z' ∧ 0 ≤ j ∧ j < n then some { val := .ptr b (j.toNat * z'), rd := [b] } else none
        | none => none
      | _, _, _ => none
    | _ => none
  | .index ty x i => match s.ev x, s.ev i with
    | .lit (.string t), .lit (.int _ j) => if h : 0 ≤ j ∧ j.toNat < t.size then (if tstr P ty = true then some { val := .lit (.int .u8 (t[j.toNat]'h.2).toNat) } else none) else none
    | _, _ => none
  | .extract x i => match o.dst, s.ev x, x with
    | some d, .tup vs, .tmp t => match vs[i]? with
      | some (.sl true sz n cs) => if sz ≠ 0 ∧ t ≠ d then some { val := .msl d n, set := [(t, .tup (vs.set i (.sl false sz n (shareL cs))))], kl := [d], put := [(d, ⟨false, sz, cs⟩)] } else none
      | some .bad => none
      | some v => some { val := v, set := if hasOwn v then [(t, .tup (vs.set i (share v)))] else [] }
      | none => none
    | _, _, _ => none
  | .makeSlice t n _c => match o.dst, tslice P t, s.ev n, s.ev _c with
    | some d, some (e, sz, bytes), .lit (.int .i64 k), .lit (.int .i64 c) => match tzero P e with
      | some z => if sz ≠ 0 ∧ z.length = sz ∧ c = k ∧ 0 ≤ k ∧ k ≤ 9223372036854775807 ∧ k.toNat * bytes ≤ limBytes then some { val := .msl d k.toNat, kl := [d], put := [(d, ⟨true, sz, (List.replicate k.toNat z).flatten⟩)] } else none
      | none => none
    | _, _, _, _ => none
  | .slice t x lo hi mx => if mx.isSome then none else sliceE P t s lo hi (s.ev x)
  | .makeFunc (.func f) first cap => if first = #[] ∧ (cap.toList.map s.ev).all isP then some { val := .fnv f (cap.toList.map s.ev) } else none
  | .call { callee := .builtin b, args, argTypes } =>
    match b with
    | .len => (match args.toList, argTypes.toList with
      | [x], [t] => (match s.ev x with
        | .lit (.string v) => if tstr P t then some { val := .lit (.int .i64 v.size) } else none
        | .nil => if (tslice P t).isSome then some { val := .lit (.int .i64 0) } else none
        | .sl _ _ n _ => if (tslice P t).isSome then some { val := .lit (.int .i64 n) } else none
        | .msl _ n => if (tslice P t).isSome then some { val := .lit (.int .i64 n) } else none
        | _ => none)
      | _, _ => none)
    | .max => (maxInts (args.toList.map s.ev)).map fun r => { val := .lit (.int r.1 r.2) }
    | .min => (minInts (args.toList.map s.ev)).map fun r => { val := .lit (.int r.1 r.2) }
    | .append => (match o.dst, args.toList, argTypes.toList with
      | some d, [x, y], [t, u] => if t = u then appendE P d t s (s.ev x) (s.ev y) else none
      | _, _, _ => none)
    | _ => none
  | _ => none

/-! calls -/
def cleanC : AV → Bool
  | .lit _ => true
  | .nil => true
  | .sl _ _ _ _ => true
  | _ => false
def cleanL (cs : List AV) : Bool := cs.all cleanC

/-- How a cell looks to a function that only reads it. -/
def roCell (b : Nat → Option Box) : AV → Option AV
  | .lit v => some (.lit v)
  | .nil => some .nil
  | .sl o sz n cs => some (share (.sl o sz n cs))
  | .msl r n => match b r with
    | some x => if x.sz ≠ 0 ∧ n * x.sz ≤ x.cs.length then some (.sl false x.sz n (shareL (x.cs.take (n * x.sz)))) else none
    | none => none
  | _ => none
def roCells (b : Nat → Option Box) : List AV → Option (List AV)
  | [] => some []
  | x :: xs => match roCell b x, roCells b xs with
    | some y, some ys => some (y :: ys)
    | _, _ => none
def roPtr (b : Nat → Option Box) : AV → Option AV
  | .ptr r off => match b r with
    | some x => if off < x.cs.length then (roCells b (x.cs.drop off)).map .cptr else none
    | none => none
  | .cptr cs => some (.cptr cs)
  | _ => none
def roCaps (b : Nat → Option Box) : List AV → Option (List AV)
  | [] => some []
  | x :: xs => match roPtr b x, roCaps b xs with
    | some y, some ys => some (y :: ys)
    | _, _ => none
def ro (b : Nat → Option Box) : AV → Option AV
  | .agg cs => (roCells b cs).map .agg
  | .ptr r off => roPtr b (.ptr r off)
  | .cptr cs => some (.cptr cs)
  | .fnv f cs => (roCaps b cs).map (.fnv f)
  | .lit v => roCell b (.lit v)
  | .nil => roCell b .nil
  | .sl o sz n cs => roCell b (.sl o sz n cs)
  | .msl r n => roCell b (.msl r n)
  | _ => none

mutual
/-- The boxes that a value speaks of. -/
def ids : AV → List Nat
  | .msl b _ => [b]
  | .ptr b _ => [b]
  | .agg cs => idsL cs
  | .tup cs => idsL cs
  | .fnv _ cs => idsL cs
  | _ => []
def idsL : List AV → List Nat
  | [] => []
  | x :: xs => ids x ++ idsL xs
end

def inside (b : Nat → Option Box) : AV → List Nat
  | .ptr r _ => match b r with | some z => idsL z.cs | none => []
  | _ => []
/-- The boxes that a look at a value leans on. -/
def leans (b : Nat → Option Box) (x : AV) : List Nat := ids x ++ (match x with | .fnv _ cs => cs.flatMap (inside b) | x => inside b x)

/-- The arguments as the callee has them. 'set': slots that gave their tree; 'kl': rows that went over; 'ids': boxes that the callee only reads, for the call's time; 'mts': its borrowed boxes, by parameter. -/
structure Prep where
  args : List AV
  set : List (Nat × AV)
  kl : List Nat
  tmp : List Nat
  mts : List (Nat × Nat)

def prep (H : Hints) (f : FuncId) (s : S) : Nat → List Operand → Option Prep
  | _, [] => some ⟨[], [], [], [], []⟩
  | i, x :: xs =>
    match prep H f s (i + 1) xs with
    | none => none
    | some p =>
      if H.mt f i then
        match s.ev x with
        | .ptr b 0 => match s.b b with
          | some bx => if cleanL bx.cs ∧ bx.sz = 0 ∧ bx.st = true ∧ b ∉ p.tmp ∧ b ∉ p.kl ∧ b ∉ p.mts.map (·.2) then some { p with args := .ptr (1000 + i) 0 :: p.args, mts := (i, b) :: p.mts } else none
          | none => none
        | _ => none
      else if H.own f i then
        match s.ev x with
        | .msl r n => match freezeL s.b [.msl r n] with
          | some ([y], ks) => if r ∈ p.kl ∨ r ∈ p.tmp ∨ r ∈ p.mts.map (·.2) then none else some { p with args := y :: p.args, kl := r :: p.kl }
          | _ => none
        | .agg cs => match freezeL s.b cs with
          | some (ys, ks) => if ks.any (fun k => k ∈ p.kl ∨ k ∈ p.tmp ∨ k ∈ p.mts.map (·.2)) ∨ (given x (.agg cs)).any (fun q => q.1 ∈ p.set.map (·.1)) then none else some { p with args := .agg ys :: p.args, kl := ks ++ p.kl, set := given x (.agg cs) ++ p.set }
          | none => none
        | .sl o sz n cs => if (given x (.sl o sz n cs)).any (fun q => q.1 ∈ p.set.map (·.1)) then none else some { p with args := .sl o sz n cs :: p.args, set := given x (.sl o sz n cs) ++ p.set }
        | .nil => some { p with args := .nil :: p.args }
        | .lit v => some { p with args := .lit v :: p.args }
        | _ => none
      else
        let v := s.ev x
        match ro s.b v with
        | some y => if (leans s.b v).any (fun k => k ∈ p.kl ∨ k ∈ p.mts.map (·.2)) then none else some { p with args := y :: p.args, tmp := leans s.b v ++ p.tmp }
        | none => none
end Evl
