/- Texts that belong together, joined. No condition. -/
import Derived.Calls
import Derived.Orders
import Derived.Below
import Derived.Laws.World
import Derived.Laws.Sem
import Derived.Laws.BytesArg
import Derived.Laws.Cells
import Derived.Laws.Small
import Derived.Laws.StructEq
import Derived.Laws.IdiomCopy
/-! Eva -/
namespace Evl
open Go

/-- A value of the abstract machine. 'lit': a scalar. 'nil': the nil slice. 'sl own sz n cs': a slice of n elements of sz cells each, as a tree; 'own': nobody else leads to its block. 'msl b n': a slice over the local row b. 'agg': a struct or an array by its cells. 'ptr b off': into the local box b. 'cptr cs': into memory that nobody writes; the cells from there on. 'nbx': a box that is handed back. -/
inductive AV where
  | lit (v : Value)
  | nil
  | sl (own : Bool) (sz n : Nat) (cs : List AV)
  | msl (b n : Nat)
  | agg (cs : List AV)
  | tup (vs : List AV)
  | ptr (b off : Nat)
  | cptr (cs : List AV)
  | nbx (cs : List AV)
  | fnv (f : FuncId) (cap : List AV)
  | bad

structure Box where
  st : Bool
  sz : Nat
  cs : List AV

structure S where
  t : Nat → AV
  b : Nat → Option Box

mutual
def share : AV → AV
  | .sl true sz n cs => .sl false sz n (shareL cs)
  | .sl false sz n cs => .sl false sz n cs
  | .agg cs => .agg (shareL cs)
  | .tup vs => .tup (shareL vs)
  | .lit v => .lit v
  | .nil => .nil
  | .msl b n => .msl b n
  | .ptr b o => .ptr b o
  | .cptr cs => .cptr cs
  | .nbx cs => .nbx cs
  | .fnv f cs => .fnv f cs
  | .bad => .bad
def shareL : List AV → List AV
  | [] => []
  | x :: xs => share x :: shareL xs
end

mutual
def kill (d : Nat) : AV → AV
  | .msl b n => if b = d then .bad else .msl b n
  | .ptr b o => if b = d then .bad else .ptr b o
  | .agg cs => .agg (killL d cs)
  | .tup vs => .tup (killL d vs)
  | .fnv f cs => .fnv f (killL d cs)
  | .lit v => .lit v
  | .nil => .nil
  | .sl o sz n cs => .sl o sz n cs
  | .cptr cs => .cptr cs
  | .nbx cs => .nbx cs
  | .bad => .bad
def killL (d : Nat) : List AV → List AV
  | [] => []
  | x :: xs => kill d x :: killL d xs
end

mutual
/-- Is there a tree that nobody else leads to? -/
def hasOwn : AV → Bool
  | .sl o _ _ _ => o
  | .agg cs => hasOwnL cs
  | .tup vs => hasOwnL vs
  | _ => false
def hasOwnL : List AV → Bool
  | [] => false
  | x :: xs => hasOwn x || hasOwnL xs
end

mutual
/-- Does a tree lead to what others may lead to? -/
def hasSh : AV → Bool
  | .sl o _ _ cs => !o || hasShL cs
  | .agg cs => hasShL cs
  | .tup vs => hasShL vs
  | .nbx cs => hasShL cs
  | .cptr _ => true
  | .fnv _ _ => true
  | .bad => true
  | .msl _ _ => true
  | .ptr _ _ => true
  | .lit _ => false
  | .nil => false
def hasShL : List AV → Bool
  | [] => false
  | x :: xs => hasSh x || hasShL xs
end

/-- A scalar: one cell that leads nowhere. -/
def plain : Value → Bool
  | .int _ _ => true
  | .bool _ => true
  | .string _ => true
  | .nilFunc => true
  | .func (.func _) f c => f.isEmpty && c.isEmpty
  | _ => false

/-- The same, or a slice that is told to the letter. -/
def plainX (v : Value) : Bool := plain v || (match v with | .slice _ _ _ => true | .pointer none => true | _ => false)
theorem plain_X {v : Value} (h : plain v = true) : plainX v = true := by unfold plainX; rw [h]; rfl

def oc (v : Value) : Bool := match v with | .agg _ => false | .tuple _ => false | _ => true

def ofValue : Value → AV
  | .int k n => .lit (.int k n)
  | .bool b => .lit (.bool b)
  | .string s => .lit (.string s)
  | .nilFunc => .lit .nilFunc
  | .slice none 0 0 => .nil
  | .pointer none => .lit (.pointer none)
  | _ => .bad

/-- A constant or a zero value, as it stands in a slot. -/
def ofConst : Value → AV
  | .agg cs => if cs.toList.all oc then .agg (cs.toList.map ofValue) else .bad
  | v => ofValue v

def cellsOf : AV → Option (List AV)
  | .agg cs => some cs
  | .lit v => some [.lit v]
  | .nil => some [.nil]
  | .sl o sz n cs => some [.sl o sz n cs]
  | .msl b n => some [.msl b n]
  | _ => none

/-! what types say -/
def tsize (P : Program) (t : TypeId) : Option Nat := (P.info? t).map (·.size)
def tbytes (P : Program) (t : TypeId) : Option Nat := (P.info? t).map (·.bytes)
def tagg (P : Program) (t : TypeId) : Option Bool := (P.underlying t).map fun
  | .struct _ => true
  | .array _ _ => true
  | _ => false
def tzero (P : Program) (t : TypeId) : Option (List AV) := ((P.info? t).bind (·.zero)).bind fun z => if z.cells.toList.all oc then some (z.cells.toList.map ofValue) else none
def tfield (P : Program) (t : TypeId) (f : Nat) : Option (Nat × Nat) :=
  match P.underlying t with
  | some (.struct fs) =>
    match fs[f]? with
    | some fd => match (P.info? fd.type).map (·.size) with
      | some (k + 1) => some (fd.offset, k + 1)
      | _ => none
    | none => none
  | _ => none
def tarr (P : Program) (t : TypeId) : Option (Nat × Nat) :=
  match P.underlying t with
  | some (.array n e) => (tsize P e).map fun z => (n, z)
  | _ => none
/-- an array type's element type, how many, their cells, are they struct or array -/
def tarrE (P : Program) (t : TypeId) : Option (TypeId × Nat × Nat × Bool) :=
  match P.underlying t with
  | some (.array n e) => match tsize P e, tagg P e with
    | some z, some g => some (e, n, z, g)
    | _, _ => none
  | _ => none
/-- a struct's field: its type, its place, its cells, is it a struct or an array? -/
def tfieldE (P : Program) (t : TypeId) (f : Nat) : Option (TypeId × Nat × Nat × Bool) :=
  match P.underlying t with
  | some (.struct fs) => match fs[f]? with
    | some fd => match tsize P fd.type, tagg P fd.type with
      | some z, some g => some (fd.type, fd.offset, z, g)
      | _, _ => none
    | none => none
  | _ => none
/-- a slice type's element type, its cells, its bytes -/
def tslice (P : Program) (t : TypeId) : Option (TypeId × Nat × Nat) :=
  match P.underlying t with
  | some (.slice e) => match tsize P e, tbytes P e with
    | some z, some b => some (e, z, b)
    | _, _ => none
  | _ => none
def tund (P : Program) (t : TypeId) : Bool := (P.underlying t).isSome
def tstr (P : Program) (t : TypeId) : Bool := match P.underlying t with | some .string => true | _ => false
def tbool (P : Program) (t : TypeId) : Bool := match P.underlying t with | some .bool => true | _ => false
def tint (P : Program) (t : TypeId) : Option IntKind := match P.underlying t with | some (.int k) => some k | _ => none

/-! operations on scalars -/
def binV (op : BinOp) : Value → Value → Option Value
  | .int k a, .int k' b =>
    match op with
    | .shl => if b < 0 then none else some (.int k (k.wrap (a * 2 ^ (min b.toNat k.bits))))
    | .shr => if b < 0 then none else some (.int k (a.fdiv (2 ^ (min b.toNat k.bits))))
    | .add => if k = k' then some (.int k (k.wrap (a + b))) else none
    | .sub => if k = k' then some (.int k (k.wrap (a - b))) else none
    | .mul => if k = k' then some (.int k (k.wrap (a * b))) else none
    | .quo => if k = k' then (if b = 0 then none else some (.int k (k.wrap (a.tdiv b)))) else none
    | .rem => if k = k' then (if b = 0 then none else some (.int k (a.tmod b))) else none
    | .and => if k = k' then some (.int k (k.wrap (BitVec.ofInt k.bits a &&& BitVec.ofInt k.bits b).toNat)) else none
    | .or => if k = k' then some (.int k (k.wrap (BitVec.ofInt k.bits a ||| BitVec.ofInt k.bits b).toNat)) else none
    | .xor => if k = k' then some (.int k (k.wrap (BitVec.ofInt k.bits a ^^^ BitVec.ofInt k.bits b).toNat)) else none
    | .andNot => none
    | .eql => if k = k' then some (.bool (a == b)) else none
    | .neq => if k = k' then some (.bool (a != b)) else none
    | .lss => if k = k' then some (.bool (a < b)) else none
    | .leq => if k = k' then some (.bool (a ≤ b)) else none
    | .gtr => if k = k' then some (.bool (a > b)) else none
    | .geq => if k = k' then some (.bool (a ≥ b)) else none
  | .string a, .string b =>
    match op with
    | .add => if a.size + b.size ≤ 9223372036854775807 then some (.string (a ++ b)) else none
    | .eql => some (.bool (a.toList == b.toList))
    | .neq => some (.bool (!(a.toList == b.toList)))
    | .lss => some (.bool (Op.bytesLess a.toList b.toList))
    | .gtr => some (.bool (!(Op.bytesLess a.toList b.toList || a.toList == b.toList)))
    | _ => none
  | _, _ => none

def eqB : BinOp → Value → Value → Option Value
  | .eql, .bool a, .bool b => some (.bool (a == b))
  | .neq, .bool a, .bool b => some (.bool (!(a == b)))
  | _, _, _ => none

def unV (op : UnOp) : Value → Option Value
  | .int k n => match op with | .neg => some (.int k (k.wrap (0 - n))) | _ => none
  | .bool b => match op with | .not => some (.bool (!b)) | _ => none
  | _ => none

/-- Are two rows of scalars alike? -/
def litInt : AV → Bool
  | .lit (.int _ _) => true
  | _ => false
def sameLits : List AV → List AV → Option Bool
  | [], [] => some true
  | .lit (.int k a) :: xs, .lit (.int k' b) :: ys => if k = k' then (sameLits xs ys).map fun r => (a == b) && r else none
  | .lit (.bool a) :: xs, .lit (.bool b) :: ys => (sameLits xs ys).map fun r => (a == b) && r
  | _, _ => none

def maxInts : List AV → Option (IntKind × Int)
  | [] => none
  | [.lit (.int k x)] => some (k, x)
  | .lit (.int k x) :: .lit (.int k' y) :: rest => if k = k' then maxInts (.lit (.int k (if y > x then y else x)) :: rest) else none
  | _ => none
  termination_by l => l.length
def minInts : List AV → Option (IntKind × Int)
  | [] => none
  | [.lit (.int k x)] => some (k, x)
  | .lit (.int k x) :: .lit (.int k' y) :: rest => if k = k' then minInts (.lit (.int k (if y < x then y else x)) :: rest) else none
  | _ => none
  termination_by l => l.length

/-! what an operation does: the value for its slot; slots that are told anew; boxes that are no more; boxes that are told anew (or new); 'rd': boxes that were looked into -/
structure Eff where
  val : AV
  set : List (Nat × AV) := []
  kl : List Nat := []
  put : List (Nat × Box) := []
  rd : List Nat := []

def lookup {α : Type} (d : Nat) : List (Nat × α) → Option α
  | [] => none
  | (k, x) :: xs => if k = d then some x else lookup d xs

def killAll : List Nat → AV → AV
  | [], x => x
  | d :: ds, x => killAll ds (kill d x)
def killAllL : List Nat → List AV → List AV
  | [], x => x
  | d :: ds, x => killAllL ds (killL d x)

/-- In a row no row stands. -/
def killBox (l : List Nat) (x : Box) : Box := { x with cs := if x.sz = 0 then killAllL l x.cs else x.cs }

def Eff.apply (e : Eff) (dst : Option Nat) (s : S) : S where
  t := fun i => if dst = some i then e.val else killAll e.kl (match lookup i e.set with | some x => x | none => s.t i)
  b := fun i => match lookup i e.put with
    | some x => some x
    | none => if i ∈ e.kl then none else (s.b i).map (killBox e.kl)

def S.ev (s : S) : Operand → AV
  | .tmp t => s.t t
  | .const v => ofConst v
  | .func f => .lit (.func (.func f) #[] #[])
  | .global _ => .bad

/-- A slot whose tree goes elsewhere keeps a look at it. -/
def given (x : Operand) (v : AV) : List (Nat × AV) :=
  match x with
  | .tmp t => if hasOwn v then [(t, share v)] else []
  | _ => []

/-- Local rows in a row of cells become trees: the cells, and the rows that are no more. -/
def freezeL (b : Nat → Option Box) : List AV → Option (List AV × List Nat)
  | [] => some ([], [])
  | .msl r n :: cs =>
    match b r, freezeL b cs with
    | some x, some (ys, ks) => if x.sz ≠ 0 ∧ n * x.sz = x.cs.length ∧ r ∉ ks then some (.sl true x.sz n x.cs :: ys, r :: ks) else none
    | _, _ => none
  | .bad :: _ => none
  | c :: cs => match freezeL b cs with
    | some (ys, ks) => some (c :: ys, ks)
    | none => none

/-- Parts laid into a row of cells. -/
def fillG (place : Nat → Option (Nat × Nat)) : List (Nat × List AV) → List AV → Option (List AV)
  | [], cs => some cs
  | (i, xs) :: rest, cs =>
    match place i with
    | some (off, size) => if xs.length = size ∧ off + size ≤ cs.length then fillG place rest (cs.take off ++ xs ++ cs.drop (off + size)) else none
    | none => none

def allSome {α : Type} : List (Option α) → Option (List α)
  | [] => some []
  | some x :: l => (allSome l).map (x :: ·)
  | none :: _ => none
/-- a struct's fields: where they begin, how many cells they have -/
def tfields (P : Program) (t : TypeId) : Option (List (Nat × Nat)) :=
  match P.underlying t with
  | some (.struct fs) => allSome (fs.toList.map fun f => (tsize P f.type).map fun k => (f.offset, k))
  | _ => none
/-- where the parts of a struct or an array go -/
def tplace (P : Program) (t : TypeId) : Option (Nat → Option (Nat × Nat)) :=
  match tarr P t with
  | some (_, z) => some fun i => some (i * z, z)
  | none => (tfields P t).map fun l => fun i => l[i]?

def noDup : List Nat → Bool
  | [] => true
  | x :: xs => !xs.contains x && noDup xs

/-- What the prover says beside the code: which loads hand their tree on ('mv': function, slot), which parameters take theirs ('own'), which are written through ('mt'), which types '==' compares cell by cell ('eqt'). -/
structure Hints where
  mv : FuncId → Nat → Bool
  own : FuncId → Nat → Bool
  mt : FuncId → Nat → Bool
  eqt : TypeId → Bool
  fl : FuncId → Bool := fun _ => false
  iv : (Nat → Nat) → World → Prop := fun _ _ => True
  zc : FuncId → Code → S → S → Prop := fun _ _ _ _ => False

def partsOf (s : S) : List (Nat × Operand) → Option (List (Nat × List AV))
  | [] => some []
  | (i, x) :: rest => match cellsOf (s.ev x), partsOf s rest with
    | some cs, some r => some ((i, cs) :: r)
    | _, _ => none
def partsGiven (s : S) : List (Nat × Operand) → List (Nat × AV)
  | [] => []
  | (_, x) :: rest => given x (s.ev x) ++ partsGiven s rest

def limBytes : Nat := 140737488355328
def limCells : Nat := 16777216

def boxOf (s : S) (b : Nat) : Option Box := s.b b

def loadE (P : Program) (H : Hints) (fid d : Nat) (t : TypeId) (s : S) : AV → Option Eff
  | .ptr b off =>
    match s.b b, tsize P t, tagg P t with
    | some x, some k, some true =>
      if 0 < k ∧ off + k ≤ x.cs.length then
        let seg := (x.cs.drop off).take k
        if H.mv fid d then some { val := .agg seg, put := [(b, { x with cs := x.cs.take off ++ shareL seg ++ x.cs.drop (off + k) })], rd := [b] }
        else some { val := .agg (shareL seg), rd := [b] }
      else none
    | some x, some 1, some false =>
      match x.cs[off]? with
      | some (.sl true sz n ds) => some { val := .sl false sz n (shareL ds), rd := [b] }
      | some .bad => none
      | some c => some { val := c, rd := [b] }
      | none => none
    | _, _, _ => none
  | .cptr cs =>
    match tsize P t, tagg P t with
    | some k, some true => if k ≤ cs.length then some { val := .agg (cs.take k) } else none
    | some 1, some false => match cs with
      | .bad :: _ => none
      | c :: _ => some { val := c }
      | [] => none
    | _, _ => none
  | _ => none

def storeE (P : Program) (t : TypeId) (s : S) (a : AV) (xo : Operand) : Option Eff :=
  match a, tsize P t, cellsOf (s.ev xo) with
  | .ptr b off, some k, some cs =>
    match s.b b with
    | some x =>
      if x.st = true ∧ cs.length = k ∧ off + k ≤ x.cs.length ∧ 0 < k then
        if x.sz = 0 then some { val := .bad, set := given xo (s.ev xo), put := [(b, { x with cs := x.cs.take off ++ cs ++ x.cs.drop (off + k) })], rd := [b] }
        else match freezeL s.b cs with
          | some (ys, ks) => if b ∈ ks then none else some { val := .bad, set := given xo (s.ev xo), kl := ks, put := [(b, { x with cs := x.cs.take off ++ ys ++ x.cs.drop (off + k) })], rd := b :: ks }
          | none => none
      else none
    | none => none
  | _, _, _ => none

/-- What is appended: its cells, and the rows that are no more, and the rows that were looked into. -/
def appArg (kb : Bool) (s : S) (sz : Nat) : AV → Option (List AV × List Nat × List Nat)
  | .nil => some ([], [], [])
  | .sl o z n cs => if z = sz ∧ cs.length = n * sz then some (if o then shareL cs else cs, [], []) else none
  | .msl b n => match s.b b with
    | some r => if r.sz = sz ∧ r.cs.length = n * sz then (if (kb || hasOwnL r.cs) = true then some (r.cs, [b], [b]) else some (r.cs, [], [b])) else none
    | none => none
  | _ => none

def appendE (P : Program) (kb : Bool) (d : Nat) (st : TypeId) (s : S) (x y : AV) : Option Eff :=
  match tslice P st with
  | some (e, sz, bytes) => if sz = 0 ∨ (tzero P e).map (·.length) ≠ some sz then none else
    match appArg kb s sz y with
    | some (ys, ks, rs) => if d ∈ ks then none else
      match x with
      | .nil =>
        if ys.length * bytes ≤ limBytes * sz ∧ ys.length ≤ 9223372036854775807 * sz then
          if ys = [] then some { val := .nil, rd := rs }
          else some { val := .msl d (ys.length / sz), kl := d :: ks, put := [(d, ⟨true, sz, ys⟩)], rd := rs }
        else none
      | .msl b n => match s.b b with
        | some r =>
          if r.sz = sz ∧ r.cs.length = n * sz ∧ b ∉ ks ∧ (r.cs.length + ys.length) * bytes ≤ limBytes * sz ∧ r.cs.length + ys.length ≤ 9223372036854775807 * sz then
            some { val := .msl d (n + ys.length / sz), kl := d :: b :: ks, put := [(d, ⟨r.st, sz, r.cs ++ ys⟩)], rd := b :: rs }
          else none
        | none => none
      | _ => none
    | none => none
  | none => none

def bnd (s : S) (z : Int) : Option Operand → Option Int
  | none => some z
  | some l => match s.ev l with
    | .lit (.int _ j) => some j
    | _ => none

def sliceE (P : Program) (t : TypeId) (s : S) (lo hi : Option Operand) : AV → Option Eff
  | .lit (.string v) => match bnd s 0 lo, bnd s v.size hi with
    | some l, some u => if tstr P t = true ∧ 0 ≤ l ∧ l ≤ u ∧ u ≤ v.size then some { val := .lit (.string (v.extract l.toNat u.toNat)) } else none
    | _, _ => none
  | .sl o z n cs => match bnd s 0 lo, bnd s n hi, tslice P t with
    | some l, some u, some (_, z', _) => if z = z' ∧ cs.length = n * z ∧ 0 ≤ l ∧ l ≤ u ∧ u ≤ n then some { val := .sl false z (u.toNat - l.toNat) (((if o then shareL cs else cs).drop (l.toNat * z)).take ((u.toNat - l.toNat) * z)) } else none
    | _, _, _ => none
  | .msl b n => match s.b b with
    | some r => match bnd s 0 lo, bnd s n hi, tslice P t with
      | some l, some u, some (_, z', _) => if r.sz = z' ∧ r.cs.length = n * z' ∧ z' ≠ 0 ∧ 0 ≤ l ∧ l ≤ u ∧ u ≤ n then some { val := .sl false z' (u.toNat - l.toNat) (((shareL r.cs).drop (l.toNat * z')).take ((u.toNat - l.toNat) * z')), put := [(b, { r with st := false })], rd := [b] } else none
      | _, _, _ => none
    | none => none
  | _ => none

/-- Cells that are bytes. -/
def bytesOf : List AV → Option (List Int)
  | [] => some []
  | .lit (.int .u8 x) :: r => (bytesOf r).map (x :: ·)
  | _ => none
def tu8s (P : Program) (t : TypeId) : Bool := match tslice P t with | some (e, 1, _) => decide (tint P e = some .u8) | _ => false
/-- The string of bytes. -/
def strE (cs : List AV) (n : Nat) : Option ByteArray := match bytesOf cs with | some xs => if xs.length = n then some (strOfNums xs) else none | none => none

/-- How long a slice is. -/
def lenV : Value → Option Int
  | .slice _ n _ => some n
  | _ => none

def isP : AV → Bool
  | .ptr _ _ => true
  | .cptr _ => true
  | _ => false

def opE (P : Program) (H : Hints) (fid : FuncId) (o : Oper) (s : S) : Option Eff :=
  match o.op with
  | .move x => match s.ev x with | .bad => none | v => some { val := v, set := given x v }
  | .assign x => match s.ev x with | .bad => none | v => some { val := v, set := given x v }
  | .pick c a b => match s.ev c with
    | .lit (.bool true) => (match s.ev a with | .lit v => some { val := .lit v } | _ => none)
    | .lit (.bool false) => (match s.ev b with | .lit v => some { val := .lit v } | _ => none)
    | _ => none
  | .alloc t => match o.dst, tzero P t, tsize P t with
    | some d, some z, some k => if z.length = k then some { val := .ptr d 0, kl := [d], put := [(d, ⟨true, 0, z⟩)] } else none
    | _, _, _ => none
  | .box t x => match o.dst, cellsOf (s.ev x), tsize P t with
    | some d, some cs, some k => if cs.length = k then some { val := .ptr d 0, set := given x (s.ev x), kl := [d], put := [(d, ⟨true, 0, killL d cs⟩)] } else none
    | _, _, _ => none
  | .build t parts => match tzero P t, partsOf s parts.toList, tplace P t with
    | some z, some ps, some pl => if noDup ((partsGiven s parts.toList).map (·.1)) then (fillG pl ps z).map fun cs => { val := .agg cs, set := partsGiven s parts.toList } else none
    | _, _, _ => none
  | .buildSlice t len parts => match o.dst, tslice P t, partsOf s parts.toList with
    | some d, some (e, sz, _), some ps => match tzero P e with
      | some z => if sz ≠ 0 ∧ z.length = sz ∧ len * sz ≤ limCells ∧ noDup ((partsGiven s parts.toList).map (·.1)) = true then
          match fillG (fun i => some (i * sz, sz)) ps ((List.replicate len z).flatten) with
          | some cs => (match freezeL s.b cs with
            | some (ys, ks) => some { val := .msl d len, set := partsGiven s parts.toList, kl := d :: ks, put := [(d, ⟨true, sz, ys⟩)], rd := ks }
            | none => none)
          | none => none
        else none
      | none => none
    | _, _, _ => none
  | .load t a => match o.dst with
    | some d => loadE P H fid d t s (s.ev a)
    | none => none
  | .store t a x => if o.dst = none then storeE P t s (s.ev a) x else none
  | .nilCheck x => match s.ev x with
    | .ptr b k => some { val := .ptr b k }
    | .cptr cs => some { val := .cptr cs }
    | _ => none
  | .binOp op t x y _ => match s.ev x, s.ev y with
    | .lit a, .lit b => (match binV op a b with
      | some v => some { val := .lit v }
      | none => if tbool P t = true then (eqB op a b).map fun v => { val := .lit v } else none)
    | .agg xs, .agg ys => if (H.eqt t && decide (tsize P t = some xs.length) && xs.all litInt) = true then
        (match op with
        | .eql => (sameLits xs ys).map fun r => { val := .lit (.bool r) }
        | .neq => (sameLits xs ys).map fun r => { val := .lit (.bool (!r)) }
        | _ => none) else none
    | _, _ => none
  | .unOp op _ x => match s.ev x with
    | .lit a => (unV op a).map fun v => { val := .lit v }
    | _ => none
  | .convert src dst x => match s.ev x with
    | .lit (.int _ n) => match tint P dst with
      | some k => if tund P src = true then some { val := .lit (.int k (k.wrap n)) } else none
      | none => none
    | .sl false 1 n cs => if tu8s P src = true ∧ tstr P dst = true then (strE cs n).map fun t => { val := .lit (.string t) } else none
    | .msl b n => if tstr P dst = true then (match s.b b with
        | some r => if tu8s P src = true ∧ r.sz = 1 then (strE r.cs n).map fun t => { val := .lit (.string t), rd := [b] } else none
        | none => none)
      else match s.b b, tslice P dst with
      | some r, some (e, 1, _) => if src = dst ∧ tint P e = some .u8 ∧ r.sz = 1 ∧ r.cs.isEmpty = false then some { val := .msl b n, put := [(b, r)], rd := [b] } else none
      | _, _ => none
    | _ => none
  | .fieldAddr t x f => match s.ev x, tfield P t f with
    | .ptr b k, some (off, _) => some { val := .ptr b (k + off) }
    | .cptr cs, some (off, _) => if off ≤ cs.length then some { val := .cptr (cs.drop off) } else none
    | _, _ => none
  | .indexAddr t x i => match s.ev i with
    | .lit (.int _ j) => match s.ev x, tarr P t, tslice P t with
      | .ptr b k, some (n, z), _ => if 0 ≤ j ∧ j < n then some { val := .ptr b (k + j.toNat * z) } else none
      | .cptr cs, some (n, z), _ => if 0 ≤ j ∧ j < n ∧ j.toNat * z ≤ cs.length then some { val := .cptr (cs.drop (j.toNat * z)) } else none
      | .sl true z n cs, none, some (_, z', _) => if z = z' ∧ 0 ≤ j ∧ j < n ∧ j.toNat * z ≤ cs.length then some { val := .cptr (shareL (cs.drop (j.toNat * z))) } else none
      | .sl false z n cs, none, some (_, z', _) => if z = z' ∧ 0 ≤ j ∧ j < n ∧ j.toNat * z ≤ cs.length then some { val := .cptr (cs.drop (j.toNat * z)) } else none
      | .msl b n, none, some (_, z', _) => match s.b b with
        | some r => if r.sz = z' ∧ 0 ≤ j ∧ j < n then some { val := .ptr b (j.toNat * z'), rd := [b] } else none
        | none => none
      | _, _, _ => none
    | _ => none
  | .index ty x i => match s.ev x, s.ev i with
    | .lit (.string t), .lit (.int _ j) => if h : 0 ≤ j ∧ j.toNat < t.size then (if tstr P ty = true then some { val := .lit (.int .u8 (t[j.toNat]'h.2).toNat) } else none) else none
    | .agg cs, .lit (.int _ j) => match tarrE P ty with
      | some (_, n, z, g) => if 0 ≤ j ∧ j < n ∧ j.toNat * z + z ≤ cs.length ∧ hasOwnL ((cs.drop (j.toNat * z)).take z) = false then
          (match g, (cs.drop (j.toNat * z)).take z with
          | true, seg => some { val := .agg seg }
          | false, [.bad] => none
          | false, [c] => some { val := c }
          | _, _ => none)
        else none
      | none => none
    | _, _ => none
  | .field ty x f => match o.dst, s.ev x, x, tfieldE P ty f with
    | some d, .agg cs, .tmp t, some (_, off, 1, false) => match cs[off]? with
      | some (.sl true sz n ds) => if sz ≠ 0 ∧ t ≠ d then some { val := .msl d n, set := [(t, .agg (cs.set off (.sl false sz n (shareL ds))))], kl := [d], put := [(d, ⟨false, sz, ds⟩)] } else none
      | some .bad => none
      | some c => if hasOwn c = false then some { val := c } else none
      | none => none
    | _, _, _, _ => none
  | .extract x i => match o.dst, s.ev x, x with
    | some d, .tup vs, .tmp t => match vs[i]? with
      | some (.sl true sz n cs) => if sz ≠ 0 ∧ t ≠ d then some { val := .msl d n, set := [(t, .tup (vs.set i (.sl false sz n (shareL cs))))], kl := [d], put := [(d, ⟨false, sz, cs⟩)] } else none
      | some .bad => none
      | some v => some { val := v, set := if hasOwn v then [(t, .tup (vs.set i (share v)))] else [] }
      | none => none
    | _, _, _ => none
  | .makeSlice t n _c => match o.dst, tslice P t, s.ev n, s.ev _c with
    | some d, some (e, sz, bytes), .lit (.int .i64 k), .lit (.int .i64 c) => match tzero P e with
      | some z => if sz ≠ 0 ∧ z.length = sz ∧ c = k ∧ 0 ≤ k ∧ k ≤ 9223372036854775807 ∧ k.toNat * bytes ≤ limBytes then some { val := .msl d k.toNat, kl := [d], put := [(d, ⟨true, sz, (List.replicate k.toNat z).flatten⟩)] } else none
      | none => none
    | _, _, _, _ => none
  | .slice t x lo hi mx => if mx.isSome then none else sliceE P t s lo hi (s.ev x)
  | .makeFunc (.func f) first cap => if first = #[] ∧ (cap.toList.map s.ev).all isP then some { val := .fnv f (cap.toList.map s.ev) } else none
  | .call { callee := .builtin b, args, argTypes } =>
    match b with
    | .len => (match args.toList, argTypes.toList with
      | [x], [t] => (match s.ev x with
        | .lit (.string v) => if tstr P t then some { val := .lit (.int .i64 v.size) } else none
        | .lit (.slice _ n _) => if (tslice P t).isSome then some { val := .lit (.int .i64 n) } else none
        | .nil => if (tslice P t).isSome then some { val := .lit (.int .i64 0) } else none
        | .sl _ _ n _ => if (tslice P t).isSome then some { val := .lit (.int .i64 n) } else none
        | .msl _ n => if (tslice P t).isSome then some { val := .lit (.int .i64 n) } else none
        | _ => none)
      | _, _ => none)
    | .max => (maxInts (args.toList.map s.ev)).map fun r => { val := .lit (.int r.1 r.2) }
    | .min => (minInts (args.toList.map s.ev)).map fun r => { val := .lit (.int r.1 r.2) }
    | .append => (match o.dst, args.toList, argTypes.toList with
      | some d, [x, y], [t, u] => if t = u then appendE P (H.mv fid d) d t s (s.ev x) (s.ev y) else none
      | _, _, _ => none)
    | _ => none
  | _ => none

/-! calls -/
def cleanC : AV → Bool
  | .lit _ => true
  | .nil => true
  | .sl _ _ _ _ => true
  | _ => false
def cleanL (cs : List AV) : Bool := cs.all cleanC

/-- How a cell looks to a function that only reads it. -/
def roCell (b : Nat → Option Box) : AV → Option AV
  | .lit v => some (.lit v)
  | .nil => some .nil
  | .sl o sz n cs => some (share (.sl o sz n cs))
  | .msl r n => match b r with
    | some x => if x.sz ≠ 0 ∧ n * x.sz ≤ x.cs.length then some (.sl false x.sz n (shareL (x.cs.take (n * x.sz)))) else none
    | none => none
  | _ => none
def roCells (b : Nat → Option Box) : List AV → Option (List AV)
  | [] => some []
  | x :: xs => match roCell b x, roCells b xs with
    | some y, some ys => some (y :: ys)
    | _, _ => none
def roPtr (b : Nat → Option Box) : AV → Option AV
  | .ptr r off => match b r with
    | some x => if off < x.cs.length then (roCells b (x.cs.drop off)).map .cptr else none
    | none => none
  | .cptr cs => some (.cptr cs)
  | _ => none
def roCaps (b : Nat → Option Box) : List AV → Option (List AV)
  | [] => some []
  | x :: xs => match roPtr b x, roCaps b xs with
    | some y, some ys => some (y :: ys)
    | _, _ => none
def ro (b : Nat → Option Box) : AV → Option AV
  | .agg cs => (roCells b cs).map .agg
  | .ptr r off => roPtr b (.ptr r off)
  | .cptr cs => some (.cptr cs)
  | .fnv f cs => (roCaps b cs).map (.fnv f)
  | .lit v => roCell b (.lit v)
  | .nil => roCell b .nil
  | .sl o sz n cs => roCell b (.sl o sz n cs)
  | .msl r n => roCell b (.msl r n)
  | _ => none

mutual
/-- The boxes that a value speaks of. -/
def ids : AV → List Nat
  | .msl b _ => [b]
  | .ptr b _ => [b]
  | .agg cs => idsL cs
  | .tup cs => idsL cs
  | .fnv _ cs => idsL cs
  | _ => []
def idsL : List AV → List Nat
  | [] => []
  | x :: xs => ids x ++ idsL xs
end

def inside (b : Nat → Option Box) : AV → List Nat
  | .ptr r _ => match b r with | some z => idsL z.cs | none => []
  | _ => []
/-- The boxes that a look at a value leans on. -/
def leans (b : Nat → Option Box) (x : AV) : List Nat := ids x ++ (match x with | .fnv _ cs => cs.flatMap (inside b) | x => inside b x)

/-- The arguments as the callee has them. 'set': slots that gave their tree; 'kl': rows that went over; 'ids': boxes that the callee only reads, for the call's time; 'mts': its borrowed boxes, by parameter. -/
structure Prep where
  args : List AV
  set : List (Nat × AV)
  kl : List Nat
  tmp : List Nat
  mts : List (Nat × Nat)

def prep (H : Hints) (f : FuncId) (s : S) : Nat → List Operand → Option Prep
  | _, [] => some ⟨[], [], [], [], []⟩
  | i, x :: xs =>
    match prep H f s (i + 1) xs with
    | none => none
    | some p =>
      if H.mt f i then
        match s.ev x with
        | .ptr b 0 => match s.b b with
          | some bx => if cleanL bx.cs ∧ bx.sz = 0 ∧ bx.st = true ∧ b ∉ p.tmp ∧ b ∉ p.kl ∧ b ∉ p.mts.map (·.2) then some { p with args := .ptr (1000 + i) 0 :: p.args, mts := (i, b) :: p.mts } else none
          | none => none
        | _ => none
      else if H.own f i then
        match s.ev x with
        | .msl r n => match freezeL s.b [.msl r n] with
          | some ([y], ks) => if r ∈ p.kl ∨ r ∈ p.tmp ∨ r ∈ p.mts.map (·.2) then none else some { p with args := y :: p.args, kl := r :: p.kl }
          | _ => none
        | .agg cs => match freezeL s.b cs with
          | some (ys, ks) => if ks.any (fun k => k ∈ p.kl ∨ k ∈ p.tmp ∨ k ∈ p.mts.map (·.2)) ∨ (given x (.agg cs)).any (fun q => q.1 ∈ p.set.map (·.1)) then none else some { p with args := .agg ys :: p.args, kl := ks ++ p.kl, set := given x (.agg cs) ++ p.set }
          | none => none
        | .sl o sz n cs => if (given x (.sl o sz n cs)).any (fun q => q.1 ∈ p.set.map (·.1)) then none else some { p with args := .sl o sz n cs :: p.args, set := given x (.sl o sz n cs) ++ p.set }
        | .nil => some { p with args := .nil :: p.args }
        | .lit v => some { p with args := .lit v :: p.args }
        | _ => none
      else
        let v := s.ev x
        match ro s.b v with
        | some y => if (leans s.b v).any (fun k => k ∈ p.kl ∨ k ∈ p.mts.map (·.2)) then none else some { p with args := y :: p.args, tmp := leans s.b v ++ p.tmp }
        | none => none
end Evl

/-! Evb -/
namespace Evl
open Go

inductive X where
  | nor
  | ext (id : Nat)
  | ret

/-- Is the operation wanted? 'none': its guard is no bool. -/
def gd (ops : Array Oper) (o : Oper) (s : S) : Option Bool :=
  match o.guard with
  | none => some true
  | some (j, want) => match (ops[j]?).bind (·.dst) with
    | some d => match s.t d with
      | .lit (.bool b) => some (b == want)
      | .tup [] => some false
      | _ => none
    | none => none

/-- What an operation did, for the look at other orders. -/
structure LogE where
  i : Nat
  dst : Option Nat
  looks : List Nat
  ment : List Nat
  nb : Bool
  eff : Eff

mutual
/-- Is nothing in it gone? -/
def noBad : AV → Bool
  | .bad => false
  | .agg cs => noBadL cs
  | .tup cs => noBadL cs
  | .fnv _ cs => noBadL cs
  | _ => true
def noBadL : List AV → Bool
  | [] => true
  | x :: xs => noBad x && noBadL xs
end

def idsB (x : Box) : List Nat := if x.sz = 0 then idsL x.cs else []
def boxIds (s : S) (l : List Nat) : List Nat := l.flatMap fun b => match s.b b with | some x => idsB x | none => []

def mkLog (ops : Array Oper) (i : Nat) (o : Oper) (s : S) (e : Eff) : LogE where
  i := i
  dst := o.dst
  looks := o.looksAt ops
  ment := (o.op.operands.toList.flatMap fun x => ids (s.ev x)) ++ boxIds s e.rd ++ ids e.val ++ (e.put.flatMap fun p => idsB p.2) ++ (e.set.flatMap fun p => ids p.2)
  nb := (o.looksAt ops).all (fun t => noBad (s.t t)) && e.rd.all fun b => match s.b b with | some x => x.sz != 0 || noBadL x.cs | none => true
  eff := e

def disj (l l' : List Nat) : Bool := l.all fun x => !l'.contains x

def oneWay (x y : LogE) : Bool :=
  (match x.dst with | some d => !y.looks.contains d && y.dst != some d && !(y.eff.set.map (·.1)).contains d | none => true) &&
  disj (x.eff.set.map (·.1)) (y.looks ++ y.eff.set.map (·.1)) &&
  disj (x.eff.put.map (·.1)) (y.eff.rd ++ y.eff.put.map (·.1)) &&
  disj x.eff.kl (y.ment ++ y.eff.rd ++ y.eff.put.map (·.1) ++ y.eff.kl)
def indep (x y : LogE) : Bool := oneWay x y && oneWay y x

/-- A part of a tuple is taken, and nobody else minds. -/
def partOk (ops : Array Oper) (i : Nat) : Bool := Region.noSelect ops && match ops[i]? with
  | some o => (match o.op, o.guard, o.dst with | .extract (.tmp _) _, none, some _ => true | _, _, _ => false) &&
    (List.range ops.size).all fun j => j == i || (match ops[j]? with | some p => (o.after.any fun e => Region.binds .any e && e.on == j) || (p.after.any fun e => Region.binds .any e && e.on == i) || o.apart ops p | none => true)
  | none => false
/-- What waits for the one waits for the other, too: the one is ready when the other is. -/
def afterSub (ops : Array Oper) (i j : Nat) : Bool := match ops[i]?, ops[j]? with
  | some o, some p => o.after.all fun e => !Region.binds .any e || p.after.any fun e' => Region.binds .any e' && e'.on == e.on
  | _, _ => false
/-- Any two operations that are not ordered leave each other alone. -/
def drawOk (ops : Array Oper) (lg : List LogE) : Bool :=
  ((List.range ops.size).all fun i => match ops[i]? with | some o => o.after.all fun e => !Region.binds .any e || e.on < i | none => true) &&
  lg.all fun x => lg.all fun y => !(x.i < y.i) || ((Region.before ops).getD y.i 0).testBit x.i || (indep x y && (y.nb || x.eff.kl.isEmpty)) || (afterSub ops x.i y.i && partOk ops x.i && partOk ops y.i)

def calleeOf (o : Oper) (s : S) : Option (FuncId × List Operand × List AV) :=
  match o.op with
  | .call { callee := .value x, args, .. } => match s.ev x with
    | .lit (.func (.func f) _ _) => some (f, args.toList, [])
    | .fnv f caps => some (f, args.toList, caps)
    | _ => none
  | _ => none

def bxOf (s : S) : List (Nat × Nat) → Nat → Option Box
  | [], _ => none
  | (i, b) :: l, k => if k = 1000 + i then s.b b else bxOf s l k

def backs (bx' : Nat → Option Box) : List (Nat × Nat) → Option (List (Nat × Box))
  | [] => some []
  | (i, b) :: l => match bx' (1000 + i), backs bx' l with
    | some x, some r => some ((b, x) :: r)
    | _, _ => none

/-- What a call that came back does. -/
def callE (dst : Option Nat) (p : Prep) (r : AV) (bx' : Nat → Option Box) : Option Eff :=
  match backs bx' p.mts with
  | none => none
  | some pb =>
    if (p.tmp ≠ [] ∧ (hasSh r || pb.any fun q => hasShL q.2.cs) = true) ∨ (pb.all fun q => cleanL q.2.cs) = false then none else
    let rd := p.tmp ++ p.kl ++ p.mts.map (·.2)
    match r, dst with
    | .sl true sz n cs, some d =>
      if sz ≠ 0 ∧ d ∉ pb.map (·.1) then some { val := .msl d n, set := p.set, kl := d :: p.kl, put := (d, ⟨false, sz, cs⟩) :: pb, rd := rd } else none
    | .nbx cs, some d => if d ∉ pb.map (·.1) then some { val := .ptr d 0, set := p.set, kl := d :: p.kl, put := (d, ⟨true, 0, cs⟩) :: pb, rd := rd } else none
    | .bad, _ => none
    | v, _ => some { val := v, set := p.set, kl := p.kl, put := pb, rd := rd }

/-- One result: its value, and the boxes whose trees went into it. -/
def resE (P : Program) (s : S) : ResultVar → Option (AV × List Nat × List Nat)
  | .tmp t => match s.t t with
    | .msl r n => match freezeL s.b [.msl r n] with
      | some ([y], ks) => some (y, ks, [t])
      | _ => none
    | .agg cs => match freezeL s.b cs with
      | some (ys, ks) => some (.agg ys, ks, [t])
      | none => none
    | .ptr b 0 => match s.b b with
      | some x => if b < 1000 ∧ x.sz = 0 ∧ x.st = true ∧ cleanL x.cs then some (.nbx x.cs, [b], [t]) else none
      | none => none
    | .lit v => some (.lit v, [], [t])
    | .nil => some (.nil, [], [t])
    | .sl o sz n cs => some (.sl o sz n cs, [], [t])
    | _ => none
  | .cell a t => match s.t a, tsize P t, tagg P t with
    | .ptr b 0, some k, some ag => match s.b b with
      | some x => if b < 1000 ∧ x.cs.length = k ∧ x.sz = 0 then
          match freezeL s.b x.cs with
          | some (ys, ks) => if b ∈ ks then none else
            (match ag, ys with
            | true, _ => some (.agg ys, b :: ks, [])
            | false, [y] => some (y, b :: ks, [])
            | _, _ => none)
          | none => none
        else none
      | none => none
    | _, _, _ => none

def resL (P : Program) (s : S) : List ResultVar → Option (List AV × List Nat × List Nat)
  | [] => some ([], [], [])
  | x :: xs => match resE P s x, resL P s xs with
    | some (v, ks, ts), some (vs, ls, us) => if disj ks ls && disj ts us && ks.all (· < 1000) then some (v :: vs, ks ++ ls, ts ++ us) else none
    | _, _ => none

def isNbx : AV → Bool
  | .nbx _ => true
  | _ => false
def resOf (P : Program) (s : S) (l : List ResultVar) : Option AV :=
  match resL P s l with
  | some ([v], _, _) => some v
  | some (vs, _, _) => if vs.any isNbx then none else some (.tup vs)
  | none => none

def S0 (args : List AV) (bx : Nat → Option Box) : S where
  t := fun i => match args[i]? with | some x => x | none => .bad
  b := bx

/-- The borrowed boxes at the end. -/
def exitOk (bx : Nat → Option Box) (s : S) : Prop := ∀ i x, bx i = some x → 1000 ≤ i ∧ ∃ y, s.b i = some y ∧ cleanL y.cs = true ∧ y.sz = x.sz ∧ y.st = true ∧ y.cs.length = x.cs.length
def exitB (bx : Nat → Option Box) (s : S) : Nat → Option Box := fun i => match bx i with | some _ => s.b i | none => none

/-- Every operation's slot is one of the N slots. -/
def opsOk (N : Nat) (ops : Array Oper) : Bool := ops.all fun o => match o.dst with | some d => d < N | none => true
def codeOk (N : Nat) : Code → Bool
  | .region _ ops _ => opsOk N ops
  | .seq a b => codeOk N a && codeOk N b
  | .cond _ a b => codeOk N a && codeOk N b
  | .block _ a => codeOk N a
  | .loop a => codeOk N a
  | _ => true

inductive Judg where
  | ops (fid : FuncId) (ops : Array Oper) (l : List Nat) (s s' : S) (lg : List LogE)
  | code (fid : FuncId) (c : Code) (s : S) (x : X) (s' : S)
  | call (f : FuncId) (args : List AV) (bx : Nat → Option Box) (r : AV) (bx' : Nat → Option Box)

/-- Less is told: of a cell, of a value, of a state. -/
def WkC (x y : AV) : Prop := y = x ∨ y = .bad ∨ y = share x ∨ (x = .nil ∧ ∃ o z, y = .sl o z 0 [])
def WkCs : List AV → List AV → Prop
  | [], [] => True
  | x :: xs, y :: ys => WkC x y ∧ WkCs xs ys
  | _, _ => False
def WkU (x y : AV) : Prop := WkC x y ∨ ∃ cs ds, x = .agg cs ∧ y = .agg ds ∧ WkCs cs ds
def WkT : List AV → List AV → Prop
  | [], [] => True
  | x :: xs, y :: ys => WkU x y ∧ WkT xs ys
  | _, _ => False
def WkV (x y : AV) : Prop := WkU x y ∨ ∃ cs ds, x = .tup cs ∧ y = .tup ds ∧ WkT cs ds
def WkB (x y : Box) : Prop := y.st = x.st ∧ y.sz = x.sz ∧ WkCs x.cs y.cs
def WkS (s u : S) : Prop := (∀ i, WkV (s.t i) (u.t i)) ∧ ∀ b y, u.b b = some y → ∃ x, s.b b = some x ∧ WkB x y

/-- A nil slice in a slot, as a row that is nil as yet. -/
def virtS (i b sz : Nat) (s : S) : S := ({ val := .msl b 0, kl := [b], put := [(b, ⟨true, sz, []⟩)] } : Eff).apply (some i) s
/-- The same, in a box. -/
def virtC (k : Nat) (y : Box) (j b sz : Nat) (s : S) : S := ({ val := .bad, kl := [b], put := [(b, ⟨true, sz, []⟩), (k, { y with cs := (killL b y.cs).set j (.msl b 0) })] } : Eff).apply none s

/-- A tree of one's own, in a slot, as a local row. -/
def shutS (b : Nat) (y : Box) (s : S) : S := ({ val := .bad, put := [(b, { y with st := false })] } : Eff).apply none s
def adoptS (i b n sz : Nat) (cs : List AV) (s : S) : S := ({ val := .msl b n, kl := [b], put := [(b, ⟨false, sz, cs⟩)] } : Eff).apply (some i) s
/-- The same, of a tree in a box's cell. -/
def adoptC (k : Nat) (y : Box) (j b n sz : Nat) (cs : List AV) (s : S) : S := ({ val := .bad, kl := [b], put := [(b, ⟨false, sz, cs⟩), (k, { y with cs := (killL b y.cs).set j (.msl b n) })] } : Eff).apply none s

/-- Nothing of one's own is handed on. -/
def callPlain (s : S) (p : Prep) : Bool := p.set.isEmpty && p.kl.isEmpty && p.mts.all fun q => match s.b q.2 with | some x => !hasOwnL x.cs | none => false
/-- Cells that are bytes; cells that are none. -/
def isU8 : AV → Bool
  | .lit (.int .u8 _) => true
  | _ => false
/-- What leads to shared cells leads to bytes. -/
def byLk : AV → Prop
  | .sl false _ n cs => n = cs.length ∧ ∀ c ∈ cs, isU8 c = true
  | .lit _ => True
  | .nil => True
  | .msl _ _ => True
  | .ptr _ _ => True
  | .bad => True
  | _ => False
def openS (b : Nat) (y : Box) (s : S) : S where
  t := s.t
  b := fun k => if k = b then some { y with st := true } else s.b k

/-- Two operations: a slice is moved, and held against nil. -/
structure NilOps (P : Program) (ops : Array Oper) (i t3 t4 : Nat) : Prop where
  sz : ops.size = 2
  o0 : ∃ o, ops[0]? = some o ∧ o.dst = some t3 ∧ o.op = .move (.tmp i) ∧ o.guard = none
  o1 : ∃ o ty e t', ops[1]? = some o ∧ o.dst = some t4 ∧ o.op = .binOp .eql ty (.tmp t3) (.const (.slice none 0 0)) t' ∧ o.guard = none ∧ P.underlying ty = some (.slice e)
def nqS (t3 t4 : Nat) (x : AV) (b : Bool) (s : S) : S := ({ val := .lit (.bool b) } : Eff).apply (some t4) (({ val := x } : Eff).apply (some t3) s)

def skipE : Eff := { val := .tup [] }

/-! two boxes change their numbers -/
def renI (b d k : Nat) : Nat := if k = b then d else if k = d then b else k
mutual
def ren (b d : Nat) : AV → AV
  | .msl k n => .msl (renI b d k) n
  | .ptr k o => .ptr (renI b d k) o
  | .agg cs => .agg (renL b d cs)
  | .tup cs => .tup (renL b d cs)
  | .fnv f cs => .fnv f (renL b d cs)
  | v => v
def renL (b d : Nat) : List AV → List AV
  | [] => []
  | x :: xs => ren b d x :: renL b d xs
end
def renB (b d : Nat) (x : Box) : Box := if x.sz = 0 then { x with cs := renL b d x.cs } else x
def renS (b d : Nat) (s : S) : S where
  t := fun i => ren b d (s.t i)
  b := fun k => (s.b (renI b d k)).map (renB b d)

inductive Big (P : Program) (H : Hints) (Y : FuncId → List AV → (Nat → Option Box) → AV → (Nat → Option Box) → Prop) : Judg → Prop
  | nil {fid ops s} : Big P H Y (.ops fid ops [] s s [])
  | skip {fid ops i l o s s' lg} : ops[i]? = some o → gd ops o s = some false → Big P H Y (.ops fid ops l (skipE.apply o.dst s) s' lg) →
      Big P H Y (.ops fid ops (i :: l) s s' (mkLog ops i o s skipE :: lg))
  | step {fid ops i l o s s' lg e} : ops[i]? = some o → gd ops o s = some true → opE P H fid o s = some e → e.kl.all (· < 1000) = true →
      Big P H Y (.ops fid ops l (e.apply o.dst s) s' lg) → Big P H Y (.ops fid ops (i :: l) s s' (mkLog ops i o s e :: lg))
  | call {fid ops i l o s s' lg e f xs caps caps' p r bx'} : ops[i]? = some o → gd ops o s = some true → calleeOf o s = some (f, xs, caps) → roCaps s.b caps = some caps' →
      prep H f s 0 xs = some p → (caps = [] ∨ p.mts = []) → H.fl f = false → Big P H Y (.call f (p.args ++ caps') (bxOf s p.mts) r bx') →
      callE o.dst { p with tmp := leans s.b (.fnv f caps) ++ p.tmp } r bx' = some e → e.kl.all (· < 1000) = true →
      Big P H Y (.ops fid ops l (e.apply o.dst s) s' lg) → Big P H Y (.ops fid ops (i :: l) s s' (mkLog ops i o s e :: lg))
  | callf {fid ops i l o s s' lg e f xs caps caps' p r bx'} : ops[i]? = some o → gd ops o s = some true → calleeOf o s = some (f, xs, caps) → roCaps s.b caps = some caps' →
      prep H f s 0 xs = some p → (caps = [] ∨ p.mts = []) → callPlain s p = true → Big P H Y (.call f (p.args ++ caps') (bxOf s p.mts) r bx') →
      callE o.dst { p with tmp := leans s.b (.fnv f caps) ++ p.tmp } r bx' = some e → e.kl.all (· < 1000) = true →
      Big P H Y (.ops fid ops l (e.apply o.dst s) s' lg) → Big P H Y (.ops fid ops (i :: l) s s' (mkLog ops i o s e :: lg))
  | region {fid id ops s s' lg} : Big P H Y (.ops fid ops (List.range ops.size) s s' lg) → Big P H Y (.code fid (.region id ops false) s .nor s')
  | draw {fid id ops s s' lg} : Big P H Y (.ops fid ops (List.range ops.size) s s' lg) → drawOk ops lg = true → Big P H Y (.code fid (.region id ops true) s .nor s')
  | zreg {fid id ops s s'} : H.zc fid (.region id ops false) s s' → Big P H Y (.code fid (.region id ops false) s .nor s')
  | skipc {fid s} : Big P H Y (.code fid .skip s .nor s)
  | seqn {fid a b s s1 x s'} : Big P H Y (.code fid a s .nor s1) → Big P H Y (.code fid b s1 x s') → Big P H Y (.code fid (.seq a b) s x s')
  | seqx {fid a b s x s'} : Big P H Y (.code fid a s x s') → x ≠ .nor → Big P H Y (.code fid (.seq a b) s x s')
  | condt {fid c a b s x s'} : s.ev c = .lit (.bool true) → Big P H Y (.code fid a s x s') → Big P H Y (.code fid (.cond c a b) s x s')
  | condf {fid c a b s x s'} : s.ev c = .lit (.bool false) → Big P H Y (.code fid b s x s') → Big P H Y (.code fid (.cond c a b) s x s')
  | blockn {fid id a s s'} : Big P H Y (.code fid a s .nor s') → Big P H Y (.code fid (.block id a) s .nor s')
  | blocke {fid id a s s'} : Big P H Y (.code fid a s (.ext id) s') → Big P H Y (.code fid (.block id a) s .nor s')
  | blockx {fid id a s x s'} : Big P H Y (.code fid a s x s') → x ≠ .nor → x ≠ .ext id → Big P H Y (.code fid (.block id a) s x s')
  | loopn {fid a s s1 x s'} : Big P H Y (.code fid a s .nor s1) → Big P H Y (.code fid (.loop a) s1 x s') → Big P H Y (.code fid (.loop a) s x s')
  | loopx {fid a s x s'} : Big P H Y (.code fid a s x s') → x ≠ .nor → Big P H Y (.code fid (.loop a) s x s')
  | exit {fid id s} : Big P H Y (.code fid (.exit id) s (.ext id) s)
  | ret {fid s} : Big P H Y (.code fid .ret s .ret s)
  | wks {fid c s u x s'} : WkS s u → Big P H Y (.code fid c u x s') → Big P H Y (.code fid c s x s')
  | wke {fid c s x s' u} : Big P H Y (.code fid c s x s') → WkS s' u → Big P H Y (.code fid c s x u)
  | wka {f args args' bx r bx'} : WkT args args' → Big P H Y (.call f args' bx r bx') → Big P H Y (.call f args bx r bx')
  | wkr {f args bx r r' bx'} : Big P H Y (.call f args bx r bx') → WkV r r' → Big P H Y (.call f args bx r' bx')
  | virt {fid c s x s'} (i b sz : Nat) : s.t i = .nil → b < 1000 → sz ≠ 0 → Big P H Y (.code fid c (virtS i b sz s) x s') → Big P H Y (.code fid c s x s')
  | virtc {fid c s x s'} (k : Nat) (y : Box) (j b sz : Nat) : s.b k = some y → y.cs[j]? = some .nil → y.sz = 0 → k ≠ b → b < 1000 → sz ≠ 0 → Big P H Y (.code fid c (virtC k y j b sz s) x s') → Big P H Y (.code fid c s x s')
  | adopt {fid c s x s'} (i b n sz : Nat) (cs : List AV) : s.t i = .sl true sz n cs → b < 1000 → sz ≠ 0 → Big P H Y (.code fid c (adoptS i b n sz cs s) x s') → Big P H Y (.code fid c s x s')
  | adoptc {fid c s x s'} (k : Nat) (y : Box) (j b n sz : Nat) (cs : List AV) : s.b k = some y → y.cs[j]? = some (.sl true sz n cs) → y.sz = 0 → k ≠ b → b < 1000 → sz ≠ 0 → Big P H Y (.code fid c (adoptC k y j b n sz cs s) x s') → Big P H Y (.code fid c s x s')
  | ren {fid c s x s'} (b d : Nat) : b < 1000 → d < 1000 → Big P H Y (.code fid c (renS b d s) x s') → Big P H Y (.code fid c s x s')
  | shutb {fid c s x s'} (b : Nat) (y : Box) : s.b b = some y → y.sz ≠ 0 → Big P H Y (.code fid c (shutS b y s) x s') → Big P H Y (.code fid c s x s')
  | openb {fid c s x s'} (b : Nat) (y : Box) : H.fl fid = true → s.b b = some y → y.sz ≠ 0 → (∀ t, byLk (s.t t)) → (∀ k x, s.b k = some x → k ≠ b → ∀ c ∈ x.cs, byLk c) → (∀ c ∈ y.cs, isU8 c = false) → hasShL y.cs = false →
      Big P H Y (.code fid c (openS b y s) x s') → Big P H Y (.code fid c s x s')
  | given {f fn c args bx r bx'} : P.funcs[f]? = some fn → fn.body = some c → (fn.name == "runtime.NumGoroutine") = false → Y f args bx r bx' → Big P H Y (.call f args bx r bx')
  | body {f fn c args bx x s' r} : P.funcs[f]? = some fn → fn.body = some c → (fn.name == "runtime.NumGoroutine") = false → args.length = fn.params.size + fn.nfree → args.length ≤ fn.ntmps → codeOk fn.ntmps c = true →
      Big P H Y (.code f c (S0 args bx) x s') → (x = .nor ∨ x = .ret) → resOf P s' fn.results.toList = some r → exitOk bx s' → Big P H Y (.call f args bx r (exitB bx s'))
  | bodyq {f fn A id ops C K args bx r bx'} (i t3 t4 z n : Nat) (cs : List AV) (s1 : S) (xc xf : Bool → X) (sc sf : Bool → S) (rf : Bool → AV) :
      P.funcs[f]? = some fn → fn.body = some (.seq A (.seq (.seq (.region id ops false) C) K)) → (fn.name == "runtime.NumGoroutine") = false → args.length ≤ fn.ntmps → codeOk fn.ntmps (.seq A (.seq (.seq (.region id ops false) C) K)) = true →
      NilOps P ops i t3 t4 → s1.t i = .sl false z n cs → Big P H Y (.code f A (S0 args bx) .nor s1) →
      (∀ b : Bool, (b = true → n = 0) → Big P H Y (.code f C (nqS t3 t4 (.sl false z n cs) b s1) (xc b) (sc b))) →
      (∀ b : Bool, (b = true → n = 0) → xc b = .nor → Big P H Y (.code f K (sc b) (xf b) (sf b))) →
      (∀ b : Bool, (b = true → n = 0) → xc b ≠ .nor → xf b = xc b ∧ sf b = sc b) →
      (∀ b : Bool, (b = true → n = 0) → (xf b = .nor ∨ xf b = .ret) ∧ resOf P (sf b) fn.results.toList = some (rf b) ∧ WkV (rf b) r ∧ exitOk bx (sf b) ∧ exitB bx (sf b) = bx') → Big P H Y (.call f args bx r bx')

end Evl

/-! Evc -/
namespace Evl
open Go

abbrev Loc := Bool × Nat

/-- The cells of a block that may be written are not frozen. -/
def thawed (arr : Array Value) (fz : Nat × Nat) : Prop := fz.1 = fz.2 ∨ arr.size ≤ fz.1
theorem thawed.not {arr : Array Value} {fz : Nat × Nat} (h : thawed arr fz) : ∀ off, off < arr.size → ¬(fz.1 ≤ off ∧ off < fz.2) := by
  intro off ho hh; rcases h with h | h <;> omega

/-- What a slice looks at: nothing, or cells that nobody writes any more. -/
def Seen (V : Nat → Nat) (w : World) (a : Addr) (n : Nat) (vs : List Value) : Prop := (n = 0 ∧ vs = []) ∨ (a.spot = none ∧ a.off + vs.length ≤ V a.block ∧ a.block < w.heap.size)
theorem Seen.mono {V V' : Nat → Nat} {w w' : World} {a : Addr} {n : Nat} {vs : List Value} (h : Seen V w a n vs) (hV : ∀ g, V g ≤ V' g) (hs : w.heap.size ≤ w'.heap.size) : Seen V' w' a n vs :=
  h.imp id fun ⟨h1, h2, h3⟩ => ⟨h1, Nat.le_trans h2 (hV _), Nat.lt_of_lt_of_le h3 hs⟩

/-- 'Rep V w K m fp us cs': the cells us of the world w stand for cs. V g: how many cells of block g, from its begin, nobody writes any more. K b: the block of box b, and the capacity of a row and one; 0: a row that is nil as yet. m: may local rows stand there? fp: the blocks that belong to these cells alone. -/
inductive Rep (V : Nat → Nat) (w : World) (K : Nat → Nat × Nat) : Bool → List Nat → List Value → List AV → Prop
  | nil {m} : Rep V w K m [] [] []
  | lit {m fp v us cs} : plainX v = true → Rep V w K m fp us cs → Rep V w K m fp (v :: us) (.lit v :: cs)
  | nl {m fp us cs} : Rep V w K m fp us cs → Rep V w K m fp (.slice none 0 0 :: us) (.nil :: cs)
  | ns {m fp us cs sz} : Rep V w K m fp us cs → Rep V w K m fp (.slice none 0 0 :: us) (.sl false sz 0 [] :: cs)
  | sh {m fp us cs n cap sz ds} (a : Addr) (vs : List Value) : n ≤ cap → Seen V w a n vs → (∀ (j : Nat) (v : Value), vs[j]? = some v → w.cell? ⟨a.block, a.off + j, none⟩ = some v) →
      Rep V w K false [] vs ds → Rep V w K m fp us cs → Rep V w K m fp (.slice (some a) n cap :: us) (.sl false sz n ds :: cs)
  | ow {m fp us cs n cap sz ds fq} (g : Nat) (T : TypeId) (arr : Array Value) (fz : Nat × Nat) (vs : List Value) : n ≤ cap → w.heap[g]? = some (.cells arr T fz) → thawed arr fz → cap * sz ≤ arr.size → vs.length = n * sz → sz ≠ 0 →
      (∀ (j : Nat) (v : Value), vs[j]? = some v → arr[j]? = some v) → V g = vs.length → Rep V w K false fq vs ds → Rep V w K m fp us cs →
      Rep V w K m (g :: (fq ++ fp)) (.slice (some ⟨g, 0, none⟩) n cap :: us) (.sl true sz n ds :: cs)
  | on {m fp us cs sz} : Rep V w K m fp us cs → Rep V w K m fp (.slice none 0 0 :: us) (.sl true sz 0 [] :: cs)
  | ms {fp us cs n cap} (b : Nat) : (K b).2 = cap + 1 → n ≤ cap → Rep V w K true fp us cs → Rep V w K true fp (.slice (some ⟨(K b).1, 0, none⟩) n cap :: us) (.msl b n :: cs)
  | mv {fp us cs} (b : Nat) : (K b).2 = 0 → Rep V w K true fp us cs → Rep V w K true fp (.slice none 0 0 :: us) (.msl b 0 :: cs)
  | bd {m fp us cs} (u : Value) : oc u = true → Rep V w K m fp us cs → Rep V w K m fp (u :: us) (.bad :: cs)

variable {V V' : Nat → Nat} {w w' : World} {K K' : Nat → Nat × Nat} {m : Bool} {fp : List Nat} {us : List Value} {cs : List AV}

theorem plain_oc {v : Value} (h : plainX v = true) : oc v = true := by
  cases v <;> simp_all [plainX, plain, oc]

theorem Rep.len (h : Rep V w K m fp us cs) : us.length = cs.length := by
  induction h <;> simp_all

theorem Rep.oc (h : Rep V w K m fp us cs) : ∀ u ∈ us, oc u = true := by
  induction h with
  | nil => intro u hu; cases hu
  | lit hp _ ih => intro u hu; rcases List.mem_cons.1 hu with rfl | hu; exact plain_oc hp; exact ih u hu
  | nl _ ih => intro u hu; rcases List.mem_cons.1 hu with rfl | hu; rfl; exact ih u hu
  | ns _ ih => intro u hu; rcases List.mem_cons.1 hu with rfl | hu; rfl; exact ih u hu
  | on _ ih => intro u hu; rcases List.mem_cons.1 hu with rfl | hu; rfl; exact ih u hu
  | sh _ _ _ _ _ _ _ _ ih => intro u hu; rcases List.mem_cons.1 hu with rfl | hu; rfl; exact ih u hu
  | ow _ _ _ _ _ _ _ _ _ _ _ _ _ _ _ _ ih => intro u hu; rcases List.mem_cons.1 hu with rfl | hu; rfl; exact ih u hu
  | ms _ _ _ _ ih => intro u hu; rcases List.mem_cons.1 hu with rfl | hu; rfl; exact ih u hu
  | mv _ _ _ ih => intro u hu; rcases List.mem_cons.1 hu with rfl | hu; rfl; exact ih u hu
  | bd _ ho _ ih => intro u hu; rcases List.mem_cons.1 hu with rfl | hu; exact ho; exact ih u hu

/-- In cells where no local row stands no box is spoken of. -/
theorem Rep.noIds (h : Rep V w K m fp us cs) : m = false → idsL cs = [] := by
  induction h with
  | nil => intro _; rfl
  | lit _ _ ih => intro e; simp [idsL, ids, ih e]
  | nl _ ih => intro e; simp [idsL, ids, ih e]
  | ns _ ih => intro e; simp [idsL, ids, ih e]
  | on _ ih => intro e; simp [idsL, ids, ih e]
  | sh _ _ _ _ _ _ _ _ ih => intro e; simp [idsL, ids, ih e]
  | ow _ _ _ _ _ _ _ _ _ _ _ _ _ _ _ _ ih => intro e; simp [idsL, ids, ih e]
  | ms _ _ _ _ ih => intro e; cases e
  | mv _ _ _ ih => intro e; cases e
  | bd _ _ _ ih => intro e; simp [idsL, ids, ih e]

/-- The world goes on: what nobody writes stays; what belongs to these cells stays. -/
theorem Rep.mono (h : Rep V w K m fp us cs) (hc : ∀ g off, off < V g → w'.cell? ⟨g, off, none⟩ = w.cell? ⟨g, off, none⟩) (hV : ∀ g, V g ≤ V' g) (hs : w.heap.size ≤ w'.heap.size)
    (ho : ∀ g ∈ fp, w'.heap[g]? = w.heap[g]? ∧ V' g = V g) (hK : ∀ b ∈ idsL cs, K' b = K b) : Rep V' w' K' m fp us cs := by
  induction h with
  | nil => exact .nil
  | lit hp _ ih => exact .lit hp (ih ho (by simpa [idsL, ids] using hK))
  | nl _ ih => exact .nl (ih ho (by simpa [idsL, ids] using hK))
  | ns _ ih => exact .ns (ih ho (by simpa [idsL, ids] using hK))
  | on _ ih => exact .on (ih ho (by simpa [idsL, ids] using hK))
  | sh a vs h1 h2 h3 hin _ ih1 ih2 =>
    refine .sh a vs h1 (h2.mono hV hs) (fun j v hj => ?_) (ih1 (by simp) ?_) (ih2 ho (by simpa [idsL, ids] using hK))
    · have hl := (List.getElem?_eq_some_iff.1 hj).1
      rw [hc _ _ ?_]; exact h3 j v hj
      rcases h2 with ⟨_, rfl⟩ | ⟨_, h4, _⟩
      · simp at hl
      · omega
    · rw [hin.noIds rfl]; simp
  | ow g T arr fz vs h1 h2 h3 h4 h5 h6 h7 h8 hin _ ih1 ih2 =>
    have hg := ho g (by simp)
    refine .ow g T arr fz vs h1 (hg.1.trans h2) h3 h4 h5 h6 h7 (hg.2.trans h8) (ih1 (fun x hx => ho x (by simp [hx])) ?_) (ih2 (fun x hx => ho x (by simp [hx])) (by simpa [idsL, ids] using hK))
    rw [hin.noIds rfl]; simp
  | @ms fp us cs n cap b h0 h1 _ ih =>
    have hb : K' b = K b := hK b (by simp [idsL, ids])
    rw [← hb]
    exact .ms b (by rw [hb]; exact h0) h1 (ih ho (fun x hx => hK x (by simp [idsL, hx])))
  | @mv fp us cs b h0 _ ih =>
    have hb : K' b = K b := hK b (by simp [idsL, ids])
    exact .mv b (by rw [hb]; exact h0) (ih ho (fun x hx => hK x (by simp [idsL, hx])))
  | bd u hu _ ih => exact .bd u hu (ih ho (by simpa [idsL, ids] using hK))

/-- Where only the boxes that are no more may stand elsewhere. -/
theorem Rep.kill (d : Nat) (h : Rep V w K m fp us cs) (hK : ∀ b, b ≠ d → K' b = K b) : Rep V w K' m fp us (killL d cs) := by
  have key : ∀ {m fp us cs}, Rep V w K m fp us cs → m = false → Rep V w K' m fp us cs := by
    intro m fp us cs h e
    exact h.mono (fun _ _ _ => rfl) (fun _ => Nat.le_refl _) (Nat.le_refl _) (fun _ _ => ⟨rfl, rfl⟩) (by rw [h.noIds e]; simp)
  induction h with
  | nil => exact .nil
  | lit hp _ ih => simp only [killL, Evl.kill]; exact .lit hp ih
  | nl _ ih => simp only [killL, Evl.kill]; exact .nl ih
  | ns _ ih => simp only [killL, Evl.kill]; exact .ns ih
  | on _ ih => simp only [killL, Evl.kill]; exact .on ih
  | sh a vs h1 h2 h3 hin _ ih1 ih2 => simp only [killL, Evl.kill]; exact .sh a vs h1 h2 h3 (key hin rfl) ih2
  | ow g T arr fz vs h1 h2 h3 h4 h5 h6 h7 h8 hin _ ih1 ih2 => simp only [killL, Evl.kill]; exact .ow g T arr fz vs h1 h2 h3 h4 h5 h6 h7 h8 (key hin rfl) ih2
  | @ms fp us cs n cap b h0 h1 _ ih =>
    simp only [killL, Evl.kill]
    by_cases hb : b = d
    · rw [if_pos hb]; exact .bd _ rfl ih
    · rw [if_neg hb, ← hK b hb]; exact .ms b (by rw [hK b hb]; exact h0) h1 ih
  | @mv fp us cs b h0 _ ih =>
    simp only [killL, Evl.kill]
    by_cases hb : b = d
    · rw [if_pos hb]; exact .bd _ rfl ih
    · rw [if_neg hb]; exact .mv b (by rw [hK b hb]; exact h0) ih
  | bd u hu _ ih => simp only [killL, Evl.kill]; exact .bd u hu ih

theorem Rep.killAll (l : List Nat) : ∀ {cs K}, Rep V w K m fp us cs → (∀ b, b ∉ l → K' b = K b) → Rep V w K' m fp us (killAllL l cs) := by
  induction l with
  | nil => intro cs K h hK; obtain rfl : K' = K := funext fun b => hK b (by simp); exact h
  | cons d l ih =>
    intro cs K h hK
    simp only [killAllL]
    exact ih (K := fun b => if b = d then K' b else K b) (h.kill d (fun b hb => by simp [hb])) (fun b hb => by
      by_cases e : b = d
      · simp [e]
      · simp only [e, if_false]; exact hK b (by simp [e, hb]))

theorem cell_of_heap {g : Nat} {arr : Array Value} {T : TypeId} {fz : Nat × Nat} (h : w.heap[g]? = some (.cells arr T fz)) (j : Nat) : w.cell? ⟨g, j, none⟩ = arr[j]? := by
  simp [World.cell?, h]
theorem lt_of_heap {g : Nat} {o : Obj} (h : w.heap[g]? = some o) : g < w.heap.size := (Array.getElem?_eq_some_iff.1 h).1

/-- A look at a tree: nobody's own. -/
theorem Rep.share (h : Rep V w K m fp us cs) : Rep V w K m [] us (shareL cs) := by
  induction h with
  | nil => exact .nil
  | lit hp _ ih => simp only [shareL, Evl.share]; exact .lit hp ih
  | nl _ ih => simp only [shareL, Evl.share]; exact .nl ih
  | ns _ ih => simp only [shareL, Evl.share]; exact .ns ih
  | on _ ih => simp only [shareL, Evl.share]; exact .ns ih
  | sh a vs h1 h2 h3 hin _ ih1 ih2 => simp only [shareL, Evl.share]; exact .sh a vs h1 h2 h3 hin ih2
  | ow g T arr fz vs h1 h2 h3 h4 h5 h6 h7 h8 hin _ ih1 ih2 =>
    simp only [shareL, Evl.share]
    refine .sh ⟨g, 0, none⟩ vs h1 (.inr ⟨rfl, by simp [h8], lt_of_heap h2⟩) (fun j v hj => ?_) ih1 ih2
    simp only [Nat.zero_add]; rw [cell_of_heap h2]; exact h7 j v hj
  | ms b h0 h1 _ ih => simp only [shareL, Evl.share]; exact .ms b h0 h1 ih
  | mv b h0 _ ih => simp only [shareL, Evl.share]; exact .mv b h0 ih
  | bd u hu _ ih => simp only [shareL, Evl.share]; exact .bd u hu ih

theorem Rep.app {fq : List Nat} {vs : List Value} {ds : List AV} (h : Rep V w K m fp us cs) (k : Rep V w K m fq vs ds) : Rep V w K m (fp ++ fq) (us ++ vs) (cs ++ ds) := by
  induction h with
  | nil => exact k
  | lit hp _ ih => exact .lit hp (ih k)
  | nl _ ih => exact .nl (ih k)
  | ns _ ih => exact .ns (ih k)
  | on _ ih => exact .on (ih k)
  | sh a vs h1 h2 h3 hin _ ih1 ih2 => exact .sh a vs h1 h2 h3 hin (ih2 k)
  | ow g T arr fz vs h1 h2 h3 h4 h5 h6 h7 h8 hin _ ih1 ih2 =>
    have := Rep.ow (m := _) g T arr fz vs h1 h2 h3 h4 h5 h6 h7 h8 hin (ih2 k)
    simpa [List.append_assoc] using this
  | ms b h0 h1 _ ih => exact .ms b h0 h1 (ih k)
  | mv b h0 _ ih => exact .mv b h0 (ih k)
  | bd u hu _ ih => exact .bd u hu (ih k)

theorem Rep.split : ∀ (cs₁ : List AV) {fp us cs₂}, Rep V w K m fp us (cs₁ ++ cs₂) → ∃ fp₁ fp₂ us₁ us₂, fp = fp₁ ++ fp₂ ∧ us = us₁ ++ us₂ ∧ Rep V w K m fp₁ us₁ cs₁ ∧ Rep V w K m fp₂ us₂ cs₂ := by
  intro cs₁
  induction cs₁ with
  | nil => intro fp us cs₂ h; exact ⟨[], fp, [], us, rfl, rfl, .nil, h⟩
  | cons c cs₁ ih =>
    intro fp us cs₂ h
    cases h with
    | lit hp h => obtain ⟨f1, f2, u1, u2, rfl, rfl, a, b⟩ := ih h; exact ⟨f1, f2, _ :: u1, u2, rfl, rfl, .lit hp a, b⟩
    | nl h => obtain ⟨f1, f2, u1, u2, rfl, rfl, a, b⟩ := ih h; exact ⟨f1, f2, _ :: u1, u2, rfl, rfl, .nl a, b⟩
    | ns h => obtain ⟨f1, f2, u1, u2, rfl, rfl, a, b⟩ := ih h; exact ⟨f1, f2, _ :: u1, u2, rfl, rfl, .ns a, b⟩
    | on h => obtain ⟨f1, f2, u1, u2, rfl, rfl, a, b⟩ := ih h; exact ⟨f1, f2, _ :: u1, u2, rfl, rfl, .on a, b⟩
    | sh a vs h1 h2 h3 hin h => obtain ⟨f1, f2, u1, u2, rfl, rfl, k, b⟩ := ih h; exact ⟨f1, f2, _ :: u1, u2, rfl, rfl, .sh a vs h1 h2 h3 hin k, b⟩
    | ow g T arr fz vs h1 h2 h3 h4 h5 h6 h7 h8 hin h =>
      obtain ⟨f1, f2, u1, u2, rfl, rfl, k, b⟩ := ih h
      refine ⟨g :: (_ ++ f1), f2, _ :: u1, u2, ?_, rfl, .ow g T arr fz vs h1 h2 h3 h4 h5 h6 h7 h8 hin k, b⟩
      simp [List.append_assoc]
    | ms b h0 h1 h => obtain ⟨f1, f2, u1, u2, rfl, rfl, k, b'⟩ := ih h; exact ⟨f1, f2, _ :: u1, u2, rfl, rfl, .ms b h0 h1 k, b'⟩
    | mv b h0 h => obtain ⟨f1, f2, u1, u2, rfl, rfl, k, b'⟩ := ih h; exact ⟨f1, f2, _ :: u1, u2, rfl, rfl, .mv b h0 k, b'⟩
    | bd u hu h => obtain ⟨f1, f2, u1, u2, rfl, rfl, k, b⟩ := ih h; exact ⟨f1, f2, _ :: u1, u2, rfl, rfl, .bd u hu k, b⟩

/-- Cells without local rows stand wherever local rows may. -/
theorem Rep.up (h : Rep V w K m fp us cs) (m' : Bool) (hm : m = true → m' = true) : Rep V w K m' fp us cs := by
  induction h with
  | nil => exact .nil
  | lit hp _ ih => exact .lit hp (ih hm)
  | nl _ ih => exact .nl (ih hm)
  | ns _ ih => exact .ns (ih hm)
  | on _ ih => exact .on (ih hm)
  | sh a vs h1 h2 h3 hin _ ih1 ih2 => exact .sh a vs h1 h2 h3 hin (ih2 hm)
  | ow g T arr fz vs h1 h2 h3 h4 h5 h6 h7 h8 hin _ ih1 ih2 => exact .ow g T arr fz vs h1 h2 h3 h4 h5 h6 h7 h8 hin (ih2 hm)
  | ms b h0 h1 _ ih => obtain rfl := hm rfl; exact .ms b h0 h1 (ih fun _ => rfl)
  | mv b h0 _ ih => obtain rfl := hm rfl; exact .mv b h0 (ih fun _ => rfl)
  | bd u hu _ ih => exact .bd u hu (ih hm)

/-- Cells in which no local row is written stand without. -/
theorem Rep.down (h : Rep V w K m fp us cs) (hn : ∀ c ∈ cs, ∀ b n, c ≠ .msl b n) : Rep V w K false fp us cs := by
  induction h with
  | nil => exact .nil
  | lit hp _ ih => exact .lit hp (ih fun c hc => hn c (by simp [hc]))
  | nl _ ih => exact .nl (ih fun c hc => hn c (by simp [hc]))
  | ns _ ih => exact .ns (ih fun c hc => hn c (by simp [hc]))
  | on _ ih => exact .on (ih fun c hc => hn c (by simp [hc]))
  | sh a vs h1 h2 h3 hin _ ih1 ih2 => exact .sh a vs h1 h2 h3 hin (ih2 fun c hc => hn c (by simp [hc]))
  | ow g T arr fz vs h1 h2 h3 h4 h5 h6 h7 h8 hin _ ih1 ih2 => exact .ow g T arr fz vs h1 h2 h3 h4 h5 h6 h7 h8 hin (ih2 fun c hc => hn c (by simp [hc]))
  | @ms fp us cs n cap b h0 h1 _ ih => exact absurd rfl (hn (.msl b n) (by simp) b n)
  | @mv fp us cs b h0 _ ih => exact absurd rfl (hn (.msl b 0) (by simp) b 0)
  | bd u hu _ ih => exact .bd u hu (ih fun c hc => hn c (by simp [hc]))

end Evl

/-! Evd -/
namespace Evl
open Go

/-- The world goes on: what nobody writes stays. -/
structure Next (V V' : Nat → Nat) (w w' : World) : Prop where
  cell : ∀ g off, off < V g → w'.cell? ⟨g, off, none⟩ = w.cell? ⟨g, off, none⟩
  le : ∀ g, V g ≤ V' g
  sz : w.heap.size ≤ w'.heap.size
theorem Next.refl (V : Nat → Nat) (w : World) : Next V V w w := ⟨fun _ _ _ => rfl, fun _ => Nat.le_refl _, Nat.le_refl _⟩
theorem Next.trans {V V' V'' w w' w''} (h : Next V V' w w') (k : Next V' V'' w' w'') : Next V V'' w w'' :=
  ⟨fun g off ho => (k.cell g off (Nat.lt_of_lt_of_le ho (h.le g))).trans (h.cell g off ho), fun g => Nat.le_trans (h.le g) (k.le g), Nat.le_trans h.sz k.sz⟩

section
variable (V : Nat → Nat) (w : World) (K : Nat → Nat × Nat)

inductive RepP : Value → AV → Prop
  | ptr (b off : Nat) : RepP (.pointer (some ⟨(K b).1, off, none⟩)) (.ptr b off)
  | cptr (a : Addr) (vs : List Value) {cs} : a.spot = none → (∀ (j : Nat) (v : Value), vs[j]? = some v → w.cell? ⟨a.block, a.off + j, none⟩ = some v) → a.off + vs.length ≤ V a.block → a.block < w.heap.size →
      Rep V w K false [] vs cs → RepP (.pointer (some a)) (.cptr cs)
  | bad (v : Value) : RepP v .bad
inductive RepPs : List Value → List AV → Prop
  | nil : RepPs [] []
  | cons {v x vs xs} : RepP V w K v x → RepPs vs xs → RepPs (v :: vs) (x :: xs)
inductive RepU : List Nat → Value → AV → Prop
  | one {fp v x} : Rep V w K true fp [v] [x] → RepU fp v x
  | agg {fp us cs} : Rep V w K true fp us cs → RepU fp (.agg us.toArray) (.agg cs)
  | p {v x} : RepP V w K v x → RepU [] v x
  | fnv {f vs xs} : RepPs V w K vs xs → RepU [] (.func (.func f) #[] vs.toArray) (.fnv f xs)
inductive RepT : List Nat → List Value → List AV → Prop
  | nil : RepT [] [] []
  | cons {fp fq v x vs xs} : RepU V w K fp v x → RepT fq vs xs → RepT (fp ++ fq) (v :: vs) (x :: xs)
inductive RepV : List Nat → Value → AV → Prop
  | u {fp v x} : RepU V w K fp v x → RepV fp v x
  | tup {fp us xs} : RepT V w K fp us xs → RepV fp (.tuple us.toArray) (.tup xs)
end

variable {V V' V0 : Nat → Nat} {w w' w0 : World} {K K' : Nat → Nat × Nat} {fp : List Nat} {v : Value} {x : AV}

theorem RepV.bad (v : Value) : RepV V w K [] v .bad := .u (.p (.bad v))
theorem RepV.lit {v : Value} (h : plain v = true) : RepV V w K [] v (.lit v) := .u (.one (.lit (plain_X h) .nil))
theorem RepV.litX {v : Value} (h : plainX v = true) : RepV V w K [] v (.lit v) := .u (.one (.lit h .nil))

theorem RepP.next (h : RepP V w K v x) (n : Next V V' w w') (kl : List Nat) (hK : ∀ b, b ∉ kl → K' b = K b) : RepP V' w' K' v (killAll kl x) := by
  have hb : ∀ (l : List Nat), Evl.killAll l .bad = .bad := by intro l; induction l with
    | nil => rfl
    | cons d l ih => simpa [Evl.killAll, kill] using ih
  cases h with
  | ptr b off =>
    have : Evl.killAll kl (.ptr b off) = .ptr b off ∧ b ∉ kl ∨ Evl.killAll kl (.ptr b off) = .bad := by
      clear hK
      induction kl with
      | nil => exact .inl ⟨rfl, by simp⟩
      | cons d l ih =>
        simp only [Evl.killAll, kill]
        by_cases e : b = d
        · rw [if_pos e]; exact .inr (hb l)
        · rw [if_neg e]; rcases ih with ⟨h1, h2⟩ | h1
          · exact .inl ⟨h1, by simp [e, h2]⟩
          · exact .inr h1
    rcases this with ⟨h1, h2⟩ | h1
    · rw [h1, ← hK b h2]; exact .ptr b off
    · rw [h1]; exact .bad _
  | cptr a vs h1 h2 h3 h4 h5 =>
    have : ∀ (l : List Nat) cs, Evl.killAll l (.cptr cs) = .cptr cs := by intro l cs; induction l with
      | nil => rfl
      | cons d l ih => simpa [Evl.killAll, kill] using ih
    rw [this]
    refine .cptr a vs h1 (fun j v hj => ?_) (Nat.le_trans h3 (n.le _)) (Nat.lt_of_lt_of_le h4 n.sz) (h5.mono n.cell n.le n.sz (by simp) (by rw [h5.noIds rfl]; simp))
    rw [n.cell _ _ ?_]; exact h2 j v hj
    have := (List.getElem?_eq_some_iff.1 hj).1; omega
  | bad v => rw [hb]; exact .bad v

theorem RepPs.next {vs xs} (h : RepPs V w K vs xs) (n : Next V V' w w') (kl : List Nat) (hK : ∀ b, b ∉ kl → K' b = K b) : RepPs V' w' K' vs (killAllL kl xs) := by
  have hc : ∀ (l : List Nat) x xs, killAllL l (x :: xs) = Evl.killAll l x :: killAllL l xs := by
    intro l; induction l with
    | nil => intro x xs; rfl
    | cons d l ih => intro x xs; simp only [killAllL, killL, Evl.killAll]; exact ih _ _
  have hn : ∀ (l : List Nat), killAllL l [] = [] := by intro l; induction l with
    | nil => rfl
    | cons d l ih => simpa [killAllL, killL] using ih
  induction h with
  | nil => rw [hn]; exact .nil
  | cons a _ ih => rw [hc]; exact .cons (a.next n kl hK) ih

theorem killAllL_cons (l : List Nat) : ∀ x xs, killAllL l (x :: xs) = killAll l x :: killAllL l xs := by
  induction l with
  | nil => intro x xs; rfl
  | cons d l ih => intro x xs; simp only [killAllL, killL, Evl.killAll]; exact ih _ _
theorem killAllL_nil (l : List Nat) : killAllL l [] = [] := by
  induction l with
  | nil => rfl
  | cons d l ih => simpa [killAllL, killL] using ih
theorem killAll_agg (l : List Nat) : ∀ cs, killAll l (.agg cs) = .agg (killAllL l cs) := by
  induction l with
  | nil => intro cs; rfl
  | cons d l ih => intro cs; simp only [Evl.killAll, kill, killAllL]; exact ih _
theorem killAll_tup (l : List Nat) : ∀ cs, killAll l (.tup cs) = .tup (killAllL l cs) := by
  induction l with
  | nil => intro cs; rfl
  | cons d l ih => intro cs; simp only [Evl.killAll, kill, killAllL]; exact ih _
theorem killAll_fnv (l : List Nat) (f : FuncId) : ∀ cs, killAll l (.fnv f cs) = .fnv f (killAllL l cs) := by
  induction l with
  | nil => intro cs; rfl
  | cons d l ih => intro cs; simp only [Evl.killAll, kill, killAllL]; exact ih _

theorem Rep.next {m us cs} (h : Rep V w K m fp us cs) (n : Next V V' w w') (ho : ∀ g ∈ fp, w'.heap[g]? = w.heap[g]? ∧ V' g = V g) (kl : List Nat) (hK : ∀ b, b ∉ kl → K' b = K b) : Rep V' w' K' m fp us (killAllL kl cs) :=
  (h.mono (K' := K) n.cell n.le n.sz ho (fun _ _ => rfl)).killAll kl hK

theorem RepU.next (h : RepU V w K fp v x) (n : Next V V' w w') (ho : ∀ g ∈ fp, w'.heap[g]? = w.heap[g]? ∧ V' g = V g) (kl : List Nat) (hK : ∀ b, b ∉ kl → K' b = K b) : RepU V' w' K' fp v (killAll kl x) := by
  cases h with
  | one h =>
    have := h.next n ho kl hK
    rw [killAllL_cons, killAllL_nil] at this
    exact .one this
  | agg h => rw [killAll_agg]; exact .agg (h.next n ho kl hK)
  | p h => exact .p (h.next n kl hK)
  | fnv h => rw [killAll_fnv]; exact .fnv (h.next n kl hK)

theorem RepT.next {us xs} (h : RepT V w K fp us xs) (n : Next V V' w w') (ho : ∀ g ∈ fp, w'.heap[g]? = w.heap[g]? ∧ V' g = V g) (kl : List Nat) (hK : ∀ b, b ∉ kl → K' b = K b) : RepT V' w' K' fp us (killAllL kl xs) := by
  induction h with
  | nil => rw [killAllL_nil]; exact .nil
  | cons a _ ih => rw [killAllL_cons]; exact .cons (a.next n (fun g hg => ho g (by simp [hg])) kl hK) (ih (fun g hg => ho g (by simp [hg])))

theorem RepV.next (h : RepV V w K fp v x) (n : Next V V' w w') (ho : ∀ g ∈ fp, w'.heap[g]? = w.heap[g]? ∧ V' g = V g) (kl : List Nat) (hK : ∀ b, b ∉ kl → K' b = K b) : RepV V' w' K' fp v (killAll kl x) := by
  cases h with
  | u h => exact .u (h.next n ho kl hK)
  | tup h => rw [killAll_tup]; exact .tup (h.next n ho kl hK)

theorem share_one (h : RepU V w K fp v x) : RepU V w K [] v (share x) := by
  cases h with
  | one h => have := h.share; simp only [shareL] at this; exact .one this
  | agg h => simp only [share]; exact .agg h.share
  | p h => cases h with
    | ptr b off => simp only [share]; exact .p (.ptr b off)
    | cptr a vs h1 h2 h3 h4 h5 => simp only [share]; exact .p (.cptr a vs h1 h2 h3 h4 h5)
    | bad v => simp only [share]; exact .p (.bad v)
  | fnv h => simp only [share]; exact .fnv h
theorem RepT.share {us xs} (h : RepT V w K fp us xs) : RepT V w K [] us (shareL xs) := by
  induction h with
  | nil => exact .nil
  | cons a _ ih => simp only [shareL]; exact .cons (fp := []) (share_one a) ih
theorem RepV.share (h : RepV V w K fp v x) : RepV V w K [] v (Evl.share x) := by
  cases h with
  | u h => exact .u (share_one h)
  | tup h => simp only [Evl.share]; exact .tup h.share

mutual
theorem ownless : ∀ x : AV, hasOwn x = false → share x = x
  | .lit _, _ => rfl
  | .nil, _ => rfl
  | .sl true _ _ _, h => by simp [hasOwn] at h
  | .sl false _ _ _, _ => rfl
  | .msl _ _, _ => rfl
  | .agg cs, h => by simp only [share]; rw [ownlessL cs (by simpa [hasOwn] using h)]
  | .tup cs, h => by simp only [share]; rw [ownlessL cs (by simpa [hasOwn] using h)]
  | .ptr _ _, _ => rfl
  | .cptr _, _ => rfl
  | .nbx _, _ => rfl
  | .fnv _ _, _ => rfl
  | .bad, _ => rfl
theorem ownlessL : ∀ xs : List AV, hasOwnL xs = false → shareL xs = xs
  | [], _ => rfl
  | x :: xs, h => by
    simp only [hasOwnL, Bool.or_eq_false_iff] at h
    simp only [shareL]; rw [ownless x h.1, ownlessL xs h.2]
end

/-- A box: its block, its cells. -/
structure BoxOk (V : Nat → Nat) (w : World) (K : Nat → Nat × Nat) (b : Nat) (x : Box) (fb : List Nat) (arr : Array Value) (T : TypeId) (fz : Nat × Nat) (us : List Value) : Prop where
  hp : w.heap[(K b).1]? = some (.cells arr T fz)
  th : thawed arr fz
  pre : ∀ (j : Nat) (v : Value), us[j]? = some v → arr[j]? = some v
  rep : Rep V w K (x.sz == 0) fb us x.cs
  vis : V (K b).1 = if x.st then 0 else x.cs.length
  var : x.sz = 0 → arr.size = us.length ∧ x.st = true
  row : x.sz ≠ 0 → ∃ cap, (K b).2 = cap + 1 ∧ cap * x.sz ≤ arr.size ∧ us.length ≤ arr.size ∧ us.length % x.sz = 0

/-- A box that is there, or a row that is nil as yet. -/
def BoxAt (V : Nat → Nat) (w : World) (K : Nat → Nat × Nat) (O : Nat → Option Loc) (b : Nat) (x : Box) : Prop :=
  (x.sz ≠ 0 ∧ x.cs = [] ∧ (K b).2 = 0) ∨ ∃ fb arr T fz us, ((K b).1 :: fb).Nodup ∧ (∀ g ∈ (K b).1 :: fb, O g = some (false, b)) ∧ BoxOk V w K b x fb arr T fz us

/-- More is drawn, if that counts. -/
def Dr (_ _ : Nat) : Prop := True
theorem Dr.of {a b : Nat} (h : a ≤ b) : Dr a b := by first | exact h | (clear h; exact trivial)
theorem Dr.trans {a b c : Nat} (h : Dr a b) (k : Dr b c) : Dr a c := by first | exact Nat.le_trans h k | (clear h k; exact trivial)
/-- What a call leaves alone: the streams, old blocks that were not handed over. -/
structure Fr (w0 : World) (M : Nat → Prop) (w : World) : Prop where
  os : w.os = w0.os
  tape : w.tape = w0.tape
  output : w.output = w0.output
  sz : w0.heap.size ≤ w.heap.size
  old : ∀ g, g < w0.heap.size → ¬ M g → w.heap[g]? = w0.heap[g]?
  dr : Dr w0.drawn w.drawn

structure RelG (N : Nat) (w0 : World) (M : Nat → Prop) (V0 : Nat → Nat) (K : Nat → Nat × Nat) (V : Nat → Nat) (O : Nat → Option Loc) (s : S) (a : Act) (w : World) : Prop where
  df : a.defers = []
  n : a.tmps.size = N
  tm : ∀ t, ∃ fp, fp.Nodup ∧ (∀ g ∈ fp, O g = some (true, t)) ∧ RepV V w K fp (a.tmps.getD t undef) (s.t t)
  bx : ∀ b x, s.b b = some x → BoxAt V w K O b x
  rg : ∀ g l, O g = some l → (w0.heap.size ≤ g ∨ M g) ∧ g < w.heap.size
  vr : ∀ g, 0 < V g → g < w.heap.size
  fr : Fr w0 M w
  nx : Next V0 V w0 w
  vo : ∀ g, g < w0.heap.size → ¬ M g → V g = V0 g

theorem RelG.bxr {N : Nat} {w0 w : World} {M : Nat → Prop} {V0 V : Nat → Nat} {K : Nat → Nat × Nat} {O : Nat → Option Loc} {s : S} {a : Act} (R : RelG N w0 M V0 K V O s a w) (b : Nat) (x : Box) (hb : s.b b = some x) (h : x.sz = 0 ∨ x.cs ≠ [] ∨ (K b).2 ≠ 0) : ∃ fb arr T fz us, ((K b).1 :: fb).Nodup ∧ (∀ g ∈ (K b).1 :: fb, O g = some (false, b)) ∧ BoxOk V w K b x fb arr T fz us := by
  rcases R.bx b x hb with ⟨h1, h2, h3⟩ | h'
  · rcases h with h | h | h
    · exact absurd h h1
    · exact absurd h2 h
    · exact absurd h3 h
  · exact h'
end Evl

/-! Eve -/
namespace Evl
open Go

variable {N : Nat} {w0 w w' : World} {M : Nat → Prop} {V0 V V' : Nat → Nat} {K K' : Nat → Nat × Nat} {O O' : Nat → Option Loc} {s : S} {a : Act}

theorem killL_length (d : Nat) : ∀ cs, (killL d cs).length = cs.length
  | [] => rfl
  | x :: xs => by simp [killL, killL_length d xs]
theorem killAllL_length (l : List Nat) : ∀ cs, (killAllL l cs).length = cs.length := by
  induction l with
  | nil => intro cs; rfl
  | cons d l ih => intro cs; simp only [killAllL]; rw [ih, killL_length]
theorem shareL_length : ∀ cs, (shareL cs).length = cs.length
  | [] => rfl
  | x :: xs => by simp [shareL, shareL_length xs]

theorem getD_put (a : Act) (dst : Option Nat) (v : Value) (t : Nat) (h : dst ≠ some t) : (a.put dst v).tmps.getD t undef = a.tmps.getD t undef := by
  cases dst with
  | none => rfl
  | some d =>
    have : d ≠ t := fun e => h (by rw [e])
    simp [Act.put, Array.getD_eq_getD_getElem?, this]
theorem getD_put_same (a : Act) (d : Nat) (v : Value) (h : d < a.tmps.size) : (a.put (some d) v).tmps.getD d undef = v := by
  simp [Act.put, h]
theorem put_defers (a : Act) (dst : Option Nat) (v : Value) : (a.put dst v).defers = a.defers := by cases dst <;> rfl
theorem put_size (a : Act) (dst : Option Nat) (v : Value) : (a.put dst v).tmps.size = a.tmps.size := by cases dst <;> simp [Act.put]

theorem BoxOk.next {b : Nat} {x : Box} {fb arr T fz us} (h : BoxOk V w K b x fb arr T fz us) (n : Next V V' w w') (ho : ∀ g ∈ (K b).1 :: fb, w'.heap[g]? = w.heap[g]? ∧ V' g = V g) (kl : List Nat) (hK : ∀ b, b ∉ kl → K' b = K b) (hb : b ∉ kl) :
    BoxOk V' w' K' b (killBox kl x) fb arr T fz us where
  hp := by rw [hK b hb]; exact (ho _ (by simp)).1.trans h.hp
  th := h.th
  pre := h.pre
  rep := by
    simp only [killBox]
    by_cases hz : x.sz = 0
    · rw [if_pos hz]; exact h.rep.next n (fun g hg => ho g (by simp [hg])) kl hK
    · rw [if_neg hz]
      have e : (x.sz == 0) = false := by simpa using hz
      exact h.rep.mono n.cell n.le n.sz (fun g hg => ho g (by simp [hg])) (by rw [h.rep.noIds e]; simp)
  vis := by
    rw [hK b hb, (ho _ (by simp)).2, h.vis]; simp only [killBox]
    by_cases hz : x.sz = 0
    · simp only [if_pos hz, killAllL_length]
    · simp only [if_neg hz]
  var := h.var
  row := fun hz => by rw [hK b hb]; exact h.row hz

theorem RelG.apply (R : RelG N w0 M V0 K V O s a w) (e : Eff) (dst : Option Nat) (v : Value)
    (hd : ∀ d, dst = some d → d < N)
    (hn : Next V V' w w')
    (hK : ∀ b, b ∉ e.kl → K' b = K b)
    (hO : ∀ g l, O g = some l → (∀ t, l = (true, t) → dst ≠ some t ∧ lookup t e.set = none) → (∀ b, l = (false, b) → lookup b e.put = none ∧ b ∉ e.kl) → w'.heap[g]? = w.heap[g]? ∧ V' g = V g ∧ O' g = some l)
    (hset : ∀ t x, dst ≠ some t → lookup t e.set = some x → ∃ fp, fp.Nodup ∧ (∀ g ∈ fp, O' g = some (true, t)) ∧ RepV V' w' K' fp (a.tmps.getD t undef) (killAll e.kl x))
    (hval : ∀ d, dst = some d → ∃ fp, fp.Nodup ∧ (∀ g ∈ fp, O' g = some (true, d)) ∧ RepV V' w' K' fp v e.val)
    (hput : ∀ b x, lookup b e.put = some x → BoxAt V' w' K' O' b x)
    (hrg : ∀ g l, O' g = some l → (w0.heap.size ≤ g ∨ M g) ∧ g < w'.heap.size)
    (hvr : ∀ g, 0 < V' g → g < w'.heap.size)
    (hfr : Fr w0 M w') (hvo : ∀ g, g < w0.heap.size → ¬ M g → V' g = V g) :
    RelG N w0 M V0 K' V' O' (e.apply dst s) (a.put dst v) w' where
  df := by rw [put_defers]; exact R.df
  n := by rw [put_size]; exact R.n
  tm := by
    intro t
    by_cases ht : dst = some t
    · obtain ⟨fp, h1, h2, h3⟩ := hval t ht
      refine ⟨fp, h1, h2, ?_⟩
      subst ht
      rw [getD_put_same _ _ _ (by rw [R.n]; exact hd t rfl)]
      simpa [Eff.apply] using h3
    · simp only [Eff.apply, if_neg ht, getD_put a dst v t ht]
      cases hl : lookup t e.set with
      | some x => exact hset t x ht hl
      | none =>
        obtain ⟨fp, h1, h2, h3⟩ := R.tm t
        have hk : ∀ g ∈ fp, w'.heap[g]? = w.heap[g]? ∧ V' g = V g ∧ O' g = some (true, t) := fun g hg =>
          hO g _ (h2 g hg) (fun t' e => by cases e; exact ⟨ht, hl⟩) (fun b e => by cases e)
        exact ⟨fp, h1, fun g hg => (hk g hg).2.2, h3.next hn (fun g hg => ⟨(hk g hg).1, (hk g hg).2.1⟩) e.kl hK⟩
  bx := by
    intro b x hb
    simp only [Eff.apply] at hb
    cases hl : lookup b e.put with
    | some y => rw [hl] at hb; cases hb; exact hput b x hl
    | none =>
      rw [hl] at hb
      by_cases hk : b ∈ e.kl
      · simp [hk] at hb
      · rw [if_neg hk] at hb
        cases hs : s.b b with
        | none => rw [hs] at hb; cases hb
        | some y =>
          rw [hs] at hb; cases hb
          rcases R.bx b y hs with ⟨z1, z2, z3⟩ | ⟨fb, arr, T, fz, us, h1, h2, h3⟩
          · exact .inl ⟨z1, by simp only [killBox, z2]; split; exact killAllL_nil _; rfl, by rw [hK b hk]; exact z3⟩
          refine .inr ?_
          have hq : ∀ g ∈ (K b).1 :: fb, w'.heap[g]? = w.heap[g]? ∧ V' g = V g ∧ O' g = some (false, b) := fun g hg =>
            hO g _ (h2 g hg) (fun t e => by cases e) (fun b' e => by cases e; exact ⟨hl, hk⟩)
          exact ⟨fb, arr, T, fz, us, by rw [hK b hk]; exact h1, by rw [hK b hk]; exact fun g hg => (hq g hg).2.2, h3.next hn (fun g hg => ⟨(hq g hg).1, (hq g hg).2.1⟩) e.kl hK hk⟩
  rg := hrg
  vr := hvr
  fr := hfr
  nx := R.nx.trans hn
  vo := fun g h1 h2 => (hvo g h1 h2).trans (R.vo g h1 h2)

/-- A step that only tells a slot anew, with nothing that is anybody's own. -/
theorem RelG.pure (R : RelG N w0 M V0 K V O s a w) (dst : Option Nat) (v : Value) (x : AV) (rd : List Nat) (hd : ∀ d, dst = some d → d < N) (h : RepV V w K [] v x) :
    ∃ O', RelG N w0 M V0 K V O' (({ val := x, rd := rd } : Eff).apply dst s) (a.put dst v) w := by
  refine ⟨fun g => if O g = dst.map (fun d => (true, d)) then none else O g, R.apply _ dst v hd (Next.refl V w) (fun _ _ => rfl) ?_ ?_ ?_ ?_ ?_ R.vr R.fr (fun _ _ _ => rfl)⟩
  · intro g l hl ht hb
    refine ⟨rfl, rfl, ?_⟩
    rw [if_neg ?_]; exact hl
    rw [hl]
    cases dst with
    | none => simp
    | some d => simp only [Option.map_some]; intro e; cases e; exact (ht d rfl).1 rfl
  · intro t x _ hl; simp [lookup] at hl
  · intro d hd; exact ⟨[], List.nodup_nil, by simp, h⟩
  · intro b x hl; simp [lookup] at hl
  · intro g l hl
    split at hl
    · cases hl
    · exact R.rg g l hl

/-- The value in a slot, taken as one's own. -/
theorem RelG.ev (R : RelG N w0 M V0 K V O s a w) (x : Operand) : ∃ fp, fp.Nodup ∧ (∀ t, x = .tmp t → ∀ g ∈ fp, O g = some (true, t)) ∧ ((∀ t, x ≠ .tmp t) → fp = []) ∧ RepV V w K fp (a.eval x) (s.ev x) := by
  cases x with
  | tmp t =>
    obtain ⟨fp, h1, h2, h3⟩ := R.tm t
    exact ⟨fp, h1, fun t' e => by cases e; exact h2, fun e => absurd rfl (e t), h3⟩
  | const v =>
    refine ⟨[], List.nodup_nil, by simp, fun _ => rfl, ?_⟩
    have one : ∀ v : Value, oc v = true → Rep V w K true [] [v] [ofValue v] := by
      intro v ho
      unfold ofValue
      split
      · exact .lit rfl .nil
      · exact .lit rfl .nil
      · exact .lit rfl .nil
      · exact .lit rfl .nil
      · exact .nl .nil
      · exact .lit rfl .nil
      · exact .bd _ ho .nil
    have all : ∀ l : List Value, (∀ v ∈ l, oc v = true) → Rep V w K true [] l (l.map ofValue) := by
      intro l; induction l with
      | nil => intro _; exact .nil
      | cons v l ih => intro h; exact (one v (h v (by simp))).app (ih fun u hu => h u (by simp [hu]))
    simp only [Act.eval, S.ev]
    unfold ofConst
    split
    · rename_i cs
      split
      · rename_i hc
        have hcs : cs = cs.toList.toArray := by simp
        rw [hcs]
        refine .u (.agg ?_)
        have := all cs.toList (List.all_eq_true.1 hc)
        simpa using this
      · exact .bad _
    · by_cases ho : oc v = true
      · exact .u (.one (one v ho))
      · have : ofValue v = .bad := by cases v <;> simp_all [oc, ofValue]
        rw [this]; exact .bad _
  | global g => exact ⟨[], List.nodup_nil, by simp, fun _ => rfl, .bad _⟩
  | func f => exact ⟨[], List.nodup_nil, by simp, fun _ => rfl, .lit rfl⟩
end Evl

/-! Evf -/
namespace Evl
open Go

variable {P : Program} {H : Hints} {fid : FuncId} {N : Nat} {w0 w w' : World} {M : Nat → Prop} {V0 V V' : Nat → Nat} {K K' : Nat → Nat × Nat} {O O' : Nat → Option Loc} {s : S} {a : Act} {fp : List Nat} {v : Value}

theorem inv_lit {u : Value} (h : RepV V w K fp v (.lit u)) : v = u ∧ fp = [] ∧ plainX u = true := by
  cases h with
  | u h => cases h with
    | one h => cases h with
      | lit hp h => cases h; exact ⟨rfl, rfl, hp⟩
    | p h => cases h
theorem inv_nil (h : RepV V w K fp v .nil) : v = .slice none 0 0 ∧ fp = [] := by
  cases h with
  | u h => cases h with
    | one h => cases h with
      | nl h => cases h; exact ⟨rfl, rfl⟩
    | p h => cases h
theorem inv_one {x : AV} (h : RepV V w K fp v x) (hx : (∃ o z n cs, x = .sl o z n cs) ∨ (∃ b n, x = .msl b n)) : Rep V w K true fp [v] [x] := by
  cases h with
  | u h => cases h with
    | one h => exact h
    | agg h => rcases hx with ⟨_, _, _, _, e⟩ | ⟨_, _, e⟩ <;> cases e
    | p h => cases h <;> rcases hx with ⟨_, _, _, _, e⟩ | ⟨_, _, e⟩ <;> cases e
    | fnv h => rcases hx with ⟨_, _, _, _, e⟩ | ⟨_, _, e⟩ <;> cases e
  | tup h => rcases hx with ⟨_, _, _, _, e⟩ | ⟨_, _, e⟩ <;> cases e
theorem inv_msl {b n : Nat} (h : RepV V w K fp v (.msl b n)) : fp = [] ∧ ((v = .slice none 0 0 ∧ n = 0 ∧ (K b).2 = 0) ∨ ∃ cap, v = .slice (some ⟨(K b).1, 0, none⟩) n cap ∧ (K b).2 = cap + 1 ∧ n ≤ cap) := by
  have := inv_one h (.inr ⟨_, _, rfl⟩)
  cases this with
  | ms b h0 hn h => cases h; exact ⟨rfl, .inr ⟨_, rfl, h0, hn⟩⟩
  | mv b h0 h => cases h; exact ⟨rfl, .inl ⟨rfl, rfl, h0⟩⟩
theorem inv_agg {cs : List AV} (h : RepV V w K fp v (.agg cs)) : ∃ us : List Value, v = .agg us.toArray ∧ Rep V w K true fp us cs := by
  cases h with
  | u h => cases h with
    | one h => cases h
    | agg h => exact ⟨_, rfl, h⟩
    | p h => cases h
theorem inv_tup {cs : List AV} (h : RepV V w K fp v (.tup cs)) : ∃ us : List Value, v = .tuple us.toArray ∧ RepT V w K fp us cs := by
  cases h with
  | u h => cases h with
    | one h => cases h
    | p h => cases h
  | tup h => exact ⟨_, rfl, h⟩
theorem inv_ptr {b off : Nat} (h : RepV V w K fp v (.ptr b off)) : v = .pointer (some ⟨(K b).1, off, none⟩) ∧ fp = [] := by
  cases h with
  | u h => cases h with
    | one h => cases h
    | p h => cases h; exact ⟨rfl, rfl⟩
theorem inv_cptr {cs : List AV} (h : RepV V w K fp v (.cptr cs)) : ∃ (ad : Addr) (vs : List Value), v = .pointer (some ad) ∧ fp = [] ∧ ad.spot = none ∧ (∀ (j : Nat) (v : Value), vs[j]? = some v → w.cell? ⟨ad.block, ad.off + j, none⟩ = some v) ∧ ad.off + vs.length ≤ V ad.block ∧ ad.block < w.heap.size ∧ Rep V w K false [] vs cs := by
  cases h with
  | u h => cases h with
    | one h => cases h
    | p h => cases h with
      | cptr ad vs h1 h2 h3 h4 h5 => exact ⟨ad, vs, rfl, rfl, h1, h2, h3, h4, h5⟩
theorem inv_fnv {f : FuncId} {cs : List AV} (h : RepV V w K fp v (.fnv f cs)) : ∃ vs : List Value, v = .func (.func f) #[] vs.toArray ∧ fp = [] ∧ RepPs V w K vs cs := by
  cases h with
  | u h => cases h with
    | one h => cases h
    | p h => cases h
    | fnv h => exact ⟨_, rfl, rfl, h⟩

theorem ownless_rep {m us cs} (h : Rep V w K m fp us cs) : hasOwnL cs = false → fp = [] := by
  induction h with
  | nil => intro _; rfl
  | lit _ _ ih => intro e; exact ih (by simpa [hasOwnL, hasOwn] using e)
  | nl _ ih => intro e; exact ih (by simpa [hasOwnL, hasOwn] using e)
  | ns _ ih => intro e; exact ih (by simpa [hasOwnL, hasOwn] using e)
  | on _ _ => intro e; simp [hasOwnL, hasOwn] at e
  | sh _ _ _ _ _ _ _ _ ih => intro e; exact ih (by simpa [hasOwnL, hasOwn] using e)
  | ow _ _ _ _ _ _ _ _ _ _ _ _ _ _ _ _ _ => intro e; simp [hasOwnL, hasOwn] at e
  | ms _ _ _ _ ih => intro e; exact ih (by simpa [hasOwnL, hasOwn] using e)
  | mv _ _ _ ih => intro e; exact ih (by simpa [hasOwnL, hasOwn] using e)
  | bd _ _ _ ih => intro e; exact ih (by simpa [hasOwnL, hasOwn] using e)
theorem ownless_u {x : AV} (h : RepU V w K fp v x) (e : hasOwn x = false) : fp = [] := by
  cases h with
  | one h => exact ownless_rep h (by simp [hasOwnL, e])
  | agg h => exact ownless_rep h (by simpa [hasOwn] using e)
  | p h => rfl
  | fnv h => rfl
theorem ownless_t {us cs} (h : RepT V w K fp us cs) : hasOwnL cs = false → fp = [] := by
  induction h with
  | nil => intro _; rfl
  | cons a _ ih =>
    intro e
    simp only [hasOwnL, Bool.or_eq_false_iff] at e
    rw [ownless_u a e.1, ih e.2]; rfl
theorem ownless_v {x : AV} (h : RepV V w K fp v x) (e : hasOwn x = false) : fp = [] := by
  cases h with
  | u h => exact ownless_u h e
  | tup h => exact ownless_t h (by simpa [hasOwn] using e)

/-- What one operation has to show. -/
def Step1 (P : Program) (N : Nat) (w0 : World) (M : Nat → Prop) (V0 : Nat → Nat) (K : Nat → Nat × Nat) (o : Oper) (s' : S) (a : Act) (w : World) : Prop :=
  ∃ v w' K' V' O', ((execOp a.eval o).run P w = .ok (.value v) w' ∨ ((execOp a.eval o).run P w = .ok .skip w' ∧ v = undef)) ∧ RelG N w0 M V0 K' V' O' s' (a.put o.dst v) w' ∧ ∀ b, 1000 ≤ b → K' b = K b

theorem RelG.take (R : RelG N w0 M V0 K V O s a w) (x : Operand) (dst : Option Nat) (v : Value) (y : AV) (rd : List Nat) (hd : ∀ d, dst = some d → d < N) {fp : List Nat} (hn : fp.Nodup) (ho : ∀ t, x = .tmp t → ∀ g ∈ fp, O g = some (true, t)) (he : (∀ t, x ≠ .tmp t) → fp = [])
    (hw : hasOwn (s.ev x) = false → fp = []) (h : RepV V w K fp v y) :
    ∃ O', RelG N w0 M V0 K V O' (({ val := y, set := given x (s.ev x), rd := rd } : Eff).apply dst s) (a.put dst v) w := by
  refine ⟨fun g => if g ∈ fp then dst.map (fun d => (true, d)) else if O g = dst.map (fun d => (true, d)) then none else O g, R.apply _ dst v hd (Next.refl V w) (fun _ _ => rfl) ?_ ?_ ?_ ?_ ?_ R.vr R.fr (fun _ _ _ => rfl)⟩
  · intro g l hl ht hb
    refine ⟨rfl, rfl, ?_⟩
    have hg : g ∉ fp := by
      intro hg
      cases x with
      | tmp t =>
        have e := ho t rfl g hg
        rw [hl] at e; cases e
        have := (ht t rfl).2
        simp only [given] at this
        split at this
        · simp [lookup] at this
        · rename_i hh
          rw [hw (by simpa using hh)] at hg; cases hg
      | _ => rw [he (by intro t e; cases e)] at hg; cases hg
    rw [if_neg hg, if_neg ?_]; exact hl
    rw [hl]
    cases dst with
    | none => simp
    | some d => simp only [Option.map_some]; intro e; cases e; exact (ht d rfl).1 rfl
  · intro t z hne hl
    cases x with
    | tmp t' =>
      simp only [given] at hl
      split at hl
      · simp only [lookup] at hl
        split at hl
        · rename_i e; subst e; cases hl
          obtain ⟨fq, h1, h2, h3⟩ := R.tm t'
          exact ⟨[], List.nodup_nil, by simp, h3.share⟩
        · cases hl
      · simp [lookup] at hl
    | _ => simp [given, lookup] at hl
  · intro d hd; subst hd
    exact ⟨fp, hn, fun g hg => by simp [hg], h⟩
  · intro b x hl; simp [lookup] at hl
  · intro g l hl
    split at hl
    · rename_i hg
      cases x with
      | tmp t => exact R.rg g _ (ho t rfl g hg)
      | _ => rw [he (by intro t e; cases e)] at hg; cases hg
    · split at hl
      · cases hl
      · exact R.rg g l hl

theorem step_pure (R : RelG N w0 M V0 K V O s a w) (o : Oper) (hd : ∀ d, o.dst = some d → d < N) (v : Value) (x : AV) (rd : List Nat) (hr : (execOp a.eval o).run P w = .ok (.value v) w) (h : RepV V w K [] v x) :
    Step1 P N w0 M V0 K o (({ val := x, rd := rd } : Eff).apply o.dst s) a w := by
  obtain ⟨O', h'⟩ := R.pure o.dst v x rd hd h
  exact ⟨v, w, K, V, O', .inl hr, h', fun _ _ => rfl⟩

theorem sound_move (R : RelG N w0 M V0 K V O s a w) (o : Oper) (hd : ∀ d, o.dst = some d → d < N) (x : Operand) (hx : o.op = .move x ∨ o.op = .assign x) :
    Step1 P N w0 M V0 K o (({ val := s.ev x, set := given x (s.ev x) } : Eff).apply o.dst s) a w := by
  obtain ⟨fp, h1, h2, h3, h4⟩ := R.ev x
  obtain ⟨O', h⟩ := R.take x o.dst (a.eval x) (s.ev x) [] hd h1 h2 h3 (ownless_v h4) h4
  refine ⟨a.eval x, w, K, V, O', .inl ?_, h, fun _ _ => rfl⟩
  rcases hx with hx | hx <;> simp [execOp, hx]

theorem binV_run {op : BinOp} {x y u : Value} (h : binV op x y = some u) (t : TypeId) (xo yo : Operand) (w : World) : ((do eqGuard op t xo yo x y; binOp op t x y : Sem Value)).run P w = .ok u w ∧ plain u = true := by
  unfold binV at h
  split at h
  · rename_i k a k' b
    cases op <;> simp only [Option.ite_none_right_eq_some, Option.ite_none_left_eq_some, Option.some.injEq, reduceCtorEq] at h
    all_goals first
      | (obtain ⟨rfl, rfl⟩ := h; refine ⟨?_, rfl⟩; simp [eqGuard, binOp, Op.intArith, Op.intCmp, Op.intBits])
      | (obtain ⟨rfl, hb, rfl⟩ := h; refine ⟨?_, rfl⟩; simp [eqGuard, binOp, Op.intDiv, hb])
      | (obtain ⟨hb, rfl⟩ := h; refine ⟨?_, rfl⟩; simp [eqGuard, binOp, Op.shift, hb])
  · rename_i a b
    cases op <;> simp only [Option.ite_none_right_eq_some, Option.some.injEq, reduceCtorEq] at h
    all_goals first
      | (subst h; refine ⟨?_, rfl⟩; simp [eqGuard, binOp, Op.stringOp])
      | (obtain ⟨hb, rfl⟩ := h; refine ⟨?_, rfl⟩; simp [eqGuard, binOp, Op.stringOp, IntKind.max, IntKind.signed, IntKind.bits]; omega)
  · cases h

theorem unV_run {op : UnOp} {x u : Value} (h : unV op x = some u) (w : World) : (Op.unary op x).run P w = .ok u w ∧ plain u = true := by
  unfold unV at h
  split at h
  · split at h
    · cases h; exact ⟨by simp [Op.unary, Op.intArith], rfl⟩
    · cases h
  · split at h
    · cases h; exact ⟨by simp [Op.unary], rfl⟩
    · cases h
  · cases h

/-- '==' on types whose cells are scalars: cell by cell. -/
def EqtOk (P : Program) (H : Hints) : Prop := ∀ t, H.eqt t = true → ∀ (xs ys : List Value) (w : World), xs.length = ys.length → (∀ v ∈ xs, plain v = true) → (∀ v ∈ ys, plain v = true) →
  ∀ (cs ds : List AV) r, cs = xs.map .lit → ds = ys.map .lit → tsize P t = some cs.length → cs.all litInt = true → sameLits cs ds = some r → ∀ (op : BinOp) (xo yo : Operand),
    (op = .eql → ((do eqGuard op t xo yo (.agg xs.toArray) (.agg ys.toArray); binOp op t (.agg xs.toArray) (.agg ys.toArray) : Sem Value)).run P w = .ok (.bool r) w) ∧
    (op = .neq → ((do eqGuard op t xo yo (.agg xs.toArray) (.agg ys.toArray); binOp op t (.agg xs.toArray) (.agg ys.toArray) : Sem Value)).run P w = .ok (.bool (!r)) w)

theorem sameLits_lit : ∀ (cs ds : List AV) (r : Bool), sameLits cs ds = some r → ∃ us vs : List Value, cs = us.map .lit ∧ ds = vs.map .lit ∧ us.length = vs.length ∧ (∀ v ∈ us, plain v = true) ∧ ∀ v ∈ vs, plain v = true := by
  intro cs
  induction cs with
  | nil =>
    intro ds r h
    cases ds with
    | nil => exact ⟨[], [], rfl, rfl, rfl, by simp, by simp⟩
    | cons d ds => simp [sameLits] at h
  | cons c cs ih =>
    intro ds r h
    cases ds with
    | nil => unfold sameLits at h; split at h <;> simp_all
    | cons d ds =>
      cases c <;> first | (simp [sameLits] at h; done) | skip
      cases d <;> first | (simp [sameLits] at h; done) | skip
      rename_i u v
      cases u <;> first | (simp [sameLits] at h; done) | skip
      all_goals (cases v <;> first | (simp [sameLits] at h; done) | skip)
      · simp only [sameLits, Option.map_eq_some_iff] at h
        obtain ⟨q, hq, _⟩ := h
        obtain ⟨us, vs, rfl, rfl, hl, p1, p2⟩ := ih ds q hq
        exact ⟨_ :: us, _ :: vs, rfl, rfl, by simp [hl], by intro v hv; rcases List.mem_cons.1 hv with rfl | hv; rfl; exact p1 v hv, by intro v hv; rcases List.mem_cons.1 hv with rfl | hv; rfl; exact p2 v hv⟩
      · simp only [sameLits, Option.ite_none_right_eq_some, Option.map_eq_some_iff] at h
        obtain ⟨-, q, hq, _⟩ := h
        obtain ⟨us, vs, rfl, rfl, hl, p1, p2⟩ := ih ds q hq
        exact ⟨_ :: us, _ :: vs, rfl, rfl, by simp [hl], by intro v hv; rcases List.mem_cons.1 hv with rfl | hv; rfl; exact p1 v hv, by intro v hv; rcases List.mem_cons.1 hv with rfl | hv; rfl; exact p2 v hv⟩

theorem rep_lits {V w K m fp} : ∀ {us : List Value} (vs : List Value), Rep V w K m fp us (vs.map .lit) → us = vs ∧ fp = [] ∧ ∀ v ∈ us, plainX v = true := by
  intro us vs
  induction vs generalizing us with
  | nil => intro h; cases h; exact ⟨rfl, rfl, by simp⟩
  | cons v vs ih =>
    intro h
    simp only [List.map_cons] at h
    cases h with
    | lit hp h => obtain ⟨rfl, rfl, h3⟩ := ih h; exact ⟨rfl, rfl, by intro u hu; rcases List.mem_cons.1 hu with rfl | hu; exact hp; exact h3 u hu⟩

theorem tbool_of {t : TypeId} (h : tbool P t = true) : P.underlying t = some .bool := by
  unfold tbool at h
  split at h
  · assumption
  · cases h
theorem eqB_run {op : BinOp} {x y u : Value} (h : eqB op x y = some u) {t : TypeId} (ht : tbool P t = true) (xo yo : Operand) (w : World) : ((do eqGuard op t xo yo x y; binOp op t x y : Sem Value)).run P w = .ok u w ∧ plain u = true := by
  have hu := tbool_of ht
  unfold eqB at h
  split at h
  · cases h; refine ⟨?_, rfl⟩; simp [eqGuard, run_eql_bool w t _ _ hu]
  · cases h; refine ⟨?_, rfl⟩; simp [eqGuard, run_neq_bool w t _ _ hu]
  · cases h

theorem sound_binOp (hE : EqtOk P H) (R : RelG N w0 M V0 K V O s a w) (o : Oper) (hd : ∀ d, o.dst = some d → d < N) {e : Eff} (h : opE P H fid o s = some e) {op t x y t'} (hop : o.op = .binOp op t x y t') :
    Step1 P N w0 M V0 K o (e.apply o.dst s) a w := by
  simp only [opE, hop] at h
  obtain ⟨f1, _, _, _, h1⟩ := R.ev x
  obtain ⟨f2, _, _, _, h2⟩ := R.ev y
  split at h
  · rename_i p q hp hq
    rw [hp] at h1; rw [hq] at h2
    obtain ⟨e1, -, -⟩ := inv_lit h1
    obtain ⟨e2, -, -⟩ := inv_lit h2
    split at h
    · rename_i u hu
      simp only [Option.some.injEq] at h
      subst h
      have := binV_run (P := P) hu t x y w
      refine step_pure R o hd u _ [] ?_ (.lit this.2)
      simp only [execOp, hop, e1, e2]
      simp only [Sem.run_bind] at this ⊢
      rw [this.1]; rfl
    · simp only [Option.ite_none_right_eq_some, Option.map_eq_some_iff] at h
      obtain ⟨ht, u, hu, rfl⟩ := h
      have := eqB_run (P := P) hu ht x y w
      refine step_pure R o hd u _ [] ?_ (.lit this.2)
      simp only [execOp, hop, e1, e2]
      simp only [Sem.run_bind] at this ⊢
      rw [this.1]; rfl
  · rename_i p q hp hq
    rw [hp] at h1; rw [hq] at h2
    obtain ⟨us, e1, r1⟩ := inv_agg h1
    obtain ⟨vs, e2, r2⟩ := inv_agg h2
    split at h
    · rename_i ht0
      simp only [Bool.and_eq_true, decide_eq_true_eq] at ht0
      obtain ⟨⟨ht, ht1⟩, ht2⟩ := ht0
      have key : ∀ r, sameLits p q = some r → us.length = vs.length ∧ (∀ v ∈ us, plain v = true) ∧ (∀ v ∈ vs, plain v = true) ∧ p = us.map .lit ∧ q = vs.map .lit := by
        intro r hr
        obtain ⟨us', vs', rfl, rfl, hl, p1, p2⟩ := sameLits_lit p q r hr
        obtain ⟨rfl, -, g1⟩ := rep_lits _ r1
        obtain ⟨rfl, -, g2⟩ := rep_lits _ r2
        exact ⟨hl, p1, p2, rfl, rfl⟩
      split at h
      · simp only [Option.map_eq_some_iff] at h
        obtain ⟨r, hr, rfl⟩ := h
        obtain ⟨hl, g1, g2, k1, k2⟩ := key r hr
        have := (hE t ht us vs w hl g1 g2 p q r k1 k2 ht1 ht2 hr .eql x y).1 rfl
        refine step_pure R o hd _ _ [] ?_ (.lit rfl)
        simp only [execOp, hop, e1, e2]
        simp only [Sem.run_bind] at this ⊢
        rw [this]; rfl
      · simp only [Option.map_eq_some_iff] at h
        obtain ⟨r, hr, rfl⟩ := h
        obtain ⟨hl, g1, g2, k1, k2⟩ := key r hr
        have := (hE t ht us vs w hl g1 g2 p q r k1 k2 ht1 ht2 hr .neq x y).2 rfl
        refine step_pure R o hd _ _ [] ?_ (.lit rfl)
        simp only [execOp, hop, e1, e2]
        simp only [Sem.run_bind] at this ⊢
        rw [this]; rfl
      · cases h
    · cases h
  · cases h

theorem sound_unOp (R : RelG N w0 M V0 K V O s a w) (o : Oper) (hd : ∀ d, o.dst = some d → d < N) {e : Eff} (h : opE P H fid o s = some e) {op t x} (hop : o.op = .unOp op t x) :
    Step1 P N w0 M V0 K o (e.apply o.dst s) a w := by
  simp only [opE, hop] at h
  obtain ⟨f1, _, _, _, h1⟩ := R.ev x
  split at h
  · rename_i p hp
    simp only [Option.map_eq_some_iff] at h
    obtain ⟨u, hu, rfl⟩ := h
    rw [hp] at h1
    obtain ⟨e1, -, -⟩ := inv_lit h1
    have := unV_run (P := P) hu w
    refine step_pure R o hd u _ [] ?_ (.lit this.2)
    simp only [execOp, hop, e1, Sem.run_bind, this.1]; rfl
  · cases h

theorem sound_pick (R : RelG N w0 M V0 K V O s a w) (o : Oper) (hd : ∀ d, o.dst = some d → d < N) {e : Eff} (h : opE P H fid o s = some e) {c x y} (hop : o.op = .pick c x y) :
    Step1 P N w0 M V0 K o (e.apply o.dst s) a w := by
  simp only [opE, hop] at h
  obtain ⟨f0, _, _, _, h0⟩ := R.ev c
  obtain ⟨f1, _, _, _, h1⟩ := R.ev x
  obtain ⟨f2, _, _, _, h2⟩ := R.ev y
  split at h
  · rename_i hc
    rw [hc] at h0
    obtain ⟨e0, -, -⟩ := inv_lit h0
    split at h
    · rename_i u hu
      cases h; rw [hu] at h1
      obtain ⟨e1, rfl, hp⟩ := inv_lit h1
      refine step_pure R o hd u _ [] ?_ (.litX hp)
      simp [execOp, hop, e0, e1, asBool]
    · cases h
  · rename_i hc
    rw [hc] at h0
    obtain ⟨e0, -, -⟩ := inv_lit h0
    split at h
    · rename_i u hu
      cases h; rw [hu] at h2
      obtain ⟨e1, rfl, hp⟩ := inv_lit h2
      refine step_pure R o hd u _ [] ?_ (.litX hp)
      simp [execOp, hop, e0, e1, asBool]
    · cases h
  · cases h

theorem sound_nilCheck (R : RelG N w0 M V0 K V O s a w) (o : Oper) (hd : ∀ d, o.dst = some d → d < N) {e : Eff} (h : opE P H fid o s = some e) {x} (hop : o.op = .nilCheck x) :
    Step1 P N w0 M V0 K o (e.apply o.dst s) a w := by
  simp only [opE, hop] at h
  obtain ⟨f1, _, _, _, h1⟩ := R.ev x
  split at h
  · rename_i b k hp
    cases h; rw [hp] at h1
    obtain ⟨e1, rfl⟩ := inv_ptr h1
    refine step_pure R o hd (a.eval x) _ [] ?_ h1
    simp [execOp, hop, e1]
  · rename_i cs hp
    cases h; rw [hp] at h1
    obtain ⟨ad, vs, e1, rfl, -⟩ := inv_cptr h1
    refine step_pure R o hd (a.eval x) _ [] ?_ h1
    simp [execOp, hop, e1]
  · cases h

theorem info_of {t : TypeId} {k : Nat} (h : tsize P t = some k) : ∃ i, P.info? t = some i ∧ i.size = k := by
  simp only [tsize, Option.map_eq_some_iff] at h; exact h

theorem tfield_run {t f off k : Nat} (h : tfield P t f = some (off, k)) (b o : Nat) (w : World) :
    (Instr.fieldAt t (.pointer (some ⟨b, o, none⟩)) f).run P w = .ok (.pointer (some ⟨b, o + off, none⟩)) w := by
  unfold tfield at h
  split at h
  · rename_i fs hfs
    split at h
    · rename_i fd hfd
      split at h
      · rename_i n hn
        cases h
        simp only [Option.map_eq_some_iff] at hn
        obtain ⟨i, hi, hs⟩ := hn
        have : (⟨b, o, none⟩ : Addr).add fd.offset = ⟨b, o + fd.offset, none⟩ := by
          unfold Addr.add; split <;> simp_all
        simp [Instr.fieldAt, underlying, hfs, hfd, Instr.sureAddr, fieldPlace, Go.sizeOf, Go.typeInfo, hi, hs, this]
      · cases h
    · cases h
  · cases h

theorem sound_fieldAddr (R : RelG N w0 M V0 K V O s a w) (o : Oper) (hd : ∀ d, o.dst = some d → d < N) {e : Eff} (h : opE P H fid o s = some e) {t x f} (hop : o.op = .fieldAddr t x f) :
    Step1 P N w0 M V0 K o (e.apply o.dst s) a w := by
  simp only [opE, hop] at h
  obtain ⟨f1, _, _, _, h1⟩ := R.ev x
  split at h
  · rename_i b k off z hp hf
    cases h; rw [hp] at h1
    obtain ⟨e1, rfl⟩ := inv_ptr h1
    refine step_pure R o hd _ _ [] ?_ (.u (.p (.ptr b (k + off))))
    simp only [execOp, hop, e1, Sem.run_bind, tfield_run hf]; rfl
  · rename_i cs off z hp hf
    simp only [Option.ite_none_right_eq_some, Option.some.injEq] at h
    obtain ⟨hl, rfl⟩ := h
    rw [hp] at h1
    obtain ⟨⟨ab, ao, as⟩, vs, e1, rfl, q1, q2, q3, q4, q5⟩ := inv_cptr h1
    obtain rfl : as = none := q1
    refine step_pure R o hd (.pointer (some ⟨ab, ao + off, none⟩)) _ [] ?_ ?_
    · simp only [execOp, hop, e1, Sem.run_bind, tfield_run hf]; rfl
    · obtain ⟨p1, p2, u1, u2, hp, rfl, r1, r2⟩ := Rep.split (cs.take off) (cs₂ := cs.drop off) (by rw [List.take_append_drop]; exact q5)
      have hu1 : u1.length = off := by rw [r1.len, List.length_take]; omega
      obtain ⟨rfl, rfl⟩ : p1 = [] ∧ p2 = [] := by simpa using hp.symm
      refine .u (.p (.cptr ⟨ab, ao + off, none⟩ u2 rfl (fun j v hj => ?_) ?_ q4 r2))
      · have := q2 (off + j) v (by rw [List.getElem?_append_right (by omega)]; rw [← hj]; congr 1; omega)
        rw [← this]; simp [Nat.add_assoc]
      · simp only [List.length_append, hu1] at q3 ⊢; omega
  · cases h

end Evl

/-! Evg -/
namespace Evl
open Go

variable {P : Program} {H : Hints} {fid : FuncId} {N : Nat} {w0 w w' : World} {M : Nat → Prop} {V0 V V' : Nat → Nat} {K K' : Nat → Nat × Nat} {O O' : Nat → Option Loc} {s : S} {a : Act} {fp : List Nat} {v : Value}

theorem add_none (b o n : Nat) : (⟨b, o, none⟩ : Addr).add n = ⟨b, o + n, none⟩ := by
  unfold Addr.add; split <;> simp_all

theorem shareL_drop : ∀ (n : Nat) (cs : List AV), shareL (cs.drop n) = (shareL cs).drop n
  | 0, _ => rfl
  | _ + 1, [] => rfl
  | n + 1, c :: cs => by simpa [shareL] using shareL_drop n cs
theorem shareL_take : ∀ (n : Nat) (cs : List AV), shareL (cs.take n) = (shareL cs).take n
  | 0, _ => rfl
  | _ + 1, [] => rfl
  | n + 1, c :: cs => by simpa [shareL] using shareL_take n cs

/-- From a place in a row on. -/
theorem RepP.drop {ab ao : Nat} {vs : List Value} {cs : List AV} (k : Nat) (hk : k ≤ cs.length) (h2 : ∀ (j : Nat) (v : Value), vs[j]? = some v → w.cell? ⟨ab, ao + j, none⟩ = some v) (h3 : ao + vs.length ≤ V ab) (h4 : ab < w.heap.size) (h5 : Rep V w K false [] vs cs) :
    RepV V w K [] (.pointer (some ⟨ab, ao + k, none⟩)) (.cptr (cs.drop k)) := by
  obtain ⟨p1, p2, u1, u2, hp, rfl, r1, r2⟩ := Rep.split (cs.take k) (cs₂ := cs.drop k) (by rw [List.take_append_drop]; exact h5)
  have hu1 : u1.length = k := by rw [r1.len, List.length_take]; omega
  obtain ⟨rfl, rfl⟩ : p1 = [] ∧ p2 = [] := by simpa using hp.symm
  refine .u (.p (.cptr ⟨ab, ao + k, none⟩ u2 rfl (fun j v hj => ?_) ?_ h4 r2))
  · have := h2 (k + j) v (by rw [List.getElem?_append_right (by omega)]; rw [← hj]; congr 1; omega)
    rw [← this]; simp [Nat.add_assoc]
  · simp only [List.length_append, hu1] at h3 ⊢; omega

/-- A slice that is not nil, as something that is looked at. -/
theorem inv_sl {o : Bool} {sz n : Nat} {cs : List AV} (h : RepV V w K fp v (.sl o sz n cs)) : (v = .slice none 0 0 ∧ n = 0 ∧ cs = []) ∨ (∃ (ad : Addr) (cap : Nat), v = .slice (some ad) 0 cap ∧ n = 0 ∧ cs = []) ∨ ∃ (ab ao cap : Nat) (vs : List Value), v = .slice (some ⟨ab, ao, none⟩) n cap ∧ n ≤ cap ∧ (∀ (j : Nat) (v : Value), vs[j]? = some v → w.cell? ⟨ab, ao + j, none⟩ = some v) ∧ ao + vs.length ≤ V ab ∧ ab < w.heap.size ∧ Rep V w K false [] vs (if o then shareL cs else cs) := by
  have := inv_one h (.inl ⟨_, _, _, _, rfl⟩)
  cases this with
  | ns h => cases h; exact .inl ⟨rfl, rfl, rfl⟩
  | on h => cases h; exact .inl ⟨rfl, rfl, rfl⟩
  | sh ad vs h1 h2 h3 h6 h7 =>
    cases h7
    rcases h2 with ⟨rfl, rfl⟩ | ⟨h2, h4, h5⟩
    · cases h6
      exact .inr (.inl ⟨ad, _, rfl, rfl, rfl⟩)
    obtain ⟨ab, ao, as⟩ := ad
    obtain rfl : as = none := h2
    exact .inr (.inr ⟨ab, ao, _, vs, rfl, h1, h3, h4, h5, by simpa using h6⟩)
  | ow g T arr fz vs h1 h2 h3 h4 h5 h6 h7 h8 h9 h10 =>
    cases h10
    refine .inr (.inr ?_)
    exact ⟨g, 0, _, vs, rfl, h1, fun j v hj => by rw [Nat.zero_add, cell_of_heap h2]; exact h7 j v hj, by simp [h8], lt_of_heap h2, by simpa using h9.share⟩

theorem tarr_of {t n z : Nat} (h : tarr P t = some (n, z)) : ∃ e i, P.underlying t = some (.array n e) ∧ P.info? e = some i ∧ i.size = z := by
  unfold tarr at h
  split at h
  · rename_i n' e he
    simp only [Option.map_eq_some_iff, Prod.mk.injEq] at h
    obtain ⟨k, hk, rfl, rfl⟩ := h
    obtain ⟨i, hi, hs⟩ := info_of hk
    exact ⟨e, i, he, hi, hs⟩
  · cases h
theorem tslice_of {t e z b : Nat} (h : tslice P t = some (e, z, b)) : ∃ i, P.underlying t = some (.slice e) ∧ P.info? e = some i ∧ i.size = z ∧ i.bytes = b := by
  unfold tslice at h
  split at h
  · rename_i e' he
    split at h
    · rename_i z' b' hz hb
      cases h
      obtain ⟨i, hi, hs⟩ := info_of hz
      simp only [tbytes, hi, Option.map_some, Option.some.injEq] at hb
      exact ⟨i, he, hi, hs, hb⟩
    · cases h
  · cases h
theorem tarr_none {t e z b : Nat} (h : tslice P t = some (e, z, b)) : ∃ i, P.underlying t = some (.slice e) ∧ P.info? e = some i ∧ i.size = z ∧ i.bytes = b := tslice_of h

theorem run_index_arr {t n z : Nat} (h : tarr P t = some (n, z)) (b o : Nat) (k : IntKind) (j : Int) (h0 : 0 ≤ j) (h1 : j < n) (w : World) :
    (Instr.indexAt t (.pointer (some ⟨b, o, none⟩)) (.int k j)).run P w = .ok (.pointer (some ⟨b, o + j.toNat * z, none⟩)) w := by
  obtain ⟨e, i, hu, hi, hs⟩ := tarr_of h
  simp [Instr.indexAt, asIntOf, underlying, hu, Instr.sureAddr, Go.sizeOf, Go.typeInfo, hi, hs, h0, h1, add_none]
theorem run_index_sl {t e z by' : Nat} (h : tslice P t = some (e, z, by')) (b o : Nat) (n cap : Nat) (k : IntKind) (j : Int) (h0 : 0 ≤ j) (h1 : j < n) (w : World) :
    (Instr.indexAt t (.slice (some ⟨b, o, none⟩) n cap) (.int k j)).run P w = .ok (.pointer (some ⟨b, o + j.toNat * z, none⟩)) w := by
  obtain ⟨i, hu, hi, hs, -⟩ := tslice_of h
  simp [Instr.indexAt, asIntOf, underlying, hu, Go.sizeOf, Go.typeInfo, hi, hs, h0, h1, add_none]

theorem sound_indexAddr (R : RelG N w0 M V0 K V O s a w) (o : Oper) (hd : ∀ d, o.dst = some d → d < N) {e : Eff} (h : opE P H fid o s = some e) {t x i} (hop : o.op = .indexAddr t x i) :
    Step1 P N w0 M V0 K o (e.apply o.dst s) a w := by
  simp only [opE, hop] at h
  obtain ⟨f1, _, _, _, h1⟩ := R.ev x
  obtain ⟨f2, _, _, _, h2⟩ := R.ev i
  split at h
  · rename_i k j hj
    rw [hj] at h2
    obtain ⟨e2, -, -⟩ := inv_lit h2
    split at h
    · rename_i b q n z hx ht
      simp only [Option.ite_none_right_eq_some, Option.some.injEq] at h
      obtain ⟨⟨g1, g2⟩, rfl⟩ := h
      rw [hx] at h1
      obtain ⟨e1, rfl⟩ := inv_ptr h1
      refine step_pure R o hd _ _ [] ?_ (.u (.p (.ptr b (q + j.toNat * z))))
      simp only [execOp, hop, e1, e2, Sem.run_bind, run_index_arr ht _ _ _ _ g1 g2]; rfl
    · rename_i cs n z hx ht
      simp only [Option.ite_none_right_eq_some, Option.some.injEq] at h
      obtain ⟨⟨g1, g2, g3⟩, rfl⟩ := h
      rw [hx] at h1
      obtain ⟨⟨ab, ao, as⟩, vs, e1, rfl, q1, q2, q3, q4, q5⟩ := inv_cptr h1
      obtain rfl : as = none := q1
      refine step_pure R o hd _ _ [] ?_ (RepP.drop _ g3 q2 q3 q4 q5)
      simp only [execOp, hop, e1, e2, Sem.run_bind, run_index_arr ht _ _ _ _ g1 g2]; rfl
    · rename_i z n cs el z' bb hx hq0 ht
      simp only [Option.ite_none_right_eq_some, Option.some.injEq] at h
      obtain ⟨⟨rfl, g1, g2, g3⟩, rfl⟩ := h
      rw [hx] at h1
      obtain ⟨-, e, -⟩ | ⟨ad, cap, -, e, -⟩ | ⟨ab, ao, cap, vs, e1, hc, q2, q3, q4, q5⟩ := inv_sl h1
      · omega
      · omega
      simp only [if_true] at q5
      rw [shareL_drop]
      refine step_pure R o hd _ _ [] ?_ (RepP.drop _ (by rw [shareL_length]; exact g3) q2 q3 q4 q5)
      simp only [execOp, hop, e1, e2, Sem.run_bind, run_index_sl ht _ _ _ _ _ _ g1 g2]; rfl
    · rename_i z n cs el z' bb hx hq0 ht
      simp only [Option.ite_none_right_eq_some, Option.some.injEq] at h
      obtain ⟨⟨rfl, g1, g2, g3⟩, rfl⟩ := h
      rw [hx] at h1
      obtain ⟨-, e, -⟩ | ⟨ad, cap, -, e, -⟩ | ⟨ab, ao, cap, vs, e1, hc, q2, q3, q4, q5⟩ := inv_sl h1
      · omega
      · omega
      simp only [Bool.false_eq_true, if_false] at q5
      refine step_pure R o hd _ _ [] ?_ (RepP.drop _ g3 q2 q3 q4 q5)
      simp only [execOp, hop, e1, e2, Sem.run_bind, run_index_sl ht _ _ _ _ _ _ g1 g2]; rfl
    · rename_i b n el z' bb hx hq0 ht
      split at h
      · rename_i r hr
        simp only [Option.ite_none_right_eq_some, Option.some.injEq] at h
        obtain ⟨⟨_, g1, g2⟩, rfl⟩ := h
        rw [hx] at h1
        obtain ⟨rfl, ⟨-, e, -⟩ | ⟨cap, e1, h0, hn⟩⟩ := inv_msl h1
        · omega
        refine step_pure R o hd _ _ [b] ?_ (.u (.p (.ptr b (j.toNat * z'))))
        simp only [execOp, hop, e1, e2, Sem.run_bind, run_index_sl ht _ _ _ _ _ _ g1 g2, Nat.zero_add]; rfl
      · cases h
    · cases h
  · cases h

theorem foldl_max {k : IntKind} {x : Int} : ∀ (l : List AV) (vs : List Value), (∀ (j : Nat) c, l[j]? = some c → ∃ v, vs[j]? = some v ∧ ∀ u, c = .lit u → v = u) → l.length = vs.length → ∀ (k0 : IntKind) (x0 : Int), maxInts (.lit (.int k0 x0) :: l) = some (k, x) → ∀ w, (vs.foldlM Builtin.max2 (.int k0 x0)).run P w = .ok (.int k x) w := by
  intro l
  induction l with
  | nil =>
    intro vs _ hl k0 x0 h w
    cases vs with
    | nil => simp [maxInts] at h; obtain ⟨rfl, rfl⟩ := h; simp [List.foldlM]
    | cons _ _ => simp at hl
  | cons c l ih =>
    intro vs hv hl k0 x0 h w
    cases vs with
    | nil => simp at hl
    | cons v vs =>
      unfold maxInts at h
      split at h
      · simp_all
      · simp_all
      · rename_i k1 y1 k2 y2 rest e
        simp only [List.cons.injEq, AV.lit.injEq, Value.int.injEq] at e
        obtain ⟨⟨rfl, rfl⟩, rfl, rfl⟩ := e
        simp only [Option.ite_none_right_eq_some] at h
        obtain ⟨rfl, h⟩ := h
        obtain ⟨v', hv', hc⟩ := hv 0 _ rfl
        simp only [List.getElem?_cons_zero, Option.some.injEq] at hv'; subst hv'
        obtain rfl := hc _ rfl
        simp only [List.foldlM, Sem.run_bind, Builtin.max2, Sem.run_pure, Result.andThen_ok]
        exact ih vs (fun j c hj => hv (j + 1) c hj) (by simpa using hl) _ _ h w
      · cases h

theorem foldl_min {k : IntKind} {x : Int} : ∀ (l : List AV) (vs : List Value), (∀ (j : Nat) c, l[j]? = some c → ∃ v, vs[j]? = some v ∧ ∀ u, c = .lit u → v = u) → l.length = vs.length → ∀ (k0 : IntKind) (x0 : Int), minInts (.lit (.int k0 x0) :: l) = some (k, x) → ∀ w, (vs.foldlM Builtin.min2 (.int k0 x0)).run P w = .ok (.int k x) w := by
  intro l
  induction l with
  | nil =>
    intro vs _ hl k0 x0 h w
    cases vs with
    | nil => simp [minInts] at h; obtain ⟨rfl, rfl⟩ := h; simp [List.foldlM]
    | cons _ _ => simp at hl
  | cons c l ih =>
    intro vs hv hl k0 x0 h w
    cases vs with
    | nil => simp at hl
    | cons v vs =>
      unfold minInts at h
      split at h
      · simp_all
      · simp_all
      · rename_i k1 y1 k2 y2 rest e
        simp only [List.cons.injEq, AV.lit.injEq, Value.int.injEq] at e
        obtain ⟨⟨rfl, rfl⟩, rfl, rfl⟩ := e
        simp only [Option.ite_none_right_eq_some] at h
        obtain ⟨rfl, h⟩ := h
        obtain ⟨v', hv', hc⟩ := hv 0 _ rfl
        simp only [List.getElem?_cons_zero, Option.some.injEq] at hv'; subst hv'
        obtain rfl := hc _ rfl
        simp only [List.foldlM, Sem.run_bind, Builtin.min2, Sem.run_pure, Result.andThen_ok]
        exact ih vs (fun j c hj => hv (j + 1) c hj) (by simpa using hl) _ _ h w
      · cases h

theorem args_ev (R : RelG N w0 M V0 K V O s a w) (l : List Operand) : ∀ (j : Nat) c, (l.map s.ev)[j]? = some c → ∃ v, (l.map a.eval)[j]? = some v ∧ ∀ u, c = .lit u → v = u := by
  intro j c hj
  simp only [List.getElem?_map, Option.map_eq_some_iff] at hj ⊢
  obtain ⟨x, hx, rfl⟩ := hj
  refine ⟨_, ⟨x, hx, rfl⟩, fun u hu => ?_⟩
  obtain ⟨f, _, _, _, h⟩ := R.ev x
  rw [hu] at h
  exact (inv_lit h).1

theorem run_max (R : RelG N w0 M V0 K V O s a w) (l : List Operand) {k x} (h : maxInts (l.map s.ev) = some (k, x)) (ts : Array TypeId) (t : TypeId) : (Builtin.max_ ts t ((l.map a.eval).toArray)).run P w = .ok (.int k x) w := by
  cases l with
  | nil => simp [maxInts] at h
  | cons y l =>
    have h0 := args_ev R (y :: l) 0 (s.ev y) rfl
    obtain ⟨v, hv, hc⟩ := h0
    simp only [List.map_cons] at h hv
    simp only [List.getElem?_cons_zero, Option.some.injEq] at hv
    have : ∃ k0 x0, s.ev y = .lit (.int k0 x0) := by
      unfold maxInts at h; split at h <;> simp_all
    obtain ⟨k0, x0, hy⟩ := this
    have hv' := hc _ hy
    rw [hy] at h
    simp only [Builtin.max_, List.map_cons]
    rw [hv, hv']
    exact foldl_max _ _ (fun j c hj => args_ev R l j c hj) (by simp) k0 x0 h w
theorem run_min (R : RelG N w0 M V0 K V O s a w) (l : List Operand) {k x} (h : minInts (l.map s.ev) = some (k, x)) (ts : Array TypeId) (t : TypeId) : (Builtin.min_ ts t ((l.map a.eval).toArray)).run P w = .ok (.int k x) w := by
  cases l with
  | nil => simp [minInts] at h
  | cons y l =>
    have h0 := args_ev R (y :: l) 0 (s.ev y) rfl
    obtain ⟨v, hv, hc⟩ := h0
    simp only [List.map_cons] at h hv
    simp only [List.getElem?_cons_zero, Option.some.injEq] at hv
    have : ∃ k0 x0, s.ev y = .lit (.int k0 x0) := by
      unfold minInts at h; split at h <;> simp_all
    obtain ⟨k0, x0, hy⟩ := this
    have hv' := hc _ hy
    rw [hy] at h
    simp only [Builtin.min_, List.map_cons]
    rw [hv, hv']
    exact foldl_min _ _ (fun j c hj => args_ev R l j c hj) (by simp) k0 x0 h w

end Evl

/-! Evh -/
namespace Evl
open Go

variable {P : Program} {H : Hints} {fid : FuncId} {N : Nat} {w0 w w' : World} {M : Nat → Prop} {V0 V V' : Nat → Nat} {K K' : Nat → Nat × Nat} {O O' : Nat → Option Loc} {s : S} {a : Act} {fp : List Nat} {v : Value}

theorem RelG.give (R : RelG N w0 M V0 K V O s a w) (t : Nat) {fp fi : List Nat} (hfp : ∀ g ∈ fp, O g = some (true, t)) (hi : ∀ g ∈ fi, g ∈ fp) (nd : fi.Nodup) (dst : Option Nat) (v : Value) (y : AV) (rd : List Nat) (hd : ∀ d, dst = some d → d < N)
    (h : RepV V w K fi v y) (set : List (Nat × AV)) (hs : (set = [] ∧ fi = []) ∨ ∃ z fr, set = [(t, z)] ∧ fr.Nodup ∧ (∀ g ∈ fr, g ∈ fp ∧ g ∉ fi) ∧ RepV V w K fr (a.tmps.getD t undef) z) :
    ∃ O', RelG N w0 M V0 K V O' (({ val := y, set := set, rd := rd } : Eff).apply dst s) (a.put dst v) w := by
  refine ⟨fun g => if g ∈ fi then dst.map (fun d => (true, d)) else if O g = dst.map (fun d => (true, d)) then none else O g, R.apply _ dst v hd (Next.refl V w) (fun _ _ => rfl) ?_ ?_ ?_ ?_ ?_ R.vr R.fr (fun _ _ _ => rfl)⟩
  · intro g l hl ht hb
    refine ⟨rfl, rfl, ?_⟩
    have hg : g ∉ fi := by
      intro hg
      have e := hfp g (hi g hg)
      rw [hl] at e; cases e
      rcases hs with ⟨_, rfl⟩ | ⟨z, fr, rfl, _⟩
      · cases hg
      · have := (ht t rfl).2; simp [lookup] at this
    rw [if_neg hg, if_neg ?_]; exact hl
    rw [hl]
    cases dst with
    | none => simp
    | some d => simp only [Option.map_some]; intro e; cases e; exact (ht d rfl).1 rfl
  · intro t' z hne hl
    rcases hs with ⟨rfl, _⟩ | ⟨z', fr, rfl, h1, h2, h3⟩
    · simp [lookup] at hl
    · simp only [lookup] at hl
      split at hl
      · rename_i e; subst e; cases hl
        refine ⟨fr, h1, fun g hg => ?_, h3⟩
        rw [if_neg (h2 g hg).2, if_neg ?_]; exact hfp g (h2 g hg).1
        rw [hfp g (h2 g hg).1]
        cases dst with
        | none => simp
        | some d => simp only [Option.map_some]; intro e; cases e; exact hne rfl
      · cases hl
  · intro d hd; subst hd
    exact ⟨fi, nd, fun g hg => by simp [hg], h⟩
  · intro b x hl; simp [lookup] at hl
  · intro g l hl
    split at hl
    · rename_i hg
      exact R.rg g _ (hfp g (hi g hg))
    · split at hl
      · cases hl
      · exact R.rg g l hl

theorem RepT.at {us : List Value} {xs : List AV} (h : RepT V w K fp us xs) : ∀ {i : Nat} {x : AV}, xs[i]? = some x → ∃ u f1 fi f2, us[i]? = some u ∧ fp = f1 ++ (fi ++ f2) ∧ RepU V w K fi u x ∧ ∀ y fy, RepU V w K fy u y → RepT V w K (f1 ++ (fy ++ f2)) us (xs.set i y) := by
  induction h with
  | nil => intro i x h; simp at h
  | @cons fp fq v x vs xs a b ih =>
    intro i y hy
    cases i with
    | zero =>
      simp only [List.getElem?_cons_zero, Option.some.injEq] at hy; subst hy
      exact ⟨v, [], fp, fq, rfl, rfl, a, fun z fz hz => by simpa using RepT.cons hz b⟩
    | succ i =>
      simp only [List.getElem?_cons_succ] at hy
      obtain ⟨u, f1, fi, f2, h1, rfl, h3, h4⟩ := ih hy
      refine ⟨u, fp ++ f1, fi, f2, by simpa using h1, by simp [List.append_assoc], h3, fun z fz hz => ?_⟩
      have := h4 z fz hz
      simp only [List.set_cons_succ]
      rw [List.append_assoc]
      exact .cons a this

theorem run_extract {us : List Value} {i : Nat} {u : Value} (h : us[i]? = some u) (w : World) : (Instr.extract (.tuple us.toArray) i).run P w = .ok u w := by
  simp [Instr.extract, h]

theorem undef_in (t : Nat) : a.eval (.tmp t) = a.tmps.getD t undef := rfl

theorem sound_extract_plain (R : RelG N w0 M V0 K V O s a w) (o : Oper) (hd : ∀ d, o.dst = some d → d < N) {t i : Nat} (hop : o.op = .extract (.tmp t) i) {vs : List AV} (hv : s.t t = .tup vs) {x : AV} (hx : vs[i]? = some x) :
    Step1 P N w0 M V0 K o (({ val := x, set := if hasOwn x then [(t, .tup (vs.set i (share x)))] else [] } : Eff).apply o.dst s) a w := by
  obtain ⟨fp, h1, h2, h3⟩ := R.tm t
  rw [hv] at h3
  obtain ⟨us, e, ht⟩ := inv_tup h3
  obtain ⟨u, f1, fi, f2, g1, rfl, g3, g4⟩ := ht.at hx
  have hr : (execOp a.eval o).run P w = .ok (.value u) w := by
    simp only [execOp, hop, Sem.run_bind, undef_in, e, run_extract g1]; rfl
  have n1 := List.nodup_append.1 h1
  have n2 := List.nodup_append.1 n1.2.1
  obtain ⟨O', h⟩ := R.give t (fp := f1 ++ (fi ++ f2)) (fi := fi) h2 (fun g hg => by simp [hg]) n2.1 o.dst u x [] hd (.u g3) (if hasOwn x then [(t, .tup (vs.set i (share x)))] else []) (by
    by_cases ho : hasOwn x = true
    · refine .inr ⟨.tup (vs.set i (share x)), f1 ++ f2, by simp [ho], ?_, ?_, ?_⟩
      · rw [List.nodup_append]
        exact ⟨n1.1, n2.2.1, fun x hx y hy => n1.2.2 x hx y (by simp [hy])⟩
      · intro g hg
        rcases List.mem_append.1 hg with hg | hg
        · exact ⟨by simp [hg], fun hi => n1.2.2 g hg g (by simp [hi]) rfl⟩
        · exact ⟨by simp [hg], fun hi => n2.2.2 g hi g hg rfl⟩
      · rw [e]; exact .tup (by simpa using g4 _ [] (share_one g3))
    · exact .inl ⟨by simp [ho], ownless_u g3 (by simpa using ho)⟩)
  exact ⟨u, w, K, V, O', .inl hr, h, fun _ _ => rfl⟩

/-- A tree that was somebody's own becomes a local row d. -/
theorem rep_own {sz n : Nat} {cs : List AV} {u : Value} (h : Rep V w K true fp [u] [.sl true sz n cs]) : (u = .slice none 0 0 ∧ fp = [] ∧ n = 0 ∧ cs = []) ∨ ∃ g cap T arr fz vs fq, u = .slice (some ⟨g, 0, none⟩) n cap ∧ fp = g :: fq ∧ n ≤ cap ∧ w.heap[g]? = some (.cells arr T fz) ∧ thawed arr fz ∧ cap * sz ≤ arr.size ∧ vs.length = n * sz ∧ sz ≠ 0 ∧
    (∀ (j : Nat) (v : Value), vs[j]? = some v → arr[j]? = some v) ∧ V g = vs.length ∧ Rep V w K false fq vs cs := by
  cases h with
  | on h => cases h; exact .inl ⟨rfl, rfl, rfl, rfl⟩
  | ow g T arr fz vs h1 h2 h3 h4 h5 h6 h7 h8 h9 h10 =>
    cases h10
    refine .inr ?_
    exact ⟨g, _, T, arr, fz, vs, _, rfl, by simp, h1, h2, h3, h4, h5, h6, h7, h8, h9⟩

theorem row_ok {d g cap n sz : Nat} {cs : List AV} {T : TypeId} {arr : Array Value} {fz : Nat × Nat} {vs : List Value} {fq : List Nat} (hK : K d = (g, cap + 1)) (h1 : n ≤ cap) (h2 : w.heap[g]? = some (.cells arr T fz)) (h3 : thawed arr fz) (h4 : cap * sz ≤ arr.size) (h5 : vs.length = n * sz) (h6 : sz ≠ 0)
    (h7 : ∀ (j : Nat) (v : Value), vs[j]? = some v → arr[j]? = some v) (h8 : V g = vs.length) (h9 : Rep V w K false fq vs cs) : BoxOk V w K d ⟨false, sz, cs⟩ fq arr T fz vs where
  hp := by rw [hK]; exact h2
  th := h3
  pre := h7
  rep := by
    have : (sz == 0) = false := by simp [h6]
    show Rep V w K (sz == 0) fq vs cs
    rw [this]; exact h9
  vis := by rw [hK]; simpa [h9.len] using h8
  var := fun e => absurd e h6
  row := fun _ => ⟨cap, by rw [hK], h4, Nat.le_trans (by rw [h5]; exact Nat.mul_le_mul_right _ h1) h4, by rw [h5]; exact Nat.mul_mod_left _ _⟩

theorem sound_extract_thaw (R : RelG N w0 M V0 K V O s a w) (o : Oper) {d : Nat} (hdst : o.dst = some d) (hd : d < N) (hk : d < 1000) {t i : Nat} (htd : t ≠ d) (hop : o.op = .extract (.tmp t) i) {vs : List AV} (hv : s.t t = .tup vs) {sz n : Nat} {cs : List AV} (hx : vs[i]? = some (.sl true sz n cs)) (hsz0 : sz ≠ 0) :
    Step1 P N w0 M V0 K o (({ val := .msl d n, set := [(t, .tup (vs.set i (.sl false sz n (shareL cs))))], kl := [d], put := [(d, ⟨false, sz, cs⟩)] } : Eff).apply o.dst s) a w := by
  obtain ⟨fp, h1, h2, h3⟩ := R.tm t
  rw [hv] at h3
  obtain ⟨us, e, ht⟩ := inv_tup h3
  obtain ⟨u, f1, fi, f2, g1, rfl, g3, g4⟩ := ht.at hx
  have hr : (execOp a.eval o).run P w = .ok (.value u) w := by
    simp only [execOp, hop, Sem.run_bind, undef_in, e, run_extract g1]; rfl
  have hone := inv_one (.u g3) (.inl ⟨_, _, _, _, rfl⟩)
  obtain ⟨rfl, rfl, rfl, rfl⟩ | ⟨g, cap, T, arr, fz, ws, fq, rfl, rfl, q1, q2, q3, q4, q5, q6, q7, q8, q9⟩ := rep_own hone
  · let K' : Nat → Nat × Nat := fun b => if b = d then (0, 0) else K b
    have hK : ∀ b, b ∉ [d] → K' b = K b := fun b hb => by simp at hb; simp [K', hb]
    have hKd : (K' d).2 = 0 := by simp [K']
    have hsh : RepV V w K (f1 ++ f2) (a.tmps.getD t undef) (.tup (vs.set i (.sl false sz 0 (shareL [])))) := by
      rw [e]; have := g4 _ [] (share_one g3); simp only [share] at this; exact .tup (by simpa using this)
    refine ⟨_, w, K', V, O, .inl hr, ?_, fun b hb => by simp only [K']; rw [if_neg (by omega)]⟩
    rw [hdst]
    refine R.apply _ (some d) _ (fun d' h => by cases h; exact hd) (Next.refl V w) hK ?_ ?_ ?_ ?_ R.rg R.vr R.fr (fun _ _ _ => rfl)
    · intro x l hl _ _; exact ⟨rfl, rfl, hl⟩
    · intro t' z hne hl
      simp only [lookup] at hl
      split at hl
      · rename_i e'; subst e'; cases hl
        exact ⟨f1 ++ f2, by simpa using h1, fun x hx => h2 x (by simpa using hx), hsh.next (Next.refl V w) (fun _ _ => ⟨rfl, rfl⟩) [d] hK⟩
      · cases hl
    · intro d' e'; cases e'
      exact ⟨[], List.nodup_nil, by simp, .u (.one (.mv d hKd .nil))⟩
    · intro b x hl
      simp only [lookup] at hl
      split at hl
      · rename_i e'; subst e'; cases hl
        exact .inl ⟨hsz0, rfl, hKd⟩
      · cases hl
  have n1 := List.nodup_append.1 h1
  have n2 := List.nodup_append.1 n1.2.1
  let K' : Nat → Nat × Nat := fun b => if b = d then (g, cap + 1) else K b
  have hK : ∀ b, b ∉ [d] → K' b = K b := fun b hb => by simp at hb; simp [K', hb]
  have hsh : RepV V w K (f1 ++ f2) (a.tmps.getD t undef) (.tup (vs.set i (.sl false sz n (shareL cs)))) := by
    rw [e]; have := g4 _ [] (share_one g3); simp only [share] at this; exact .tup (by simpa using this)
  refine ⟨_, w, K', V, fun x => if x ∈ g :: fq then some (false, d) else if O x = some (true, d) ∨ O x = some (false, d) then none else O x, .inl hr, ?_, fun b hb => by simp only [K']; rw [if_neg (by omega)]⟩
  rw [hdst]
  refine R.apply _ (some d) _ (fun d' h => by cases h; exact hd) (Next.refl V w) hK ?_ ?_ ?_ ?_ ?_ R.vr R.fr (fun _ _ _ => rfl)
  · intro x l hl ht' hb'
    refine ⟨rfl, rfl, ?_⟩
    have hg : x ∉ g :: fq := by
      intro hg
      have e := h2 x (by simp only [List.mem_append]; exact .inr (.inl hg))
      rw [hl] at e; cases e
      have := (ht' t rfl).2; simp [lookup] at this
    rw [if_neg hg, if_neg ?_]; exact hl
    rw [hl]; rintro (e | e)
    · cases e; exact (ht' d rfl).1 rfl
    · cases e; have := (hb' d rfl).1; simp [lookup] at this
  · intro t' z hne hl
    simp only [lookup] at hl
    split at hl
    · rename_i e'; subst e'; cases hl
      refine ⟨f1 ++ f2, ?_, fun x hx => ?_, hsh.next (Next.refl V w) (fun _ _ => ⟨rfl, rfl⟩) [d] hK⟩
      · rw [List.nodup_append]
        exact ⟨n1.1, n2.2.1, fun x hx y hy => n1.2.2 x hx y (by simp [hy])⟩
      · have hxt : O x = some (true, t) := h2 x (by rcases List.mem_append.1 hx with hx | hx <;> simp [hx])
        have hg : x ∉ g :: fq := by
          intro hg
          rcases List.mem_append.1 hx with hx | hx
          · exact n1.2.2 x hx x (by simp only [List.mem_append]; exact .inl hg) rfl
          · exact n2.2.2 x hg x hx rfl
        rw [if_neg hg, if_neg ?_]; exact hxt
        rw [hxt]; rintro (e' | e')
        · cases e'; exact htd rfl
        · cases e'
    · cases hl
  · intro d' e'; cases e'
    refine ⟨[], List.nodup_nil, by simp, .u (.one ?_)⟩
    have := Rep.ms (V := V) (w := w) (K := K') (n := n) (cap := cap) d (by simp [K']) q1 .nil
    simpa [K'] using this
  · intro b x hl
    simp only [lookup] at hl
    split at hl
    · rename_i e'; subst e'; cases hl
      have hKd : K' d = (g, cap + 1) := by simp [K']
      refine .inr ⟨fq, arr, T, fz, ws, by rw [hKd]; exact n2.1, fun x hx => ?_, row_ok hKd q1 q2 q3 q4 q5 q6 q7 q8 (q9.mono (fun _ _ _ => rfl) (fun _ => Nat.le_refl _) (Nat.le_refl _) (fun _ _ => ⟨rfl, rfl⟩) (by rw [q9.noIds rfl]; simp))⟩
      rw [hKd] at hx
      exact if_pos hx
    · cases hl
  · intro x l hl
    split at hl
    · rename_i hg
      exact R.rg x _ (h2 x (by simp only [List.mem_append]; exact .inr (.inl hg)))
    · split at hl
      · cases hl
      · exact R.rg x l hl

theorem sound_extract (R : RelG N w0 M V0 K V O s a w) (o : Oper) (hd : ∀ d, o.dst = some d → d < N) {e : Eff} (h : opE P H fid o s = some e) (hk : e.kl.all (· < 1000) = true) {x i} (hop : o.op = .extract x i) :
    Step1 P N w0 M V0 K o (e.apply o.dst s) a w := by
  simp only [opE, hop] at h
  split at h
  · rename_i d vs t hdst hv
    simp only [S.ev] at hv
    split at h
    · rename_i sz n cs hx
      simp only [Option.ite_none_right_eq_some, Option.some.injEq] at h
      obtain ⟨⟨hz, htd⟩, rfl⟩ := h
      exact sound_extract_thaw R o hdst (hd d hdst) (by simpa using hk) htd hop hv hx hz
    · cases h
    · rename_i y _ _ hx
      simp only [Option.some.injEq] at h; subst h
      exact sound_extract_plain R o hd hop hv hx
    · cases h
  · cases h

/-- A tree that was a part of a slot's becomes a local row. -/
theorem thaw_gen (R : RelG N w0 M V0 K V O s a w) (o : Oper) {d : Nat} (hdst : o.dst = some d) (hd : d < N) (hk : d < 1000) {t : Nat} (htd : t ≠ d) {u : Value} (hr : (execOp a.eval o).run P w = .ok (.value u) w) {f1 fi f2 : List Nat} (h1 : (f1 ++ (fi ++ f2)).Nodup) (h2 : ∀ g ∈ f1 ++ (fi ++ f2), O g = some (true, t))
    {sz n : Nat} {cs : List AV} (hone : Rep V w K true fi [u] [.sl true sz n cs]) (hsz0 : sz ≠ 0) {y : AV} (hsh : RepV V w K (f1 ++ f2) (a.tmps.getD t undef) y) :
    Step1 P N w0 M V0 K o (({ val := .msl d n, set := [(t, y)], kl := [d], put := [(d, ⟨false, sz, cs⟩)] } : Eff).apply o.dst s) a w := by
  obtain ⟨rfl, rfl, rfl, rfl⟩ | ⟨g, cap, T, arr, fz, ws, fq, rfl, rfl, q1, q2, q3, q4, q5, q6, q7, q8, q9⟩ := rep_own hone
  · let K' : Nat → Nat × Nat := fun b => if b = d then (0, 0) else K b
    have hK : ∀ b, b ∉ [d] → K' b = K b := fun b hb => by simp at hb; simp [K', hb]
    have hKd : (K' d).2 = 0 := by simp [K']
    refine ⟨_, w, K', V, O, .inl hr, ?_, fun b hb => by simp only [K']; rw [if_neg (by omega)]⟩
    rw [hdst]
    refine R.apply _ (some d) _ (fun d' h => by cases h; exact hd) (Next.refl V w) hK ?_ ?_ ?_ ?_ R.rg R.vr R.fr (fun _ _ _ => rfl)
    · intro x l hl _ _; exact ⟨rfl, rfl, hl⟩
    · intro t' z hne hl
      simp only [lookup] at hl
      split at hl
      · rename_i e'; subst e'; cases hl
        exact ⟨f1 ++ f2, by simpa using h1, fun x hx => h2 x (by simpa using hx), hsh.next (Next.refl V w) (fun _ _ => ⟨rfl, rfl⟩) [d] hK⟩
      · cases hl
    · intro d' e'; cases e'
      exact ⟨[], List.nodup_nil, by simp, .u (.one (.mv d hKd .nil))⟩
    · intro b x hl
      simp only [lookup] at hl
      split at hl
      · rename_i e'; subst e'; cases hl
        exact .inl ⟨hsz0, rfl, hKd⟩
      · cases hl
  have n1 := List.nodup_append.1 h1
  have n2 := List.nodup_append.1 n1.2.1
  let K' : Nat → Nat × Nat := fun b => if b = d then (g, cap + 1) else K b
  have hK : ∀ b, b ∉ [d] → K' b = K b := fun b hb => by simp at hb; simp [K', hb]
  refine ⟨_, w, K', V, fun x => if x ∈ g :: fq then some (false, d) else if O x = some (true, d) ∨ O x = some (false, d) then none else O x, .inl hr, ?_, fun b hb => by simp only [K']; rw [if_neg (by omega)]⟩
  rw [hdst]
  refine R.apply _ (some d) _ (fun d' h => by cases h; exact hd) (Next.refl V w) hK ?_ ?_ ?_ ?_ ?_ R.vr R.fr (fun _ _ _ => rfl)
  · intro x l hl ht' hb'
    refine ⟨rfl, rfl, ?_⟩
    have hg : x ∉ g :: fq := by
      intro hg
      have e := h2 x (by simp only [List.mem_append]; exact .inr (.inl hg))
      rw [hl] at e; cases e
      have := (ht' t rfl).2; simp [lookup] at this
    rw [if_neg hg, if_neg ?_]; exact hl
    rw [hl]; rintro (e | e)
    · cases e; exact (ht' d rfl).1 rfl
    · cases e; have := (hb' d rfl).1; simp [lookup] at this
  · intro t' z hne hl
    simp only [lookup] at hl
    split at hl
    · rename_i e'; subst e'; cases hl
      refine ⟨f1 ++ f2, ?_, fun x hx => ?_, hsh.next (Next.refl V w) (fun _ _ => ⟨rfl, rfl⟩) [d] hK⟩
      · rw [List.nodup_append]
        exact ⟨n1.1, n2.2.1, fun x hx y hy => n1.2.2 x hx y (by simp [hy])⟩
      · have hxt : O x = some (true, t) := h2 x (by rcases List.mem_append.1 hx with hx | hx <;> simp [hx])
        have hg : x ∉ g :: fq := by
          intro hg
          rcases List.mem_append.1 hx with hx | hx
          · exact n1.2.2 x hx x (by simp only [List.mem_append]; exact .inl hg) rfl
          · exact n2.2.2 x hg x hx rfl
        rw [if_neg hg, if_neg ?_]; exact hxt
        rw [hxt]; rintro (e' | e')
        · cases e'; exact htd rfl
        · cases e'
    · cases hl
  · intro d' e'; cases e'
    refine ⟨[], List.nodup_nil, by simp, .u (.one ?_)⟩
    have := Rep.ms (V := V) (w := w) (K := K') (n := n) (cap := cap) d (by simp [K']) q1 .nil
    simpa [K'] using this
  · intro b x hl
    simp only [lookup] at hl
    split at hl
    · rename_i e'; subst e'; cases hl
      have hKd : K' d = (g, cap + 1) := by simp [K']
      refine .inr ⟨fq, arr, T, fz, ws, by rw [hKd]; exact n2.1, fun x hx => ?_, row_ok hKd q1 q2 q3 q4 q5 q6 q7 q8 (q9.mono (fun _ _ _ => rfl) (fun _ => Nat.le_refl _) (Nat.le_refl _) (fun _ _ => ⟨rfl, rfl⟩) (by rw [q9.noIds rfl]; simp))⟩
      rw [hKd] at hx
      exact if_pos hx
    · cases hl
  · intro x l hl
    split at hl
    · rename_i hg
      exact R.rg x _ (h2 x (by simp only [List.mem_append]; exact .inr (.inl hg)))
    · split at hl
      · cases hl
      · exact R.rg x l hl

end Evl

/-! Evi -/
namespace Evl
open Go

variable {P : Program} {H : Hints} {fid : FuncId} {N : Nat} {w0 w w' : World} {M : Nat → Prop} {V0 V V' : Nat → Nat} {K K' : Nat → Nat × Nat} {O O' : Nat → Option Loc} {s : S} {a : Act} {fp : List Nat} {v : Value}

theorem tstr_of {t : TypeId} (h : tstr P t = true) : P.underlying t = some .string := by
  unfold tstr at h; split at h
  · assumption
  · cases h
theorem tint_of {t : TypeId} {k : IntKind} (h : tint P t = some k) : P.underlying t = some (.int k) := by
  unfold tint at h; split at h
  · rename_i k' hk; cases h; exact hk
  · cases h
theorem tund_of {t : TypeId} (h : tund P t = true) : ∃ d, P.underlying t = some d := by
  unfold tund at h; exact Option.isSome_iff_exists.1 h

theorem sound_len (R : RelG N w0 M V0 K V O s a w) (o : Oper) (hd : ∀ d, o.dst = some d → d < N) {e : Eff} (h : opE P H fid o s = some e) {args ts} (hop : o.op = .call { callee := .builtin .len, args := args, argTypes := ts }) :
    Step1 P N w0 M V0 K o (e.apply o.dst s) a w := by
  simp only [opE, hop] at h
  split at h
  · rename_i x t hx ht
    obtain ⟨f1, _, _, _, h1⟩ := R.ev x
    have ha : args = #[x] := by cases args; simp_all
    have hts : ts = #[t] := by cases ts; simp_all
    subst ha; subst hts
    split at h
    · rename_i u hv
      rw [hv] at h1
      obtain ⟨e1, -, -⟩ := inv_lit h1
      simp only [Option.ite_none_right_eq_some, Option.some.injEq] at h
      obtain ⟨hs, rfl⟩ := h
      refine step_pure R o hd _ _ [] ?_ (.lit rfl)
      simp [execOp, hop, resolve, invoke, builtin, Builtin.len_, e1, underlying, tstr_of hs, goInt]
    · rename_i hv
      rw [hv] at h1
      obtain ⟨e1, -, -⟩ := inv_lit h1
      simp only [Option.ite_none_right_eq_some, Option.some.injEq] at h
      obtain ⟨hs, rfl⟩ := h
      obtain ⟨⟨el, z, b⟩, hs⟩ := Option.isSome_iff_exists.1 hs
      obtain ⟨i, hu, -⟩ := tslice_of hs
      refine step_pure R o hd _ _ [] ?_ (.lit rfl)
      simp [execOp, hop, resolve, invoke, builtin, Builtin.len_, e1, underlying, hu, goInt]
    · rename_i hv
      rw [hv] at h1
      obtain ⟨e1, -⟩ := inv_nil h1
      simp only [Option.ite_none_right_eq_some, Option.some.injEq] at h
      obtain ⟨hs, rfl⟩ := h
      obtain ⟨⟨el, z, b⟩, hs⟩ := Option.isSome_iff_exists.1 hs
      obtain ⟨i, hu, -⟩ := tslice_of hs
      refine step_pure R o hd _ _ [] ?_ (.lit rfl)
      simp [execOp, hop, resolve, invoke, builtin, Builtin.len_, e1, underlying, hu, goInt]
    · rename_i ow sz n cs hv
      rw [hv] at h1
      simp only [Option.ite_none_right_eq_some, Option.some.injEq] at h
      obtain ⟨base, cap, e1⟩ : ∃ base cap, a.eval x = .slice base n cap := by
        obtain ⟨e1, e2, -⟩ | ⟨ad, cap, e1, e2, -⟩ | ⟨ab, ao, cap, vs, e1, -⟩ := inv_sl h1
        · exact ⟨none, 0, by rw [e1, e2]⟩
        · exact ⟨_, _, by rw [e1, e2]⟩
        · exact ⟨_, _, e1⟩
      obtain ⟨hs, rfl⟩ := h
      obtain ⟨⟨el, z, b⟩, hs⟩ := Option.isSome_iff_exists.1 hs
      obtain ⟨i, hu, -⟩ := tslice_of hs
      refine step_pure R o hd _ _ [] ?_ (.lit rfl)
      simp [execOp, hop, resolve, invoke, builtin, Builtin.len_, e1, underlying, hu, goInt]
    · rename_i b n hv
      rw [hv] at h1
      obtain ⟨base, cap, e1⟩ : ∃ base cap, a.eval x = .slice base n cap := by
        obtain ⟨-, ⟨e1, e2, -⟩ | ⟨cap, e1, -⟩⟩ := inv_msl h1
        · exact ⟨none, 0, by rw [e1, e2]⟩
        · exact ⟨_, _, e1⟩
      simp only [Option.ite_none_right_eq_some, Option.some.injEq] at h
      obtain ⟨hs, rfl⟩ := h
      obtain ⟨⟨el, z, b⟩, hs⟩ := Option.isSome_iff_exists.1 hs
      obtain ⟨i, hu, -⟩ := tslice_of hs
      refine step_pure R o hd _ _ [] ?_ (.lit rfl)
      simp [execOp, hop, resolve, invoke, builtin, Builtin.len_, e1, underlying, hu, goInt]
    · cases h
  · cases h

theorem sound_max (R : RelG N w0 M V0 K V O s a w) (o : Oper) (hd : ∀ d, o.dst = some d → d < N) {e : Eff} (h : opE P H fid o s = some e) {args ts} (hop : o.op = .call { callee := .builtin .max, args := args, argTypes := ts }) :
    Step1 P N w0 M V0 K o (e.apply o.dst s) a w := by
  simp only [opE, hop, Option.map_eq_some_iff] at h
  obtain ⟨⟨k, x⟩, hm, rfl⟩ := h
  refine step_pure R o hd (.int k x) _ [] ?_ (.lit rfl)
  have := run_max (P := P) R args.toList hm ts o.type
  have e : (args.toList.map a.eval).toArray = args.map a.eval := by apply Array.ext'; simp
  rw [e] at this
  simp only [execOp, hop, resolve, invoke, builtin, Sem.run_bind, Sem.run_pure, Result.andThen_ok, this]
theorem sound_min (R : RelG N w0 M V0 K V O s a w) (o : Oper) (hd : ∀ d, o.dst = some d → d < N) {e : Eff} (h : opE P H fid o s = some e) {args ts} (hop : o.op = .call { callee := .builtin .min, args := args, argTypes := ts }) :
    Step1 P N w0 M V0 K o (e.apply o.dst s) a w := by
  simp only [opE, hop, Option.map_eq_some_iff] at h
  obtain ⟨⟨k, x⟩, hm, rfl⟩ := h
  refine step_pure R o hd (.int k x) _ [] ?_ (.lit rfl)
  have := run_min (P := P) R args.toList hm ts o.type
  have e : (args.toList.map a.eval).toArray = args.map a.eval := by apply Array.ext'; simp
  rw [e] at this
  simp only [execOp, hop, resolve, invoke, builtin, Sem.run_bind, Sem.run_pure, Result.andThen_ok, this]

theorem Rep.sub {m : Bool} {vs : List Value} {ds : List AV} (h : Rep V w K m [] vs ds) (p q : Nat) : Rep V w K m [] ((vs.drop p).take q) ((ds.drop p).take q) := by
  have h1 : Rep V w K m [] (vs.drop p) (ds.drop p) := by
    obtain ⟨p1, p2, u1, u2, hp, rfl, r1, r2⟩ := Rep.split (ds.take p) (cs₂ := ds.drop p) (by rw [List.take_append_drop]; exact h)
    obtain ⟨rfl, rfl⟩ : p1 = [] ∧ p2 = [] := by simpa using hp.symm
    by_cases hl : p ≤ ds.length
    · have : u1.length = p := by rw [r1.len, List.length_take]; omega
      rw [List.drop_left' this]; exact r2
    · have e1 : ds.drop p = [] := List.drop_eq_nil_of_le (by omega)
      have e2 : (u1 ++ u2).drop p = [] := List.drop_eq_nil_of_le (by have := h.len; omega)
      rw [e1, e2]; exact .nil
  obtain ⟨p1, p2, u1, u2, hp, hu, r1, r2⟩ := Rep.split ((ds.drop p).take q) (cs₂ := (ds.drop p).drop q) (by rw [List.take_append_drop]; exact h1)
  obtain ⟨rfl, rfl⟩ : p1 = [] ∧ p2 = [] := by simpa using hp.symm
  by_cases hl : q ≤ (ds.drop p).length
  · have : u1.length = q := by rw [r1.len, List.length_take]; omega
    rw [hu, List.take_left' this]; exact r1
  · have e1 : (ds.drop p).take q = ds.drop p := List.take_of_length_le (by omega)
    have e2 : (vs.drop p).take q = vs.drop p := List.take_of_length_le (by have := h1.len; omega)
    rw [e1, e2]; exact h1

/-- A look at a part of a row. -/
theorem sub_sl {ab ao cap n z l u : Nat} {vs : List Value} {ds : List AV} (hn : n ≤ cap) (hlu : l ≤ u) (hun : u ≤ n) (hl : ds.length = n * z) (h2 : ∀ (j : Nat) (v : Value), vs[j]? = some v → w.cell? ⟨ab, ao + j, none⟩ = some v) (h3 : ao + vs.length ≤ V ab) (h4 : ab < w.heap.size) (h5 : Rep V w K false [] vs ds) :
    RepV V w K [] (.slice (if cap = l then some ⟨ab, ao, none⟩ else some ⟨ab, ao + l * z, none⟩) (u - l) (cap - l)) (.sl false z (u - l) ((ds.drop (l * z)).take ((u - l) * z))) := by
  by_cases hc : cap = l
  · have : u = l := by omega
    subst this
    rw [if_pos hc]
    simp only [Nat.sub_self, Nat.zero_mul, List.take_zero]
    exact .u (.one (.sh ⟨ab, ao, none⟩ [] (by omega) (.inl ⟨rfl, rfl⟩) (by simp) .nil .nil))
  · rw [if_neg hc]
    have hv := h5.len
    refine .u (.one (.sh ⟨ab, ao + l * z, none⟩ ((vs.drop (l * z)).take ((u - l) * z)) (by omega) (.inr ⟨rfl, ?_, h4⟩) (fun j v hj => ?_) (h5.sub _ _) .nil))
    rotate_left
    · have hj' : vs[l * z + j]? = some v := by
        rw [List.getElem?_take] at hj
        split at hj
        · rw [List.getElem?_drop] at hj; exact hj
        · cases hj
      have := h2 _ _ hj'
      rw [← this]; simp [Nat.add_assoc]
    · have e : l * z + (u - l) * z = u * z := by rw [← Nat.add_mul]; congr 1; omega
      have : u * z ≤ n * z := Nat.mul_le_mul_right _ hun
      simp only [List.length_take, List.length_drop]
      omega

theorem bnd_run {x : Option Operand} {l c : Int} (R : RelG N w0 M V0 K V O s a w) (hx : bnd s c x = some l) : (x.map a.eval = none ∧ l = c) ∨ ∃ k, x.map a.eval = some (.int k l) := by
  cases x with
  | none => simp only [bnd, Option.some.injEq] at hx; exact .inl ⟨rfl, hx.symm⟩
  | some y =>
    simp only [bnd] at hx
    split at hx
    · rename_i k j hy
      cases hx
      obtain ⟨f, _, _, _, h⟩ := R.ev y
      rw [hy] at h
      exact .inr ⟨k, by simp [(inv_lit h).1]⟩
    · cases hx

theorem run_cut_sl {t e z by' : Nat} (ht : tslice P t = some (e, z, by')) (ab ao n cap : Nat) (hn : n ≤ cap) (lo hi : Option Value) (l u : Int) (h0 : 0 ≤ l) (hlu : l ≤ u) (hun : u ≤ n)
    (hlo : (lo = none ∧ l = 0) ∨ ∃ k, lo = some (.int k l)) (hhi : (hi = none ∧ u = n) ∨ ∃ k, hi = some (.int k u)) (w : World) :
    (Instr.sliceAt t (.slice (some ⟨ab, ao, none⟩) n cap) lo hi none).run P w = .ok (.slice (if cap = l.toNat then some ⟨ab, ao, none⟩ else some ⟨ab, ao + l.toNat * z, none⟩) (u.toNat - l.toNat) (cap - l.toNat)) w := by
  obtain ⟨i, hu, hi', hs, -⟩ := tslice_of ht
  have h1 : u ≤ (cap : Int) := by omega
  have h2 : 0 ≤ u := by omega
  have h3 : l ≤ (u.toNat : Int) := by omega
  have h5 : l ≤ max u 0 := by omega
  have hb : (Instr.sliceBounds true n cap lo hi none).run P w = .ok (l.toNat, u.toNat, cap) w := by
    rcases hlo with ⟨rfl, rfl⟩ | ⟨k, rfl⟩ <;> rcases hhi with ⟨rfl, rfl⟩ | ⟨k', rfl⟩ <;>
      simp [Instr.sliceBounds, Instr.sliceBound, asIntOf, h0, h1, h2, h5, hlu, hun]
  simp only [Instr.sliceAt, underlying, Sem.run_bind, run_program, Result.andThen_ok, hu, Sem.run_pure, Instr.slice, hb, Go.sizeOf, Go.typeInfo, hi', hs]
  split <;> simp [Addr.add_lit]

/-- A part of a slice that is not nil and has nothing in it. -/
theorem run_cut_empty {t e z by' : Nat} (ht : tslice P t = some (e, z, by')) (ad : Addr) (cap : Nat) (lo hi : Option Value)
    (hlo : (lo = none ∧ (0 : Int) = 0) ∨ ∃ k, lo = some (.int k 0)) (hhi : (hi = none ∧ (0 : Int) = (0 : Nat)) ∨ ∃ k, hi = some (.int k 0)) (w : World) :
    (Instr.sliceAt t (.slice (some ad) 0 cap) lo hi none).run P w = .ok (.slice (some ad) 0 cap) w := by
  obtain ⟨i, hu, hi', hs, -⟩ := tslice_of ht
  have hb : (Instr.sliceBounds true 0 cap lo hi none).run P w = .ok (0, 0, cap) w := by
    rcases hlo with ⟨rfl, -⟩ | ⟨k, rfl⟩ <;> rcases hhi with ⟨rfl, -⟩ | ⟨k', rfl⟩ <;>
      simp [Instr.sliceBounds, Instr.sliceBound, asIntOf]
  simp only [Instr.sliceAt, underlying, Sem.run_bind, run_program, Result.andThen_ok, hu, Sem.run_pure, Instr.slice, hb, Go.sizeOf, Go.typeInfo, hi', hs]
  split <;> simp [Addr.add]

theorem run_cut_str {t : Nat} (ht : tstr P t = true) (v : ByteArray) (lo hi : Option Value) (l u : Int) (h0 : 0 ≤ l) (hlu : l ≤ u) (hun : u ≤ v.size)
    (hlo : (lo = none ∧ l = 0) ∨ ∃ k, lo = some (.int k l)) (hhi : (hi = none ∧ u = v.size) ∨ ∃ k, hi = some (.int k u)) (w : World) :
    (Instr.sliceAt t (.string v) lo hi none).run P w = .ok (.string (v.extract l.toNat u.toNat)) w := by
  have hu := tstr_of ht
  have h2 : 0 ≤ u := by omega
  have h3 : l ≤ (u.toNat : Int) := by omega
  have h5 : l ≤ max u 0 := by omega
  have hb : (Instr.sliceBounds false v.size v.size lo hi none).run P w = .ok (l.toNat, u.toNat, v.size) w := by
    rcases hlo with ⟨rfl, rfl⟩ | ⟨k, rfl⟩ <;> rcases hhi with ⟨rfl, rfl⟩ | ⟨k', rfl⟩ <;>
      simp [Instr.sliceBounds, Instr.sliceBound, asIntOf, h0, h2, h5, hlu, hun]
  simp only [Instr.sliceAt, underlying, Sem.run_bind, run_program, Result.andThen_ok, hu, Sem.run_pure, Instr.slice]
  simp [hb]

end Evl

/-! Evj -/
namespace Evl
open Go

variable {P : Program} {H : Hints} {fid : FuncId} {N : Nat} {w0 w w' : World} {M : Nat → Prop} {V0 V V' : Nat → Nat} {K K' : Nat → Nat × Nat} {O O' : Nat → Option Loc} {s : S} {a : Act} {fp : List Nat} {v : Value}

theorem oc_one {v : Value} (h : oc v = true) : v.oneCell' = true := by cases v <;> simp_all [oc, Value.oneCell']

/-! reading -/
theorem tagg_run {t : TypeId} {g : Bool} (h : tagg P t = some g) (w : World) : (isAgg t).run P w = .ok g w := by
  unfold tagg at h
  simp only [Option.map_eq_some_iff] at h
  obtain ⟨d, hd, hg⟩ := h
  cases d <;> simp_all [isAgg, underlying]

theorem run_loadVar_agg {t k : Nat} (ht : tagg P t = some true) (hk : tsize P t = some k) (b o : Nat) (vs : List Value) (hl : vs.length = k) (hc : ∀ (j : Nat) (v : Value), vs[j]? = some v → w.cell? ⟨b, o + j, none⟩ = some v) :
    (loadVar t ⟨b, o, none⟩).run P w = .ok (.agg vs.toArray) w := by
  obtain ⟨i, hi, hs⟩ := info_of hk
  have := run_loadCells_list (P := P) (w := w) ⟨b, o, none⟩ vs (fun j v hj => by rw [add_none]; exact hc j v hj)
  subst hl
  simp [loadVar, tagg_run ht, Go.sizeOf, Go.typeInfo, hi, hs, this]
theorem run_loadVar_one {t : Nat} (ht : tagg P t = some false) (b o : Nat) (v : Value) (hc : w.cell? ⟨b, o, none⟩ = some v) :
    (loadVar t ⟨b, o, none⟩).run P w = .ok v w := by
  simp [loadVar, tagg_run ht, hc]

/-! writing -/
/-- A row of a block, after a store. -/
def splice (arr : Array Value) (o : Nat) (vs : List Value) : Array Value := (arr.toList.take o ++ vs ++ arr.toList.drop (o + vs.length)).toArray
def putRow (w : World) (g : Nat) (arr : Array Value) (T : TypeId) (fz : Nat × Nat) : World := { w with heap := w.heap.setIfInBounds g (.cells arr T fz) }

theorem run_storeCells {g : Nat} {T : TypeId} {fz : Nat × Nat} : ∀ (vs : List Value) (o i : Nat) (arr : Array Value) (w : World), w.heap[g]? = some (.cells arr T fz) → thawed arr fz → (∀ v ∈ vs, oc v = true) → o + i + vs.length ≤ arr.size →
    (storeCells ⟨g, o, none⟩ vs i).run P w = .ok () (putRow w g (splice arr (o + i) vs) T fz) := by
  intro vs
  induction vs with
  | nil =>
    intro o i arr w hg ht ho hl
    have : splice arr (o + i) [] = arr := by simp [splice]
    rw [this]
    have hw : putRow w g arr T fz = w := by
      unfold putRow
      have : w.heap.setIfInBounds g (.cells arr T fz) = w.heap := by
        apply Array.ext_getElem?
        intro j
        rw [Array.getElem?_setIfInBounds]
        split
        · rename_i e; subst e
          split
          · rw [hg]
          · rename_i h; exact absurd (lt_of_heap hg) h
        · rfl
      rw [this]
    rw [hw]; simp [storeCells]
  | cons v vs ih =>
    intro o i arr w hg ht ho hl
    have hv : v.oneCell' = true := oc_one (ho v (by simp))
    have hlt : o + i < arr.size := by simp at hl; omega
    have hc : w.cell? ⟨g, o + i, none⟩ = some arr[o + i] := by rw [cell_of_heap hg]; simp [hlt]
    have hf : w.frozen? ⟨g, o + i, none⟩ = false := by
      simp only [World.frozen?, hg]
      have := ht.not _ hlt
      simpa using this
    simp only [storeCells, Sem.run_bind]
    have h1 : (store ((⟨g, o, none⟩ : Addr).add i) v).run P w = .ok () (w.setCell ⟨g, o + i, none⟩ v) := by
      rw [add_none]
      have := run_store P w ⟨g, o + i, none⟩ v .plain hv
      rw [this]; simp [hc, hf]
    rw [h1]
    simp only [Result.andThen_ok]
    have hg' : (w.setCell ⟨g, o + i, none⟩ v).heap[g]? = some (.cells (arr.setIfInBounds (o + i) v) T fz) := by
      simp [World.setCell, Array.getElem?_modify, hg]
    rw [ih o (i + 1) _ _ hg' (by unfold thawed; rw [Array.size_setIfInBounds]; exact ht) (fun u hu => ho u (by simp [hu])) (by simp at hl ⊢; omega)]
    congr 1
    have e1 : splice (arr.setIfInBounds (o + i) v) (o + (i + 1)) vs = splice arr (o + i) (v :: vs) := by
      unfold splice
      apply Array.ext'
      simp only [Array.toList_setIfInBounds]
      have hl' : o + i < arr.toList.length := by simpa using hlt
      rw [List.take_set, List.drop_set_of_lt (by omega)]
      rw [← Nat.add_assoc, List.take_succ_eq_append_getElem hl']
      rw [List.set_append]
      simp only [List.length_take, Nat.min_eq_left (Nat.le_of_lt hl'), Nat.lt_irrefl, if_false, Nat.sub_self, List.set_cons_zero]
      simp [Nat.add_assoc, Nat.add_comm, Nat.add_left_comm]
    rw [e1]
    unfold putRow World.setCell
    congr 1
    apply Array.ext_getElem?
    intro j
    simp only [Array.getElem?_setIfInBounds, Array.getElem?_modify, Array.size_modify]
    split
    · rfl
    · rfl

theorem run_storeVar {t k g o : Nat} {T : TypeId} {fz : Nat × Nat} {arr : Array Value} (hk : tsize P t = some k) (v : Value) (vs : List Value) (hv : v.cells = vs.toArray) (hl : vs.length = k) (hg : w.heap[g]? = some (.cells arr T fz)) (ht : thawed arr fz) (ho : ∀ v ∈ vs, oc v = true) (hb : o + vs.length ≤ arr.size) :
    (storeVar t ⟨g, o, none⟩ v).run P w = .ok () (putRow w g (splice arr o vs) T fz) := by
  obtain ⟨i, hi, hs⟩ := info_of hk
  have := run_storeCells (P := P) vs o 0 arr w hg ht ho (by simpa using hb)
  simp only [Nat.add_zero] at this
  subst hl
  simp [storeVar, hv, Go.sizeOf, Go.typeInfo, hi, hs, this]

theorem splice_size (arr : Array Value) (o : Nat) (vs : List Value) (h : o + vs.length ≤ arr.size) : (splice arr o vs).size = arr.size := by
  simp [splice]; omega
theorem putRow_same {g : Nat} {ob : Obj} (h : w.heap[g]? = some ob) (arr : Array Value) (T : TypeId) (fz : Nat × Nat) : (putRow w g arr T fz).heap[g]? = some (.cells arr T fz) := by
  have := lt_of_heap h
  simp [putRow, this]
theorem putRow_other {g g' : Nat} (h : g' ≠ g) (arr : Array Value) (T : TypeId) (fz : Nat × Nat) : (putRow w g arr T fz).heap[g']? = w.heap[g']? := by
  simp only [putRow, Array.getElem?_setIfInBounds]
  rw [if_neg (fun e => h e.symm)]
theorem putRow_size (g : Nat) (arr : Array Value) (T : TypeId) (fz : Nat × Nat) : (putRow w g arr T fz).heap.size = w.heap.size := by simp [putRow]

/-- The cells of what stands in a slot. -/
theorem cells_rep {x : AV} {cs : List AV} (h : RepV V w K fp v x) (hc : cellsOf x = some cs) : ∃ us : List Value, v.cells = us.toArray ∧ Rep V w K true fp us cs ∧ (x = .agg cs ∧ v = .agg us.toArray ∨ ∃ c u, cs = [c] ∧ us = [u] ∧ v = u ∧ x = c ∧ oc u = true) := by
  cases x with
  | agg ds =>
    cases hc
    obtain ⟨us, rfl, r⟩ := inv_agg h
    exact ⟨us, rfl, r, .inl ⟨rfl, rfl⟩⟩
  | lit u =>
    cases hc
    obtain ⟨rfl, rfl, hp⟩ := inv_lit h
    exact ⟨[v], by cases v <;> simp_all [plainX, plain, Value.cells], .lit hp .nil, .inr ⟨_, _, rfl, rfl, rfl, rfl, plain_oc hp⟩⟩
  | nil =>
    cases hc
    obtain ⟨rfl, rfl⟩ := inv_nil h
    exact ⟨[_], rfl, .nl .nil, .inr ⟨_, _, rfl, rfl, rfl, rfl, rfl⟩⟩
  | sl o z n ds =>
    cases hc
    obtain ⟨rfl, -⟩ | ⟨ad, cap, rfl, -⟩ | ⟨ab, ao, cap, vs, rfl, -⟩ := inv_sl h
    · exact ⟨[_], rfl, inv_one h (.inl ⟨_, _, _, _, rfl⟩), .inr ⟨_, _, rfl, rfl, rfl, rfl, rfl⟩⟩
    · exact ⟨[_], rfl, inv_one h (.inl ⟨_, _, _, _, rfl⟩), .inr ⟨_, _, rfl, rfl, rfl, rfl, rfl⟩⟩
    exact ⟨[_], rfl, inv_one h (.inl ⟨_, _, _, _, rfl⟩), .inr ⟨_, _, rfl, rfl, rfl, rfl, rfl⟩⟩
  | msl b n =>
    cases hc
    obtain ⟨rfl, ⟨rfl, -⟩ | ⟨cap, rfl, -⟩⟩ := inv_msl h
    · exact ⟨[_], rfl, inv_one h (.inr ⟨_, _, rfl⟩), .inr ⟨_, _, rfl, rfl, rfl, rfl, rfl⟩⟩
    exact ⟨[_], rfl, inv_one h (.inr ⟨_, _, rfl⟩), .inr ⟨_, _, rfl, rfl, rfl, rfl, rfl⟩⟩
  | _ => cases hc

/-! a new box -/
theorem newBox (R : RelG N w0 M V0 K V O s a w) (o : Oper) {d : Nat} (hdst : o.dst = some d) (hd : d < N) (hk : d < 1000) (x : Operand) (us : List Value) (cs : List AV) (T : TypeId) {fp : List Nat} (hn : fp.Nodup) (ho : ∀ t, x = .tmp t → ∀ g ∈ fp, O g = some (true, t)) (he : (∀ t, x ≠ .tmp t) → fp = [])
    (hw : hasOwn (s.ev x) = false → fp = []) (h : Rep V w K true fp us cs) (hr : (execOp a.eval o).run P w = .ok (.value (.pointer (some ⟨w.heap.size, 0, none⟩))) (w.alloc (.cells us.toArray T))) :
    Step1 P N w0 M V0 K o (({ val := .ptr d 0, set := given x (s.ev x), kl := [d], put := [(d, ⟨true, 0, killL d cs⟩)] } : Eff).apply o.dst s) a w := by
  let K' : Nat → Nat × Nat := fun b => if b = d then (w.heap.size, 0) else K b
  have hK : ∀ b, b ∉ [d] → K' b = K b := fun b hb => by simp at hb; simp [K', hb]
  have hV : ∀ g, w.heap.size ≤ g → V g = 0 := fun g hg => Nat.eq_zero_of_not_pos fun hp => by have := R.vr g hp; omega
  have hold : ∀ g, g < w.heap.size → (w.alloc (.cells us.toArray T)).heap[g]? = w.heap[g]? := fun g hg => by
    simp only [World.alloc, Array.getElem?_push]; rw [if_neg (by omega)]
  have hnx : Next V V w (w.alloc (.cells us.toArray T)) := ⟨fun g off ho => by
      have hg := R.vr g (by omega)
      simp only [World.cell?, hold g hg], fun _ => Nat.le_refl _, by simp⟩
  have hlt : ∀ g ∈ fp, g < w.heap.size := fun g hg => by
    cases x with
    | tmp t => exact (R.rg g _ (ho t rfl g hg)).2
    | _ => rw [he (by intro t e; cases e)] at hg; cases hg
  refine ⟨_, _, K', V, fun g => if g = w.heap.size ∨ g ∈ fp then some (false, d) else if O g = some (true, d) ∨ O g = some (false, d) then none else O g, .inl hr, ?_, fun b hb => by simp only [K']; rw [if_neg (by omega)]⟩
  rw [hdst]
  refine R.apply _ (some d) _ (fun d' h => by cases h; exact hd) hnx hK ?_ ?_ ?_ ?_ ?_ ?_ ?_ (fun _ _ _ => rfl)
  · intro g l hl ht hb
    have hg := (R.rg g l hl).2
    refine ⟨hold g hg, rfl, ?_⟩
    have hgf : ¬(g = w.heap.size ∨ g ∈ fp) := by
      rintro (e | hg')
      · omega
      · cases x with
        | tmp t =>
          have e := ho t rfl g hg'
          rw [hl] at e; cases e
          have := (ht t rfl).2
          simp only [given] at this
          split at this
          · simp [lookup] at this
          · rename_i hh; rw [hw (by simpa using hh)] at hg'; cases hg'
        | _ => rw [he (by intro t e; cases e)] at hg'; cases hg'
    rw [if_neg hgf, if_neg ?_]; exact hl
    rw [hl]; rintro (e | e)
    · cases e; exact (ht d rfl).1 rfl
    · cases e; have := (hb d rfl).1; simp [lookup] at this
  · intro t z hne hl
    cases x with
    | tmp t' =>
      simp only [given] at hl
      split at hl
      · simp only [lookup] at hl
        split at hl
        · rename_i e; subst e; cases hl
          obtain ⟨fq, h1, h2, h3⟩ := R.tm t'
          exact ⟨[], List.nodup_nil, by simp, h3.share.next hnx (by simp) [d] hK⟩
        · cases hl
      · simp [lookup] at hl
    | _ => simp [given, lookup] at hl
  · intro d' e; cases e
    refine ⟨[], List.nodup_nil, by simp, ?_⟩
    have := RepP.ptr (V := V) (w := w.alloc (.cells us.toArray T)) (K := K') d 0
    simp only [K', if_true] at this
    exact .u (.p this)
  · intro b y hl
    simp only [lookup] at hl
    split at hl
    · rename_i e; subst e; cases hl
      have hKd : K' d = (w.heap.size, 0) := by simp [K']
      refine .inr ⟨fp, us.toArray, T, (0, 0), us, ?_, ?_, ?_⟩
      · rw [hKd]; exact List.nodup_cons.2 ⟨fun hm => by have := hlt _ hm; omega, hn⟩
      · rw [hKd]; intro g hg
        refine if_pos ?_
        rcases List.mem_cons.1 hg with rfl | hg
        · exact .inl rfl
        · exact .inr hg
      · refine ⟨?_, ?_, ?_, ?_, ?_, ?_, ?_⟩
        · rw [hKd]; show (w.heap.push _)[w.heap.size]? = _; simp
        · exact .inl rfl
        · intro j v hj; simpa using hj
        · exact h.next hnx (fun g hg => ⟨hold g (hlt g hg), rfl⟩) [d] hK
        · rw [hKd]; simp [hV w.heap.size (Nat.le_refl _)]
        · intro _; exact ⟨by simp, rfl⟩
        · intro hz; exact absurd rfl hz
    · cases hl
  · intro g l hl
    split at hl
    · rename_i hg
      rcases hg with rfl | hg
      · exact ⟨.inl R.fr.sz, by simp⟩
      · refine ⟨?_, by have := hlt g hg; simp; omega⟩
        cases x with
        | tmp t => exact (R.rg g _ (ho t rfl g hg)).1
        | _ => rw [he (by intro t e; cases e)] at hg; cases hg
    · split at hl
      · cases hl
      · have := R.rg g l hl; exact ⟨this.1, by simp; omega⟩
  · intro g hg; have := R.vr g hg; simp; omega
  · refine ⟨R.fr.os, R.fr.tape, R.fr.output, by have := R.fr.sz; simp; omega, fun g hg hm => ?_, R.fr.dr⟩
    rw [hold g (by have := R.fr.sz; omega)]; exact R.fr.old g hg hm

theorem tzero_of {t : TypeId} {z : List AV} (h : tzero P t = some z) : ∃ i zv, P.info? t = some i ∧ i.zero = some zv ∧ z = zv.cells.toList.map ofValue ∧ ∀ v ∈ zv.cells.toList, oc v = true := by
  simp only [tzero, Option.bind_eq_some_iff, Option.ite_none_right_eq_some, Option.some.injEq] at h
  obtain ⟨zv, ⟨i, hi, hz⟩, ha, e⟩ := h
  exact ⟨i, zv, hi, hz, e.symm, List.all_eq_true.1 ha⟩

theorem kill_ofValue (d : Nat) (v : Value) : kill d (ofValue v) = ofValue v := by
  unfold ofValue; split <;> rfl
theorem killL_ofValue (d : Nat) : ∀ l : List Value, killL d (l.map ofValue) = l.map ofValue
  | [] => rfl
  | v :: l => by simp [killL, kill_ofValue, killL_ofValue d l]

theorem rep_of_values {V w K m} : ∀ l : List Value, (∀ v ∈ l, oc v = true) → Rep V w K m [] l (l.map ofValue) := by
  intro l; induction l with
  | nil => intro _; exact .nil
  | cons v l ih =>
    intro h
    have h1 : Rep V w K m [] [v] [ofValue v] := by
      unfold ofValue; split
      · exact .lit rfl .nil
      · exact .lit rfl .nil
      · exact .lit rfl .nil
      · exact .lit rfl .nil
      · exact .nl .nil
      · exact .lit rfl .nil
      · exact .bd _ (h _ (by simp)) .nil
    exact h1.app (ih fun u hu => h u (by simp [hu]))

theorem sound_alloc (R : RelG N w0 M V0 K V O s a w) (o : Oper) (hd : ∀ d, o.dst = some d → d < N) {e : Eff} (h : opE P H fid o s = some e) (hk : e.kl.all (· < 1000) = true) {t} (hop : o.op = .alloc t) :
    Step1 P N w0 M V0 K o (e.apply o.dst s) a w := by
  simp only [opE, hop] at h
  split at h
  · rename_i d z k hdst hzz hs
    simp only [Option.ite_none_right_eq_some, Option.some.injEq] at h
    obtain ⟨hl, rfl⟩ := h
    obtain ⟨i, zv, hi, hz', rfl, hz⟩ := tzero_of hzz
    have hr := rep_of_values (V := V) (w := w) (K := K) (m := true) zv.cells.toList hz
    have := newBox (P := P) R o hdst (hd d hdst) (by simpa using hk) (.const (.bool false)) zv.cells.toList _ t (fp := []) List.nodup_nil (by simp) (fun _ => rfl) (fun _ => rfl) hr (by
      simp [execOp, hop, Instr.alloc, zeroValue, Go.typeInfo, hi, hz', newVar, newRow])
    rw [killL_ofValue] at this
    exact this
  · cases h

theorem sound_box (R : RelG N w0 M V0 K V O s a w) (o : Oper) (hd : ∀ d, o.dst = some d → d < N) {e : Eff} (h : opE P H fid o s = some e) (hk : e.kl.all (· < 1000) = true) {t x} (hop : o.op = .box t x) :
    Step1 P N w0 M V0 K o (e.apply o.dst s) a w := by
  simp only [opE, hop] at h
  split at h
  · rename_i d cs k hdst hc hs
    simp only [Option.ite_none_right_eq_some, Option.some.injEq] at h
    obtain ⟨hl, rfl⟩ := h
    obtain ⟨fp, h1, h2, h3, h4⟩ := R.ev x
    obtain ⟨us, hv, hr, -⟩ := cells_rep h4 hc
    refine newBox (P := P) R o hdst (hd d hdst) (by simpa using hk) x us cs t h1 h2 h3 (ownless_v h4) hr ?_
    simp [execOp, hop, Instr.box, newVar, newRow, hv]
  · cases h

end Evl

/-! Evk -/
namespace Evl
open Go

variable {P : Program} {H : Hints} {fid : FuncId} {N : Nat} {w0 w w' : World} {M : Nat → Prop} {V0 V V' : Nat → Nat} {K K' : Nat → Nat × Nat} {O O' : Nat → Option Loc} {s : S} {a : Act} {fp : List Nat} {v : Value}

/-- A part of a row of cells. -/
theorem Rep.seg {m : Bool} {us : List Value} {cs : List AV} (h : Rep V w K m fp us cs) (off k : Nat) (hk : off + k ≤ cs.length) : ∃ u1 u2 u3 f1 f2 f3, us = u1 ++ (u2 ++ u3) ∧ fp = f1 ++ (f2 ++ f3) ∧ u1.length = off ∧ u2.length = k ∧
    Rep V w K m f1 u1 (cs.take off) ∧ Rep V w K m f2 u2 ((cs.drop off).take k) ∧ Rep V w K m f3 u3 (cs.drop (off + k)) := by
  obtain ⟨f1, f', u1, u', rfl, rfl, r1, r'⟩ := Rep.split (cs.take off) (cs₂ := cs.drop off) (by rw [List.take_append_drop]; exact h)
  obtain ⟨f2, f3, u2, u3, rfl, rfl, r2, r3⟩ := Rep.split ((cs.drop off).take k) (cs₂ := (cs.drop off).drop k) (by rw [List.take_append_drop]; exact r')
  rw [List.drop_drop] at r3
  exact ⟨u1, u2, u3, f1, f2, f3, rfl, rfl, by rw [r1.len, List.length_take]; omega, by rw [r2.len, List.length_take, List.length_drop]; omega, r1, r2, r3⟩

theorem BoxOk.cell {b : Nat} {x : Box} {fb arr T fz us} (h : BoxOk V w K b x fb arr T fz us) {j : Nat} {v : Value} (hj : us[j]? = some v) : w.cell? ⟨(K b).1, j, none⟩ = some v := by
  rw [cell_of_heap h.hp]; exact h.pre j v hj

theorem nodup3 {l1 l2 l3 : List Nat} (h : (l1 ++ (l2 ++ l3)).Nodup) : l2.Nodup ∧ (l1 ++ l3).Nodup ∧ ∀ x ∈ l2, x ∉ l1 ++ l3 := by
  have n1 := List.nodup_append.1 h
  have n2 := List.nodup_append.1 n1.2.1
  refine ⟨n2.1, List.nodup_append.2 ⟨n1.1, n2.2.1, fun x hx y hy => n1.2.2 x hx y (by simp [hy])⟩, fun x hx hm => ?_⟩
  rcases List.mem_append.1 hm with hm | hm
  · exact n1.2.2 x hm x (by simp [hx]) rfl
  · exact n2.2.2 x hx x hm rfl

/-- A load that hands the tree on. -/
theorem load_mv (R : RelG N w0 M V0 K V O s a w) (o : Oper) {d : Nat} (hdst : o.dst = some d) (hd : d < N) {b off k : Nat} {x : Box} (hb : s.b b = some x) (hk : off + k ≤ x.cs.length) (hk0 : 0 < k) (v : Value)
    (hr : ∀ u2 : List Value, (∃ u1 u3 : List Value, u1.length = off ∧ u2.length = k ∧ ∀ (j : Nat) v, (u1 ++ (u2 ++ u3))[j]? = some v → w.cell? ⟨(K b).1, j, none⟩ = some v) → (execOp a.eval o).run P w = .ok (.value (.agg u2.toArray)) w) :
    Step1 P N w0 M V0 K o (({ val := .agg ((x.cs.drop off).take k), put := [(b, { x with cs := x.cs.take off ++ shareL ((x.cs.drop off).take k) ++ x.cs.drop (off + k) })], rd := [b] } : Eff).apply o.dst s) a w := by
  obtain ⟨fb, arr, T, fz, us, h1, h2, h3⟩ := R.bxr b x hb (.inr (.inl fun e => by rw [e] at hk; simp at hk; omega))
  obtain ⟨u1, u2, u3, f1, f2, f3, rfl, rfl, l1, l2, r1, r2, r3⟩ := h3.rep.seg off k hk
  have hn := List.nodup_cons.1 h1
  obtain ⟨m1, m2, m3⟩ := nodup3 hn.2
  have hrun := hr u2 ⟨u1, u3, l1, l2, fun j v hj => h3.cell hj⟩
  refine ⟨_, w, K, V, fun g => if g ∈ f2 then some (true, d) else if O g = some (true, d) then none else O g, .inl hrun, ?_, fun _ _ => rfl⟩
  rw [hdst]
  refine R.apply _ (some d) _ (fun d' e => by cases e; exact hd) (Next.refl V w) (fun _ _ => rfl) ?_ ?_ ?_ ?_ ?_ R.vr R.fr (fun _ _ _ => rfl)
  · intro g l hl ht hb'
    refine ⟨rfl, rfl, ?_⟩
    have hg : g ∉ f2 := by
      intro hg
      have e := h2 g (by simp [hg])
      rw [hl] at e; cases e
      have := (hb' b rfl).1; simp [lookup] at this
    rw [if_neg hg, if_neg ?_]; exact hl
    rw [hl]; intro e; cases e; exact (ht d rfl).1 rfl
  · intro t z _ hl; simp [lookup] at hl
  · intro d' e; cases e
    exact ⟨f2, m1, fun g hg => by simp [hg], .u (.agg (r2.up true fun _ => rfl))⟩
  · intro b' y hl
    simp only [lookup] at hl
    split at hl
    · rename_i e; subst e; cases hl
      refine .inr ⟨f1 ++ f3, arr, T, fz, u1 ++ (u2 ++ u3), ?_, ?_, ?_⟩
      · refine List.nodup_cons.2 ⟨fun hm => hn.1 ?_, m2⟩
        rcases List.mem_append.1 hm with hm | hm <;> simp [hm]
      · intro g hg
        have hO : O g = some (false, b) := h2 g (by rcases List.mem_cons.1 hg with rfl | hg; exact List.mem_cons_self; rcases List.mem_append.1 hg with hg | hg <;> simp [hg])
        have : g ∉ f2 := by
          intro h2'
          rcases List.mem_cons.1 hg with rfl | hg
          · exact hn.1 (by simp [h2'])
          · exact m3 g h2' hg
        show (if g ∈ f2 then some (true, d) else if O g = some (true, d) then none else O g) = _
        rw [if_neg this, if_neg (by rw [hO]; intro e; cases e)]; exact hO
      · have hlen : (x.cs.take off ++ shareL ((x.cs.drop off).take k) ++ x.cs.drop (off + k)).length = x.cs.length := by
          simp only [List.length_append, shareL_length, List.length_take, List.length_drop]; omega
        refine ⟨h3.hp, h3.th, h3.pre, ?_, ?_, h3.var, h3.row⟩
        · have := r1.app (r2.share.app r3)
          simpa [List.append_assoc] using this
        · rw [h3.vis]; simp only [hlen]
    · cases hl
  · intro g l hl
    split at hl
    · rename_i hg; exact R.rg g _ (h2 g (by simp [hg]))
    · split at hl
      · cases hl
      · exact R.rg g l hl

theorem sound_load (R : RelG N w0 M V0 K V O s a w) (o : Oper) (hd : ∀ d, o.dst = some d → d < N) {e : Eff} (h : opE P H fid o s = some e) {t x} (hop : o.op = .load t x) :
    Step1 P N w0 M V0 K o (e.apply o.dst s) a w := by
  simp only [opE, hop] at h
  split at h
  · rename_i d hdst
    obtain ⟨f1, _, _, _, h1⟩ := R.ev x
    unfold loadE at h
    split at h
    · rename_i _ b off hx
      rw [hx] at h1
      obtain ⟨e1, rfl⟩ := inv_ptr h1
      split at h
      · rename_i bx k hb hs hg
        split at h
        · rename_i hk
          obtain ⟨hk0, hk⟩ := hk
          split at h
          · cases h
            refine load_mv (P := P) R o hdst (hd d hdst) hb hk hk0 .nilFunc ?_
            rintro u2 ⟨u1, u3, l1, l2, hc⟩
            have := run_loadVar_agg (P := P) (w := w) hg hs (K b).1 off u2 l2 (fun j v hj => hc (off + j) v (by rw [List.getElem?_append_right (by omega), List.getElem?_append_left (by have := (List.getElem?_eq_some_iff.1 hj).1; omega)]; rw [← hj]; congr 1; omega))
            simp [execOp, hop, e1, Instr.loadAt, Instr.sureAddr, this]
          · cases h
            obtain ⟨fb, arr, T, fz, us, q1, q2, q3⟩ := R.bxr b bx hb (.inr (.inl fun e => by rw [e] at hk; simp at hk; omega))
            obtain ⟨u1, u2, u3, f1, f2, f3, rfl, rfl, l1, l2, r1, r2, r3⟩ := q3.rep.seg off k hk
            have := run_loadVar_agg (P := P) (w := w) hg hs (K b).1 off u2 l2 (fun j v hj => q3.cell (by rw [List.getElem?_append_right (by omega), List.getElem?_append_left (by have := (List.getElem?_eq_some_iff.1 hj).1; omega)]; rw [← hj]; congr 1; omega))
            refine step_pure R o hd (.agg u2.toArray) _ [b] ?_ (.u (.agg (r2.share.up true fun _ => rfl)))
            simp [execOp, hop, e1, Instr.loadAt, Instr.sureAddr, this]
        · cases h
      · rename_i bx hb hs hg
        have key : ∀ c, bx.cs[off]? = some c → ∃ u fc, Rep V w K true fc [u] [c] ∧ w.cell? ⟨(K b).1, off, none⟩ = some u := by
          intro c hc
          obtain ⟨fb, arr, T, fz, us, q1, q2, q3⟩ := R.bxr b bx hb (.inr (.inl fun e => by rw [e] at hc; simp at hc))
          have hlt := (List.getElem?_eq_some_iff.1 hc).1
          obtain ⟨u1, u2, u3, f1, f2, f3, rfl, rfl, l1, l2, r1, r2, r3⟩ := q3.rep.seg off 1 (by omega)
          have e2 : (bx.cs.drop off).take 1 = [c] := by
            rw [List.drop_eq_getElem_cons hlt, List.take_succ_cons, List.take_zero]
            have := (List.getElem?_eq_some_iff.1 hc).2; rw [this]
          rw [e2] at r2
          obtain ⟨u, rfl⟩ : ∃ u, u2 = [u] := by
            match u2, l2 with
            | [u], _ => exact ⟨u, rfl⟩
          exact ⟨u, f2, r2.up true fun _ => rfl, q3.cell (by rw [List.getElem?_append_right (by omega)]; simp [l1])⟩
        split at h
        · rename_i sz n ds hc
          cases h
          obtain ⟨u, fc, hr, hcell⟩ := key _ hc
          have := run_loadVar_one (P := P) (w := w) hg (K b).1 off u hcell
          refine step_pure R o hd u _ [b] ?_ (.u (.one hr.share))
          simp [execOp, hop, e1, Instr.loadAt, Instr.sureAddr, this]
        · cases h
        · rename_i c hns hnb hc
          cases h
          obtain ⟨u, fc, hr, hcell⟩ := key _ hc
          have := run_loadVar_one (P := P) (w := w) hg (K b).1 off u hcell
          have ho : hasOwnL [c] = false := by
            cases hr with
            | ow g T arr fz vs h1 h2 h3 h4 h5 h6 h7 h8 h9 h10 => exact (hns _ _ _ rfl).elim
            | on h => exact (hns _ _ _ rfl).elim
            | _ => rfl
          obtain rfl := ownless_rep hr ho
          refine step_pure R o hd u _ [b] ?_ (.u (.one hr))
          simp [execOp, hop, e1, Instr.loadAt, Instr.sureAddr, this]
        · cases h
      · cases h
    · rename_i _ cs hx
      rw [hx] at h1
      obtain ⟨⟨ab, ao, as⟩, vs, e1, rfl, q1, q2, q3, q4, q5⟩ := inv_cptr h1
      obtain rfl : as = none := q1
      split at h
      · rename_i k hs hg
        simp only [Option.ite_none_right_eq_some, Option.some.injEq] at h
        obtain ⟨hk, rfl⟩ := h
        have hr : Rep V w K false [] (vs.take k) (cs.take k) := by simpa using q5.sub 0 k
        have := run_loadVar_agg (P := P) (w := w) hg hs ab ao (vs.take k) (by rw [hr.len, List.length_take]; omega) (fun j v hj => q2 j v (by rw [List.getElem?_take] at hj; split at hj; exact hj; cases hj))
        refine step_pure R o hd (.agg (vs.take k).toArray) _ [] ?_ (.u (.agg (hr.up true fun _ => rfl)))
        simp only [execOp, hop, e1, Instr.loadAt, Instr.sureAddr, Sem.run_bind, Sem.run_pure, Result.andThen_ok, this]
      · rename_i hs hg
        split at h
        · cases h
        · rename_i c cs' hnb
          cases h
          have hr : Rep V w K false [] (vs.take 1) [c] := by simpa using q5.sub 0 1
          obtain ⟨u, us, rfl⟩ : ∃ u us, vs = u :: us := by
            cases vs with
            | nil => have := q5.len; simp at this
            | cons u us => exact ⟨u, us, rfl⟩
          have := run_loadVar_one (P := P) (w := w) hg ab ao u (by have := q2 0 u rfl; simpa using this)
          refine step_pure R o hd u _ [] ?_ (.u (.one (by simpa using hr.up true fun _ => rfl)))
          simp [execOp, hop, e1, Instr.loadAt, Instr.sureAddr, this]
        · cases h
      · cases h
    · cases h
  · cases h

end Evl
