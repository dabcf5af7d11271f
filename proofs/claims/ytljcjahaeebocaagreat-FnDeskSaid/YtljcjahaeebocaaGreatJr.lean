
/- Texts that belong together,joined. No condition. -/
import Derived.Test.YtljcjahaeebocaaGreatJp
import Derived.ChangeArms
import Derived.WideShapes
import Derived.DataReads
import Derived.Test.YtljcjahaeebocaaGreatJd
import Derived.WalkKit
import Derived.ProofKit
import Derived.OpenShut
import Derived.ShutString
import Derived.ChangeOld
import Derived.Below
import Derived.Carry
import Derived.SizedLaws
import Derived.Lib.SmallJoins
namespace Evl.T
open Go Evl
def cellsIn(w:World)(g:Nat):Nat:=match w.heap[g]? with | some (.cells c _ _)=>c.size | _=>0
theorem cellsIn_lt{w:World}{g:Nat}(h:0<cellsIn w g):g<w.heap.size:=by
 unfold cellsIn at h
 split at h
 ·rename_i e;exact(Array.getElem?_eq_some_iff.1 e).1
 ·cases h
theorem cell_in{w:World}{a:Addr}{v:Value}(h:w.cell? a=some v):a.spot=none∧a.off<cellsIn w a.block:=by
 unfold World.cell? at h
 unfold cellsIn
 split at h
 ·rename_i c T fz e
  split at h
  ·cases h
  ·rename_i hs
   rw[e]
   exact⟨by simpa using hs,(Array.getElem?_eq_some_iff.1 h).1⟩
 ·cases h
theorem row_of{H:Type}{enc:TypeId×Value→H}{P:Program}{W:World}{base:Nat}{spare:Nat→Bool}{held:Bool}{n:Nat}{τ:Type}{Good:τ→Prop}{K:Nat→Nat×Nat}(e:Enc τ)(t:TypeId)(hz:P.cellsOf t=e.z)(h0:0<e.z)
  (one:∀cs x,DataW.trod enc P W base spare held n t cs=some x→∃s:τ,Good s∧Rep (cellsIn W) W K false [] cs (e.c s)) :
  ∀(len:Nat) (a:Addr) (elems:List (DataW H×List MemPlace)),elems.length=len→(∀i,i<len→(W.cells? base (a.add (i*P.cellsOf t)) (P.cellsOf t)).bind (DataW.trod enc P W base spare held n t)=elems[i]?) →
   ∃(vs:List Value) (ss:List τ),ss.length=len∧(∀s∈ss,Good s)∧Seen (cellsIn W) W a len vs∧(∀(j:Nat) (v:Value),vs[j]?=some v→W.cell? ⟨a.block,a.off+j,none⟩=some v)∧Rep (cellsIn W) W K false [] vs (e.f ss):=by
 intro len
 induction len with
 | zero=>intro a elems _ _;exact⟨[],[],rfl,by simp,.inl ⟨rfl,rfl⟩,by simp,by rw[e.hf];exact .nil⟩
 | succ len ih =>
  intro a elems hl he
  have h:=he 0 (by omega)
  rw[List.getElem?_eq_getElem (by omega)] at h
  obtain⟨cs,hc,ht⟩:=Option.bind_eq_some_iff.1 h
  obtain⟨-,hcl,hcc⟩:=World.cells?_some hc
  obtain⟨s,hs,hr⟩:=one _ _ ht
  have hz0:a.add (0*P.cellsOf t)=a:=by simp[Addr.add]
  rw[hz0] at hcc
  have hsp:a.spot=none:=by
   have:=hcc 0 (by omega)
   rw[List.getElem?_eq_getElem (by omega)] at this
   simpa [Addr.add] using (cell_in this).1
  obtain⟨ab,ao,sp⟩:=a
  obtain rfl:sp=none:=hsp
  have hcc':∀i,i<P.cellsOf t→W.cell? ⟨ab,ao+i,none⟩=cs[i]?:=fun i hi=>by have:=hcc i hi;rwa [Addr.add_lit] at this
  obtain⟨vs,ss,q1,q2,q3,q4,q5⟩:=ih (Addr.add ⟨ab,ao,none⟩ (P.cellsOf t)) elems.tail (by simp;omega) fun i hi=>by
   have:=he (i+1) (by omega)
   rw[List.getElem?_tail,←this]
   simp only[Addr.add_lit,Nat.add_mul];congr 3;omega
  rw[Addr.add_lit] at q4
  have hall:∀(k:Nat) (v:Value),(cs++vs)[k]?=some v→W.cell? ⟨ab,ao+k,none⟩=some v:=fun k v hk=>by
   by_cases hkl:k<cs.length
   ·rw[List.getElem?_append_left hkl] at hk
    rw[hcc' k (by omega),hk]
   ·rw[List.getElem?_append_right (by omega)] at hk
    have:=q4 _ _ hk
    rw[←this]
    simp only;congr 2;omega
  have hpos:0<(cs++vs).length:=by simp;omega
  have hlast:=cell_in (hall ((cs++vs).length-1) _ (List.getElem?_eq_getElem (by omega)))
  have h2:=hlast.2
  simp only at h2
  exact⟨cs++vs,s::ss,by simp[q1],by simpa using ⟨hs,q2⟩,.inr ⟨rfl,by simp only;omega,cellsIn_lt (g:=ab) (by omega)⟩,hall,by rw[e.cons];exact hr.app q5⟩
section
variable {H:Type}{enc:TypeId×Value→H}{P:Program}{W:World}{base:Nat}{spare:Nat→Bool}{held:Bool}{K:Nat→Nat×Nat}{fuel:Nat}{cs:List Value}{x:DataW H×List MemPlace}
end
end Evl.T
namespace Evl.T
open Go.RowKit Go.ChangeShapes Go.WideShapes
open Go Evl
inductive ArgsOk(W:World):List Value→List AV→Prop
 | nil:ArgsOk W [] []
 | cons {v:Value} {x:AV} {vs:List Value} {xs:List AV}:RepV (cellsIn W) W (fun _=>(0,0)) [] v x→ArgsOk W vs xs→ArgsOk W (v::vs) (x::xs)
theorem law_calls{P:Program}{f:FuncId}{args:List AV}{G:GP}(h:CallOk P G f args nob (bl true) nob)(W:World)(vs:List Value)(hG:G (fun _=>False) (cellsIn W) W)(ha:ArgsOk W vs args) :
  Calls P f vs.toArray W fun e w'=>e=.returned (.bool true)∧Below W.heap.size W w':=by
 have hl:vs.length=args.length:=by clear h;induction ha with | nil=>rfl | cons _ _ ih=>simp[ih]
 have hg:∀(i:Nat) (x:AV),args[i]?=some x→∃v,vs[i]?=some v∧RepV (cellsIn W) W (fun _=>(0,0)) [] v x:=by
  clear h hl
  induction ha with
  | nil=>intro i x hx;cases hx
  | cons h _ ih =>
   intro i x hx
   cases i with
   | zero=>cases hx;exact⟨_,rfl,h⟩
   | succ i=>exact ih i x hx
 refine Calls.mono (h W (cellsIn W) (cellsIn W) (fun _=>(0,0)) (fun _=>none) vs (by simpa using hG) (fun _=>Nat.le_refl _) (fun _ _=>rfl) ⟨hl,fun i x hx=>?_,fun b x hb=>(by cases hb),fun g l hg=>(by cases hg),fun g hg=>cellsIn_lt hg⟩) fun e w' hen=>?_
 ·obtain⟨v,h1,h2⟩:=hg i x hx
  exact⟨v,[],h1,List.nodup_nil,by simp,h2⟩
 ·obtain⟨v,rfl,V1,O1,fp,b1,b2,b3,b4,b5,b6,hq,b7,b8⟩:=hen
  have hv:v=.bool true:=by
   cases hq with
   | one _ _ _ hr=>cases hr with
    | v K _ _ _ hu hi=>cases hu with
     | one h=>cases h with
      | lit hp h=>rfl
     | p h=>cases h
  subst hv
  exact⟨rfl,⟨b1.os,b1.tape,b1.output,b1.sz,fun k hk=>b1.old k hk (by simp)⟩⟩
def Opens(P:Program)(t:TypeId){α:Type}(Good:α→Prop)(c:α→AV):Prop :=
 ∀{H:Type} {enc:TypeId×Value→H} {W:World} {r:Reach} {base:Nat} {spare:Nat→Bool} {held:Bool} {v:Value} {d:DataW H} {ps:List MemPlace},
  Value.okWide P W r base t v→DataW.Trod enc P W 0 spare held t v d ps→∃a:α,Good a∧RepV (cellsIn W) W (fun _=>(0,0)) [] v (c a)
variable {P:Program}
theorem opens_row{τ:Type}{Good:τ→Prop}(e:Enc τ){t el:TypeId}(ht:P.underlying t=some (.slice el))(hz:P.cellsOf el=e.z)(h0:0<e.z)
  (one:∀{H:Type} {enc:TypeId×Value→H} {W:World} {base:Nat} {spare:Nat→Bool} {held:Bool} {n:Nat} {cs:List Value} {x:DataW H×List MemPlace},DataW.trod enc P W base spare held n el cs=some x→∃s:τ,Good s∧Rep (cellsIn W) W (fun _=>(0,0)) false [] cs (e.c s)) :
  Opens P t (fun l:List τ=>l.length≤maxLen∧∀s∈l,Good s) fun l=>.sl false e.z l.length (e.f l):=by
 intro H enc W r base spare held v d ps hv hd
 obtain⟨a,len,cap,rfl⟩:=okWide_slice ht hv
 obtain⟨fuel,hf⟩:=hd
 rcases DataW.trod_slice ht hf with ⟨h,-⟩ | ⟨a',len',cap',elems,rest,n',e1,e2,-,-,hlc,hcm,hel,hev,-⟩
 ·simp only[Value.cells,List.cons.injEq,and_true] at h
  obtain⟨rfl,rfl,rfl⟩:a=none∧len=0∧cap=0:=by simpa using h
  refine⟨[],⟨by simp,by simp⟩,.u (.one ?_)⟩
  show Rep _ _ _ _ _ _ [.sl false e.z ([]:List τ).length (e.f [])]
  rw[e.hf];exact .ns .nil
 ·obtain⟨rfl,rfl,rfl⟩:a=some a'∧len=len'∧cap=cap':=by simpa [Value.cells] using e2
  obtain⟨vs,ss,q1,q2,q3,q4,q5⟩:=row_of (Good:=Good) (K:=fun _=>(0,0)) e el hz h0 (n:=n') (fun cs x hx=>one hx) len a' elems hel hev
  subst q1
  have q5':Rep (cellsIn W) W (fun _=>(0,0)) true [] [.slice (some a') ss.length cap] [.sl false e.z ss.length (e.f ss)]:=(Rep.sh a' vs hlc q3 q4 q5 .nil:Rep (cellsIn W) W (fun _=>(0,0)) false [] _ _).up true (by simp)
  exact⟨ss,⟨by omega,q2⟩,.u (.one q5')⟩
def ByGood(x:Int):Prop:=0≤x∧x≤255
theorem opens_bys{t tB:Nat}(hu:P.underlying tB=some (.int .u8))(hc:P.cellsOf tB=1)(ht:P.underlying t=some (.slice tB)):Opens P t (fun l:List Int=>l.length≤maxLen∧∀s∈l,ByGood s) fun l=>.sl false 1 l.length (eU8.f l) :=
 opens_row (Good:=ByGood) eU8 ht hc (by decide) fun h=>by
  obtain⟨y,rfl,-,w⟩:=DataW.trod_int hu h
  refine⟨y,?_,.lit rfl .nil⟩
  have h0:IntKind.u8.min=0:=by decide
  have h1:IntKind.u8.max=255:=by decide
  simp only[Lit.wf,bAt,decide_eq_true_eq,h0,h1] at w
  exact w
end Evl.T
namespace Evl.T
open Go.RowKit Go.ChangeShapes Go.WideShapes
open Go Evl
section
variable {H:Type}{enc:TypeId×Value→H}{P:Program}{W:World}{base:Nat}{spare:Nat→Bool}{held:Bool}{K:Nat→Nat×Nat}
end
end Evl.T
