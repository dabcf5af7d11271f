
/- Texts that belong together,joined. No condition. -/
import Derived.Test.YtljcjahaeebocaaGreatJc
import Derived.Test.YtljcjahaeebocaaGreatJd
import Derived.Shelf.SlSortCmp.NoneTotal
import Derived.Shelf.SlBodiesN
import Derived.Shelf.SlGeneric
import Derived.Shelf.SlicesE.Kit
import Derived.Shelf.RegionOpenPlain
import Derived.WalkKit
import Derived.Deep.LoopGhost
import Derived.Deep.Draws
import Derived.Lib.Walk
import Derived.Sort.WalkB12
import Derived.Lib.SliceRun
import Derived.Lib.SlicesCompact
import Derived.Shelf.SlicesQ.Load
import Derived.Shelf.SlicesQ.Reverse
import Derived.Laws.BitsLemmas
import Derived.Shelf.Spec.SlicesGrow
import Derived.Laws.AppendOwn
namespace Evl
open Go
mutual
def nlk:AV→Bool
 | .sl o _ n cs=>if o then nlkL cs else (n==0&&cs.isEmpty)
 | .agg cs=>nlkL cs
 | .tup cs=>nlkL cs
 | .fnv _ cs=>nlkL cs
 | .nbx _=>false
 | .cptr _=>false
 | _=>true
def nlkL:List AV→Bool
 | []=>true
 | x::xs=>nlk x&&nlkL xs
end
variable {P:Program}{H:Hints}{fid:FuncId}{N:Nat}{w0 w w':World}{M:Nat→Prop}{V0 V V':Nat→Nat}{K K':Nat→Nat×Nat}{O O':Nat→Option Loc}{s:S}{a:Act}{fp:List Nat}{v:Value}
theorem Rep.still{m:Bool}{us:List Value}{cs:List AV}(h:Rep V w K m fp us cs)(hs:nlkL cs=true)(ho:∀g∈fp,w'.heap[g]?=w.heap[g]?∧V' g=V g):Rep V' w' K m fp us cs:=by
 induction h with
 | nil=>exact .nil
 | lit hp _ ih=>exact .lit hp (ih (by simpa [nlkL,nlk] using hs) ho)
 | nl _ ih=>exact .nl (ih (by simpa [nlkL,nlk] using hs) ho)
 | ns _ ih=>exact .ns (ih (by simpa [nlkL,nlk] using hs) ho)
 | on _ ih=>exact .on (ih (by simpa [nlkL,nlk] using hs) ho)
 | sh a vs h1 h2 h3 hin _ ih1 ih2 =>
  simp only[nlkL,nlk,Bool.false_eq_true,if_false,Bool.and_eq_true,beq_iff_eq,List.isEmpty_iff] at hs
  obtain⟨⟨h0,rfl⟩,hs⟩:=hs
  have hv:vs=[]:=by have:=hin.len;simpa using this
  subst hv
  exact .sh a [] h1 (.inl ⟨h0,rfl⟩) (by simp) .nil (ih2 hs ho)
 | ow g T arr fz vs h1 h2 h3 h4 h5 h6 h7 h8 hin _ ih1 ih2 =>
  simp only[nlkL,nlk,if_true,Bool.and_eq_true] at hs
  have hg:=ho g (by simp)
  exact .ow g T arr fz vs h1 (hg.1.trans h2) h3 h4 h5 h6 h7 (hg.2.trans h8) (ih1 hs.1 fun x hx=>ho x (by simp[hx])) (ih2 hs.2 fun x hx=>ho x (by simp[hx]))
 | ms b h0 h1 _ ih=>exact .ms b h0 h1 (ih (by simpa [nlkL,nlk] using hs) ho)
 | mv b h0 _ ih=>exact .mv b h0 (ih (by simpa [nlkL,nlk] using hs) ho)
 | bd u hu _ ih=>exact .bd u hu (ih (by simpa [nlkL,nlk] using hs) ho)
theorem RepP.still{x:AV}(h:RepP V w K v x)(hs:nlk x=true):RepP V' w' K v x:=by
 cases h with
 | ptr b off=>exact .ptr b off
 | cptr a vs h1 h2 h3 h4 h5=>simp[nlk] at hs
 | bad v=>exact .bad v
theorem RepPs.still{us xs}(h:RepPs V w K us xs):nlkL xs=true→RepPs V' w' K us xs:=by
 induction h with
 | nil=>intro _;exact .nil
 | cons a _ ih =>
  intro hs
  simp only[nlkL,Bool.and_eq_true] at hs
  exact .cons (a.still hs.1) (ih hs.2)
theorem RepU.still{x:AV}(h:RepU V w K fp v x)(hs:nlk x=true)(ho:∀g∈fp,w'.heap[g]?=w.heap[g]?∧V' g=V g):RepU V' w' K fp v x:=by
 cases h with
 | one h=>exact .one (h.still (by simp[nlkL,hs]) ho)
 | agg h=>exact .agg (h.still (by simpa [nlk] using hs) ho)
 | p h=>exact .p (h.still hs)
 | fnv h=>exact .fnv (h.still (by simpa [nlk] using hs))
theorem RepT.still{us xs}(h:RepT V w K fp us xs):nlkL xs=true→(∀g∈fp,w'.heap[g]?=w.heap[g]?∧V' g=V g)→RepT V' w' K fp us xs:=by
 induction h with
 | nil=>intro _ _;exact .nil
 | cons a _ ih =>
  intro hs ho
  simp only[nlkL,Bool.and_eq_true] at hs
  exact .cons (a.still hs.1 fun g hg=>ho g (by simp[hg])) (ih hs.2 fun g hg=>ho g (by simp[hg]))
theorem RepV.still{x:AV}(h:RepV V w K fp v x)(hs:nlk x=true)(ho:∀g∈fp,w'.heap[g]?=w.heap[g]?∧V' g=V g):RepV V' w' K fp v x:=by
 cases h with
 | u h=>exact .u (h.still hs ho)
 | tup h=>exact .tup (h.still (by simpa [nlk] using hs) ho)
theorem Rep.fp_lt{m:Bool}{us:List Value}{cs:List AV}(h:Rep V w K m fp us cs):∀g∈fp,g<w.heap.size:=by
 induction h with
 | nil=>intro g hg;cases hg
 | ow g T arr fz vs h1 h2 h3 h4 h5 h6 h7 h8 hin _ ih1 ih2 =>
  intro x hx
  rcases List.mem_cons.1 hx with rfl | hx
  ·exact(Array.getElem?_eq_some_iff.1 h2).1
  ·rcases List.mem_append.1 hx with hx | hx
   ·exact ih1 x hx
   ·exact ih2 x hx
 | lit _ _ ih=>exact ih
 | nl _ ih=>exact ih
 | ns _ ih=>exact ih
 | on _ ih=>exact ih
 | sh _ _ _ _ _ _ _ _ ih=>exact ih
 | ms _ _ _ _ ih=>exact ih
 | mv _ _ _ ih=>exact ih
 | bd _ _ _ ih=>exact ih
def TurnOk(P:Program)(f:FuncId)(mk:Value→Array Value)(T:AV)(r:Value)(T':AV):Prop :=
 ∀(V:Nat→Nat) (w:World) (K:Nat→Nat×Nat) (fp:List Nat) (u:Value),Rep V w K false fp [u] [T]→fp.Nodup→(∀g,0<V g→g<w.heap.size) →
  Calls P f (mk u) w fun e w'=>e=.returned r∧∃(V':Nat→Nat) (fp':List Nat),Fr w (fun g=>g∈fp) w'∧Rep V' w' K false fp' [u] [T']∧fp'.Nodup∧(∀g∈fp',g∈fp∨w.heap.size≤g) ∧
   (∀g,0<V' g→g<w'.heap.size)∧∀g,g<w.heap.size→g∉fp→V' g=V g
def setBx(b:Nat)(y:Box)(s:S):S:={ s with b:=fun k=>if k=b then some y else s.b k }
def nlkS (s:S):Prop:=(∀t,nlk (s.t t)=true)∧∀b x,s.b b=some x→nlkL x.cs=true
theorem set_mid{α:Type}(l1:List α)(x y:α)(l2:List α):(l1++x::l2).set l1.length y=l1++y::l2:=by
 induction l1 with
 | nil=>rfl
 | cons a l ih=>simp[ih]
theorem lend(R:RelG N w0 M V0 K V O s a w)(hz:∀g,(w0.heap.size≤g∨M g)→V0 g=0)(hn:nlkS s){b j:Nat}{x:Box}{T T':AV}{f:FuncId}{mk:Value→Array Value}{r:Value}
  (hb:s.b b=some x) (hj:x.cs[j]?=some T) (hT:TurnOk P f mk T r T') (hnT:∀b n,T≠.msl b n) :
  ∃u,(∀fb arr Ty fz us,BoxOk V w K b x fb arr Ty fz us→us[j]?=some u→True)∧w.cell? ⟨(K b).1,j,none⟩=some u ∧
   Calls P f (mk u) w fun e w'=>e=.returned r∧∃V' O',RelG N w0 M V0 K V' O' (setBx b { x with cs:=x.cs.set j T' } s) a w':=by
 have hjl:=(List.getElem?_eq_some_iff.1 hj).1
 obtain⟨fb,arr,Ty,fz,us,q1,q2,q3⟩:=R.bxr b x hb (.inr (.inl fun e=>by rw[e] at hjl;simp at hjl))
 have hsplit:x.cs=x.cs.take j++T::x.cs.drop (j+1):=by
  conv=>lhs;rw[←List.take_append_drop j x.cs,List.drop_eq_getElem_cons hjl]
  rw[show x.cs[j]=T by have:=(List.getElem?_eq_some_iff.1 hj).2;exact this]
 have hset:x.cs.set j T'=x.cs.take j++T'::x.cs.drop (j+1):=by
  conv=>lhs;rw[hsplit]
  have hl:(x.cs.take j).length=j:=by rw[List.length_take];omega
  have:=set_mid (x.cs.take j) T T' (x.cs.drop (j+1))
  rw[hl] at this;exact this
 have hrep:=q3.rep
 rw[hsplit] at hrep
 obtain⟨f1,f2',u1,u2',hfb,hus,r1,r2⟩:=Rep.split _ hrep
 obtain⟨f2,f3,u2,u3,rfl,rfl,r2,r3⟩:=Rep.split [T] r2
 obtain⟨u,rfl⟩:∃u,u2=[u]:=by
  match u2,r2.len with
  | [u],_=>exact⟨u,rfl⟩
 have hl1:u1.length=j:=by rw[r1.len,List.length_take];omega
 subst hfb;subst hus
 have hnall:=hn.2 b x hb
 have n1:nlkL (x.cs.take j)=true∧nlkL (x.cs.drop (j+1))=true:=by
  have app:∀l1 l2:List AV,nlkL (l1++l2)=true→nlkL l1=true∧nlkL l2=true:=by
   intro l1
   induction l1 with
   | nil=>intro l2 h;exact⟨rfl,h⟩
   | cons y l ih =>
    intro l2 h
    simp only[List.cons_append,nlkL,Bool.and_eq_true] at h ⊢
    exact⟨⟨h.1,(ih l2 h.2).1⟩,(ih l2 h.2).2⟩
  rw[hsplit] at hnall
  have:=app _ _ hnall
  refine⟨this.1,?_⟩
  have:=this.2
  simp only[nlkL,Bool.and_eq_true] at this
  exact this.2
 have hcell:w.cell? ⟨(K b).1,j,none⟩=some u:=q3.cell (by rw[List.getElem?_append_right (by omega)];simp[hl1])
 have r2d:Rep V w K false f2 [u] [T]:=r2.down (fun c hc b n=>by rw[List.mem_singleton.1 hc];exact hnT b n)
 simp only[List.nodup_cons,List.mem_append,not_or,List.nodup_append] at q1
 obtain⟨⟨k1,k2,k3⟩,d1,⟨d2,d3,d23⟩,d123⟩:=q1
 refine⟨u,fun _ _ _ _ _ _ _=>trivial,hcell,Calls.mono (hT V w K f2 u r2d d2 R.vr) fun e w' ⟨he,V',fp',hfr,hrep',hnd,hin,hvr,hvo⟩=>⟨he,?_⟩⟩
 have hold:∀g,O g=some (false,b)∨g∉f2→True:=fun _ _=>trivial
 have keep:∀g,g<w.heap.size→g∉f2→w'.heap[g]?=w.heap[g]?∧V' g=V g:=fun g h1 h2=>⟨hfr.old g h1 h2,hvo g h1 h2⟩
 have hf2O:∀g∈f2,O g=some (false,b):=fun g hg=>q2 g (by simp[hg])
 have hf2lt:∀g∈f2,g<w.heap.size:=r2.fp_lt
 have hf2z:∀g∈f2,V0 g=0:=fun g hg=>hz g (R.rg g _ (hf2O g hg)).1
 have own_keep:∀g l,O g=some l→l≠(false,b)→w'.heap[g]?=w.heap[g]?∧V' g=V g:=fun g l hg hl=>keep g (R.rg g l hg).2 fun hin=>hl (by rw[hf2O g hin] at hg;cases hg;rfl)
 have hnew:∀g l,O g=some l→g∈fp'→g∈f2:=fun g l hg hp=>by
  rcases hin g hp with h | h
  ·exact h
  ·have:=(R.rg g l hg).2;omega
 refine⟨V',fun g=>if g∈fp' then some (false,b) else if g∈f2 then none else O g,R.df,R.n,fun t=>?_,fun c y hc=>?_,fun g l hg=>?_,hvr,?_,?_,?_⟩
 ·obtain⟨fp,p1,p2,p3⟩:=R.tm t
  refine⟨fp,p1,fun g hg=>?_,p3.still (hn.1 t) fun g hg=>own_keep g _ (p2 g hg) (by simp)⟩
  have h2:g∉f2:=fun h=>by have:=hf2O g h;rw[p2 g hg] at this;cases this
  show (if g∈fp' then some (false,b) else if g∈f2 then none else O g)=some (true,t)
  rw[if_neg (fun h=>h2 (hnew g _ (p2 g hg) h)),if_neg h2];exact p2 g hg
 ·by_cases hcb:c=b
  ·subst hcb
   simp only[setBx,if_true,Option.some.injEq] at hc
   subst hc
   have kb:=keep (K c).1 (R.rg _ _ (q2 _ List.mem_cons_self)).2 k2
   have e1:∀g∈f1,w'.heap[g]?=w.heap[g]?∧V' g=V g:=fun g hg=>keep g (r1.fp_lt g hg) fun h=>d123 g hg g (.inl h) rfl
   have e3:∀g∈f3,w'.heap[g]?=w.heap[g]?∧V' g=V g:=fun g hg=>keep g (r3.fp_lt g hg) fun h=>d23 g h g hg rfl
   have old_or:∀g∈fp',∀h,h<w.heap.size→h∉f2→g≠h:=fun g hg h hl hn e=>by
    subst e
    rcases hin g hg with q | q
    ·exact hn q
    ·omega
   refine .inr ⟨f1++(fp'++f3),arr,Ty,fz,u1++([u]++u3),?_,fun g hg=>?_,?_⟩
   ·simp only[List.nodup_cons,List.mem_append,not_or,List.nodup_append]
    refine⟨⟨k1,fun h=>old_or _ h _ (R.rg _ _ (q2 _ List.mem_cons_self)).2 k2 rfl,k3⟩,d1,⟨hnd,d3,fun x hx y hy=>old_or x hx y (r3.fp_lt y hy) fun h=>d23 y h y hy rfl⟩,fun x hx y hy e=>?_⟩
    subst e
    rcases hy with hy | hy
    ·exact old_or x hy x (r1.fp_lt x hx) (fun h=>d123 x hx x (.inl h) rfl) rfl
    ·exact d123 x hx x (.inr hy) rfl
   ·show (if g∈fp' then some (false,c) else if g∈f2 then none else O g)=some (false,c)
    by_cases h1:g∈fp'
    ·rw[if_pos h1]
    ·rw[if_neg h1]
     have hg2:g∉f2:=by
      simp only[List.mem_cons,List.mem_append] at hg
      rcases hg with rfl | hg | hg | hg
      ·exact k2
      ·exact fun h=>d123 g hg g (.inl h) rfl
      ·exact absurd hg h1
      ·exact fun h=>d23 g h g hg rfl
     rw[if_neg hg2]
     refine q2 g ?_
     simp only[List.mem_cons,List.mem_append] at hg ⊢
     rcases hg with hg | hg | hg | hg
     ·exact .inl hg
     ·exact .inr (.inl hg)
     ·exact absurd hg h1
     ·exact .inr (.inr (.inr hg))
   ·refine⟨kb.1.trans q3.hp,q3.th,q3.pre,?_,?_,q3.var,q3.row⟩
    ·show Rep V' w' K (x.sz==0) _ _ (x.cs.set j T')
     rw[hset]
     exact(r1.still n1.1 e1).app ((hrep'.up _ (fun e=>by cases e)).app (r3.still n1.2 e3))
    ·show V' (K c).1=if x.st=true then 0 else (x.cs.set j T').length
     rw[kb.2,List.length_set];exact q3.vis
  ·have hcs:s.b c=some y:=by simpa [setBx,hcb] using hc
   rcases R.bx c y hcs with h | ⟨gb,arr2,T2,fz2,us2,p1,p2,p3⟩
   ·exact .inl h
   ·have hkk:∀g∈(K c).1::gb,w'.heap[g]?=w.heap[g]?∧V' g=V g:=fun g hg=>own_keep g _ (p2 g hg) (by simp[hcb])
    refine .inr ⟨gb,arr2,T2,fz2,us2,p1,fun g hg=>?_,⟨(hkk _ List.mem_cons_self).1.trans p3.hp,p3.th,p3.pre,p3.rep.still (hn.2 c y hcs) fun g hg=>hkk g (by simp[hg]),by rw[(hkk _ List.mem_cons_self).2];exact p3.vis,p3.var,p3.row⟩⟩
    have h2:g∉f2:=fun h=>by have:=hf2O g h;rw[p2 g hg] at this;cases this;exact hcb rfl
    show (if g∈fp' then some (false,b) else if g∈f2 then none else O g)=some (false,c)
    rw[if_neg (fun h=>h2 (hnew g _ (p2 g hg) h)),if_neg h2];exact p2 g hg
 ·split at hg
  ·rename_i hp
   refine⟨?_,hrep'.fp_lt g hp⟩
   rcases hin g hp with h | h
   ·exact(R.rg g _ (hf2O g h)).1
   ·have:=R.fr.sz;exact .inl (by omega)
  ·split at hg
   ·cases hg
   ·exact⟨(R.rg g l hg).1,Nat.lt_of_lt_of_le (R.rg g l hg).2 hfr.sz⟩
 ·exact⟨hfr.os.trans R.fr.os,hfr.tape.trans R.fr.tape,hfr.output.trans R.fr.output,Nat.le_trans R.fr.sz hfr.sz,fun g hg hM=>by
   have h2:g∉f2:=fun h=>by
    rcases(R.rg g _ (hf2O g h)).1 with h' | h'
    ·omega
    ·exact hM h'
   rw[hfr.old g (Nat.lt_of_lt_of_le hg R.fr.sz) h2];exact R.fr.old g hg hM,Nat.le_trans R.fr.dr hfr.dr⟩
 ·refine⟨fun g off ho=>?_,fun g=>?_,Nat.le_trans R.nx.sz hfr.sz⟩
  ·rw[←R.nx.cell g off ho]
   have h2:g∉f2:=fun h=>by rw[hf2z g h] at ho;omega
   have hlt:g<w.heap.size:=R.vr g (by have:=R.nx.le g;omega)
   have:=hfr.old g hlt h2
   simp only[World.cell?,this]
  ·by_cases h0:V0 g=0
   ·omega
   ·have h2:g∉f2:=fun h=>h0 (hf2z g h)
    have hlt:g<w.heap.size:=R.vr g (by have:=R.nx.le g;omega)
    rw[hvo g hlt h2];exact R.nx.le g
 ·intro g hg hM
  have h2:g∉f2:=fun h=>by
   rcases(R.rg g _ (hf2O g h)).1 with h' | h'
   ·omega
   ·exact hM h'
  rw[hvo g (Nat.lt_of_lt_of_le hg R.fr.sz) h2];exact R.vo g hg hM
end Evl
namespace Evl
open Go
variable {P:Program}{H:Hints}{fid:FuncId}{N:Nat}{w0 w w':World}{M:Nat→Prop}{V0 V V':Nat→Nat}{K K':Nat→Nat×Nat}{O O':Nat→Option Loc}{s:S}{a:Act}{fp:List Nat}{v:Value}{G:GP}
variable {ops:Array Oper}{Q:Exit→Act→World→Prop}
theorem wpOps_val{i:Nat}{rest:List Nat}{o:Oper}(ho:ops[i]?=some o)(hg:o.guard=none)(hr:(execOp a.eval o).run P w=.ok (.value v) w')(h:wpOps P ops Q rest (a.put o.dst v) w'):wpOps P ops Q (i::rest) a w:=by
 rw[wpOps_cons]
 unfold wpOp
 rw[ho]
 have hw:Region.wanted o (yielded ops a.tmps)=true:=by unfold Region.wanted;rw[hg]
 simp only[hw,if_true]
 refine .inl ?_
 unfold Oper.wp
 rw[hr];exact h
theorem wpOps_call{i:Nat}{rest:List Nat}{o:Oper}{f:FuncId}{args:Array Value}(ho:ops[i]?=some o)(hg:o.guard=none)(hr:(execOp a.eval o).run P w=.ok (.enter f args) w)
  (h:Calls P f args w fun e w'=>∃v,e=.returned v∧wpOps P ops Q rest (a.put o.dst v) w'):wpOps P ops Q (i::rest) a w:=by
 rw[wpOps_cons]
 unfold wpOp
 rw[ho]
 have hw:Region.wanted o (yielded ops a.tmps)=true:=by unfold Region.wanted;rw[hg]
 simp only[hw,if_true]
 refine .inl ?_
 unfold Oper.wp
 rw[hr]
 simp only[Oper.upon]
 refine Calls.mono h fun e w' ⟨v,he,hq⟩=>?_
 subst he;exact hq
def botS:S:=⟨fun _=>.bad,fun _=>none⟩
theorem relBot(hd:a.defers=[]):RelG a.tmps.size w (fun _=>True) (fun _=>0) (fun _=>(0,0)) (fun _=>0) (fun _=>none) botS a w :=
 ⟨hd,rfl,fun _=>⟨[],List.nodup_nil,by simp,.bad _⟩,fun _ _ h=>(by cases h),fun _ _ h=>(by cases h),fun _ h=>absurd h (Nat.lt_irrefl 0),⟨rfl,rfl,rfl,Nat.le_refl _,fun _ _ h=>absurd trivial h,Nat.le_refl _⟩,Next.refl _ _,fun _ _ h=>absurd trivial h⟩
theorem call_run {o : Oper} {f : FuncId} {xs : List Operand} (hd : a.defers = []) (h : calleeOf o botS = some (f, xs, [])) {fn : Func} {c : Code} (hf : P.funcs[f]? = some fn) (hb : fn.body = some c) (hn : (fn.name == "runtime.NumGoroutine") = false) :
  (execOp a.eval o).run P w=.ok (.enter f (xs.map a.eval).toArray) w:=by
 obtain⟨cvs,h1,h2⟩:=calleeOf_run (relBot (w:=w) hd) h hf hb hn
 cases h1
 simpa using h2
def stT (i:Nat)(x:AV)(s:S):S:={ s with t:=fun k=>if k=i then x else s.t k }
theorem killBox_nil(x:Box):killBox [] x=x:=by
 cases x;simp only[killBox,killAllL];split <;> rfl
theorem apply_stT(d:Nat)(x:AV)(s:S):(({ val:=x }:Eff).apply (some d) s)=stT d x s:=by
 have ht:∀i,((({ val:=x }:Eff).apply (some d) s)).t i=(stT d x s).t i:=fun i=>by
  simp only[Eff.apply,stT,lookup,killAll,Option.some.injEq]
  by_cases e:i=d
  ·subst e;simp
  ·rw[if_neg (fun h=>e h.symm),if_neg e]
 have hb:∀i,((({ val:=x }:Eff).apply (some d) s)).b i=(stT d x s).b i:=fun i=>by
  simp only[Eff.apply,stT,lookup,List.not_mem_nil,if_false]
  cases s.b i with
  | none=>rfl
  | some z=>simp only[Option.map_some,killBox_nil]
 cases h1:({ val:=x }:Eff).apply (some d) s with
 | mk t b =>
  cases h2:stT d x s with
  | mk t' b' =>
   have e1:t=t':=funext fun i=>by have:=ht i;rw[h1,h2] at this;exact this
   have e2:b=b':=funext fun i=>by have:=hb i;rw[h1,h2] at this;exact this
   rw[e1,e2]
theorem RelG.stT(R:RelG N w0 M V0 K V O s a w)(d:Nat)(hd:d<N)(x:AV)(v:Value)(h:RepV V w K [] v x):∃O',RelG N w0 M V0 K V O' (stT d x s) (a.put (some d) v) w:=by
 obtain⟨O',h'⟩:=R.pure (some d) v x [] (fun d' e=>by cases e;exact hd) h
 rw[show (({ val:=x,rd:=[] }:Eff).apply (some d) s)=Evl.stT d x s from apply_stT d x s] at h'
 exact⟨O',h'⟩
theorem eval_put_same{d:Nat}(hd:d<a.tmps.size)(v:Value):(a.put (some d) v).eval (.tmp d)=v:=getD_put_same a d v hd
theorem eval_put_other{d t:Nat}(h:d≠t)(v:Value):(a.put (some d) v).eval (.tmp t)=a.eval (.tmp t):=getD_put a (some d) v t (fun e=>h (by cases e;rfl))
structure MarkOps(P:Program)(ops:Array Oper)(p:Nat)(f:FuncId)(tL:TypeId)(xa xk:Operand)(dl dk dr da:Nat):Prop where
 sz:ops.size=p+4
 o0:∃o,ops[p]?=some o∧o.dst=some dl∧o.op=.load tL xa∧o.guard=none
 o1:∃o,ops[p+1]?=some o∧o.dst=some dk∧o.op=.move xk∧o.guard=none
 o2:∃o,ops[p+2]?=some o∧o.dst=some dr∧calleeOf o botS=some (f,[.tmp dl,.tmp dk],[])∧o.guard=none
 o3:∃o,ops[p+3]?=some o∧o.dst=some da∧o.op=.assign (.tmp dr)∧o.guard=none
 fn : ∃ fn c, P.funcs[f]? = some fn ∧ fn.body = some c ∧ (fn.name == "runtime.NumGoroutine") = false
 ne:dl≠dk∧xk≠.tmp dl
def markS(b j:Nat)(x:Box)(T':AV)(kv rv:Value)(dl dk dr da:Nat)(s:S):S :=
 stT da (.lit rv) (stT dr (.lit rv) (setBx b { x with cs:=x.cs.set j T' } (stT dk (.lit kv) (stT dl .bad s))))
theorem mc_mark(hG:∀M V0 w0,G M V0 w0→∀g,(w0.heap.size≤g∨M g)→V0 g=0){id p f tL dl dk dr da b j:Nat}{xa xk:Operand}(m:MarkOps P ops p f tL xa xk dl dk dr da)
  {s s1:S} {lg:List LogE} (hch:Chain P G ops s lg s1) (hlg:lg.map (·.i)=List.range p) (hdst:∀x∈lg,x.dst=(ops[x.i]?).bind (·.dst))
  {x:Box} {T T':AV} {kv rv:Value} {mk:Value→Array Value} {ld:Value→Value} (hk:s1.ev xk=.lit kv) (hb:s1.b b=some x) (hj:x.cs[j]?=some T) (hn:nlkS s1) (hnT:∀b n,T≠.msl b n)
  (hT:TurnOk P f mk T rv T') (hmk:∀u,mk u=#[ld u,kv]) (hrv:plain rv=true)
  (hld:∀{N w0 M V0 K V O a w},RelG N w0 M V0 K V O s1 a w→∀u,w.cell? ⟨(K b).1,j,none⟩=some u→∀o:Oper,o.op=.load tL xa→(execOp a.eval o).run P w=.ok (.value (ld u)) w) :
  MC P G (.region id ops false) s .nor (markS b j x T' kv rv dl dk dr da s1):=by
 intro N w0 M V0 V K O a w hg hok R Q hQ
 refine wp_region ?_
 obtain⟨o0,i0,d0,p0,g0⟩:=m.o0
 obtain⟨o1,i1,d1,p1,g1⟩:=m.o1
 obtain⟨o2,i2,d2,p2,g2⟩:=m.o2
 obtain⟨o3,i3,d3,p3,g3⟩:=m.o3
 obtain⟨fn,c,hf,hbd,hnm⟩:=m.fn
 have hN:∀(i:Nat) (o:Oper) (d:Nat),ops[i]?=some o→o.dst=some d→d<N:=fun i o d h e=>by
  simp only[codeOk,opsOk,Array.all_eq_true_iff_forall_mem] at hok
  have:=hok o (Array.mem_of_getElem? h)
  rw[e] at this;simpa using this
 have hr:List.range ops.size=lg.map (·.i)++[p,p+1,p+2,p+3]:=by
  rw[hlg,m.sz,show p+4=p+1+1+1+1 from rfl,List.range_succ,List.range_succ,List.range_succ,List.range_succ];simp
 rw[hr]
 have ahead:∀{s lg s1} (_:Chain P G ops s lg s1) (_:∀x∈lg,x.dst=(ops[x.i]?).bind (·.dst)) {V K O a w},RelG N w0 M V0 K V O s a w→∀(rest:List Nat),(∀a' w' K' V' O',RelG N w0 M V0 K' V' O' s1 a' w'→(∀b,1000≤b→K' b=K b)→wpOps P ops Q rest a' w')→wpOps P ops Q (lg.map (·.i)++rest) a w:=by
  intro s lg s1 h
  induction h with
  | nil s=>intro _ V K O a w R rest hq;exact hq a w K V O R fun _ _=>rfl
  | cons s x lg s2 he _ ih =>
   intro hdst V K O a w R rest hq
   simp only[List.map_cons,List.cons_append,wpOps_cons]
   refine he N w0 M V0 V K O s a w hg R ⟨fun _ _=>rfl,fun _ _=>rfl⟩ (fun d hd=>?_) Q _ fun a' w' K' V' O' R' hK=>ih (fun y hy=>hdst y (by simp[hy])) R' rest fun a'' w'' K'' V'' O'' R'' hK''=>hq _ _ _ _ _ R'' fun b hb=>(hK'' b hb).trans (hK b hb)
   have:=hdst x (by simp)
   rw[hd] at this
   cases ho:ops[x.i]? with
   | none=>rw[ho] at this;cases this
   | some o=>rw[ho] at this;exact hN _ o d ho (by simpa using this.symm)
 refine ahead hch hdst R _ fun a1 w1 K1 V1 O1 R1 hK1=>?_
 obtain⟨u,-,hcell,-⟩:=lend R1 (hG _ _ _ hg) hn hb hj hT hnT
 have hdl:=hN _ _ _ i0 d0
 have hdk:=hN _ _ _ i1 d1
 have hdr:=hN _ _ _ i2 d2
 have hda:=hN _ _ _ i3 d3
 have hN1:=R1.n
 refine wpOps_val i0 g0 (hld R1 u hcell o0 p0) ?_
 rw[d0]
 obtain⟨O2,R2⟩:=R1.stT dl hdl .bad (ld u) (.bad _)
 have hkv2:(a1.put (some dl) (ld u)).eval xk=kv∧plainX kv=true:=by
  have hev:(stT dl .bad s1).ev xk=.lit kv:=by
   rw[←hk]
   cases xk with
   | tmp t =>
    have:t≠dl:=fun e=>m.ne.2 (by rw[e])
    simp[S.ev,stT,this]
   | _=>rfl
  obtain⟨f1,_,_,_,h1⟩:=R2.ev xk
  rw[hev] at h1
  exact⟨(inv_lit h1).1,(inv_lit h1).2.2⟩
 refine wpOps_val i1 g1 (v:=kv) (w':=w1) (by simp[execOp,p1,hkv2.1]) ?_
 rw[d1]
 obtain⟨O3,R3⟩:=R2.stT dk hdk (.lit kv) kv (.litX hkv2.2)
 have hn3:nlkS (stT dk (.lit kv) (stT dl .bad s1)):=⟨fun t=>by
  simp only[stT]
  split
  ·rfl
  ·split
   ·rfl
   ·exact hn.1 t,hn.2⟩
 obtain⟨u3,-,hcell3,hcall⟩:=lend R3 (hG _ _ _ hg) hn3 (b:=b) (x:=x) hb hj hT hnT
 have hu:u3=u:=by rw[hcell] at hcell3;exact(Option.some.inj hcell3).symm
 subst hu
 have hargs:([.tmp dl,.tmp dk]:List Operand).map ((a1.put (some dl) (ld u3)).put (some dk) kv).eval=[ld u3,kv]:=by
  simp only[List.map_cons,List.map_nil]
  rw[eval_put_same (by rw[put_size,hN1];exact hdk),eval_put_other (Ne.symm m.ne.1),eval_put_same (by rw[hN1];exact hdl)]
 refine wpOps_call i2 g2 (f:=f) (args:=#[ld u3,kv]) (by rw[call_run R3.df p2 hf hbd hnm,hargs]) ?_
 rw[hmk] at hcall
 refine Calls.mono hcall fun e w2 ⟨he,V4,O4,R4⟩=>⟨rv,he,?_⟩
 rw[d2]
 obtain⟨O5,R5⟩:=R4.stT dr hdr (.lit rv) rv (.lit hrv)
 have hsz5:dr<((a1.put (some dl) (ld u3)).put (some dk) kv).tmps.size:=by rw[put_size,put_size,hN1];exact hdr
 refine wpOps_val i3 g3 (v:=rv) (w':=w2) (by simp only[execOp,p3,eval_put_same hsz5];rfl) ?_
 rw[d3]
 obtain⟨O6,R6⟩:=R5.stT da hda (.lit rv) rv (.lit hrv)
 exact hQ _ _ _ _ _ R6 hK1
end Evl
namespace Evl
open Go
variable {P:Program}{w w':World}{V V':Nat→Nat}{a:Act}{v:Value}
end Evl
namespace Evl
open Go
variable {P:Program}{N:Nat}{w0 w w':World}{M:Nat→Prop}{V0 V V':Nat→Nat}{K K':Nat→Nat×Nat}{O O':Nat→Option Loc}{s:S}{a:Act}{fp:List Nat}{v:Value}{G:GP}
variable {ops:Array Oper}{Q:Exit→Act→World→Prop}
end Evl
namespace Evl
open Go
variable {P:Program}{H:Hints}{Y:FuncId→List AV→(Nat→Option Box)→AV→(Nat→Option Box)→Prop}{fid:FuncId}{G:GP}
def withMarks(H:Hints)(P:Program)(fl:FuncId→Bool)(iv:(Nat→Nat)→World→Prop):Hints :=
 { H with fl:=fl,iv:=iv,zc:=fun fid c s s'=>MC P (fun M V0 w0=>iv V0 w0∧(fl fid=true→∀g,(w0.heap.size≤g∨M g)→V0 g=0)) c s .nor s' }
theorem zc_to{H:Hints}{fl:FuncId→Bool}{iv:(Nat→Nat)→World→Prop}{c:Code}{s s':S}(h:(withMarks H P fl iv).zc fid c s s'):MC P (Gd (withMarks H P fl iv) fid) c s .nor s':=h
def notTmp(d:Nat):Operand→Bool
 | .tmp t=>t != d
 | _=>true
theorem notTmp_ne{d:Nat}{x:Operand}(h:notTmp d x=true):x≠.tmp d:=by
 intro e;subst e;simp[notTmp] at h
def markOf(ops:Array Oper)(p:Nat):Option (TypeId×Operand×Operand×FuncId×Nat×Nat×Nat×Nat) :=
 match ops[p]?,ops[p+1]?,ops[p+2]?,ops[p+3]? with
 | some o0,some o1,some o2,some o3 =>
  match o0.op,o0.dst,o0.guard,o1.op,o1.dst,o1.guard with
  | .load tL xa,some dl,none,.move xk,some dk,none =>
   match calleeOf o2 botS,o2.dst,o2.guard,o3.op,o3.dst,o3.guard with
   | some (f,[.tmp a,.tmp b],[]),some dr,none,.assign (.tmp r),some da,none =>
    if ops.size=p+4∧a=dl∧b=dk∧r=dr∧dl≠dk∧notTmp dl xk=true then some (tL,xa,xk,f,dl,dk,dr,da) else none
   | _,_,_,_,_,_=>none
  | _,_,_,_,_,_=>none
 | _,_,_,_=>none
def isFn (P:Program)(f:FuncId):Bool:=match P.funcs[f]? with
 | some fn => fn.body.isSome && !(fn.name == "runtime.NumGoroutine")
 | none=>false
theorem isFn_of {f : FuncId} (h : isFn P f = true) : ∃ fn c, P.funcs[f]? = some fn ∧ fn.body = some c ∧ (fn.name == "runtime.NumGoroutine") = false := by
 unfold isFn at h
 split at h
 ·rename_i fn hf
  simp only[Bool.and_eq_true,Bool.not_eq_true'] at h
  obtain⟨c,hc⟩:=Option.isSome_iff_exists.1 h.1
  exact⟨fn,c,hf,hc,h.2⟩
 ·cases h
theorem markOf_ok{ops:Array Oper}{p f dl dk dr da:Nat}{tL:TypeId}{xa xk:Operand}(h:markOf ops p=some (tL,xa,xk,f,dl,dk,dr,da))(hf:isFn P f=true):MarkOps P ops p f tL xa xk dl dk dr da:=by
 unfold markOf at h
 split at h
 ·rename_i o0 o1 o2 o3 h0 h1 h2 h3
  split at h
  ·rename_i q0 q1 q2 q3 q4 q5
   split at h
   ·rename_i r0 r1 r2 r3 r4 r5
    simp only[Option.ite_none_right_eq_some,Option.some.injEq,Prod.mk.injEq] at h
    obtain⟨⟨z,rfl,rfl,rfl,n1,n2⟩,rfl,rfl,rfl,rfl,rfl,rfl,rfl,rfl⟩:=h
    exact⟨z,⟨o0,h0,q1,q0,q2⟩,⟨o1,h1,q4,q3,q5⟩,⟨o2,h2,r1,r0,r2⟩,⟨o3,h3,r4,r3,r5⟩,isFn_of hf,n1,notTmp_ne n2⟩
   ·cases h
  ·cases h
 ·cases h
theorem L.toS_t(l:L)(i:Nat):l.toS.t i=(match lookup i l.ts with | some v=>v | none=>.bad):=rfl
theorem L.toS_b(l:L)(i:Nat):l.toS.b i=lookup i l.bs:=rfl
theorem x_zone{k:List Td}{Q:X→L→Prop}{l u:L}{c:Code}{s':S}(hr:Code.isRegion false c=true)(hz:H.zc fid c l.toS s')(hs:WkS s' u.toS)(hw:Wk P H Y fid k Q u):Wk P H Y fid (.code c::k) Q l:=by
 refine⟨?_⟩
 cases c <;> simp[Code.isRegion] at hr
 subst hr
 exact⟨.nor,u,.wke (.zreg hz) hs,hw.out⟩
theorem stT_same(d:Nat)(x:AV)(s:S):(stT d x s).t d=x:=if_pos rfl
theorem stT_ne{d i:Nat}(x:AV)(s:S)(h:i≠d):(stT d x s).t i=s.t i:=if_neg h
end Evl
namespace Evl.T
open Go Evl
variable {P:Program}{H:Hints}{Y:FuncId→List AV→(Nat→Option Box)→AV→(Nat→Option Box)→Prop}{fid:FuncId}
end Evl.T
namespace Evl
open Go
section
variable {P:Program}{N:Nat}{w0 w w':World}{M:Nat→Prop}{V0 V V':Nat→Nat}{K K':Nat→Nat×Nat}{O O':Nat→Option Loc}{s:S}{a:Act}{fp:List Nat}{v:Value}{G:GP}
variable {ops:Array Oper}{Q:Exit→Act→World→Prop}
end
variable {P:Program}{H:Hints}{Y:FuncId→List AV→(Nat→Option Box)→AV→(Nat→Option Box)→Prop}{fid:FuncId}
end Evl
namespace Evl.T
open Go Evl
end Evl.T
namespace Evl
open Go
def flv {α:Type}(enc:α→List Value)(l:List α):List AV:=(l.flatMap enc).map AV.lit
theorem flat_len{α:Type}{enc:α→List Value}{k:Nat}(hk:∀x,(enc x).length=k):∀l:List α,(l.flatMap enc).length=l.length*k
 | []=>by simp
 | x::l=>by rw[List.flatMap_cons,List.length_append,hk,flat_len hk l,List.length_cons,Nat.add_mul];omega
section
variable {α:Type} [Inhabited α]{enc:α→List Value}{k:Nat}
theorem flat_get(hk:∀x,(enc x).length=k):∀(l:List α) (t:Nat),t<l.length*k→(l.flatMap enc)[t]?=some ((enc (l.toArray[t / k]!))[t % k]!)
 | [],t,h=>by simp at h
 | x::l,t,h=>by
  have k0:0<k:=Nat.pos_of_ne_zero fun e=>by subst e;simp at h
  rw[List.flatMap_cons]
  by_cases ht:t<k
  ·rw[List.getElem?_append_left (by rw[hk];exact ht),Nat.div_eq_of_lt ht,Nat.mod_eq_of_lt ht]
   have:t<(enc x).length:=by rw[hk];exact ht
   simp[this]
  ·have ht':k≤t:=by omega
   rw[List.length_cons,Nat.add_mul,Nat.one_mul] at h
   rw[List.getElem?_append_right (by rw[hk];exact ht'),hk,flat_get hk l (t-k) (by omega)]
   have e1:(t-k) % k=t % k:=(Nat.mod_eq_sub_mod ht').symm
   have e2:t / k=(t-k) / k+1:=Nat.div_eq_sub_div k0 ht'
   rw[e1,e2]
   simp
theorem flatK_get(hk:∀x,(enc x).length=k)(l:List α)(t:Nat)(h:t<l.length*k):(l.flatMap enc)[t]?=some ((Go.Sort.flatK enc k l.toArray)[t]!):=by
 rw[flat_get hk l t h,Go.Sort.get_flatK enc k l.toArray t (by simpa using h)]
end
theorem rep_litv{V:Nat→Nat}{w:World}{K:Nat→Nat×Nat}{m:Bool}:∀(l:List Value) {fp:List Nat} {us:List Value},Rep V w K m fp us (l.map AV.lit)→us=l∧fp=[]
 | [],_,_,h=>by cases h;exact⟨rfl,rfl⟩
 | x::l,_,_,h=>by
  cases h with
  | lit _ h=>obtain⟨rfl,rfl⟩:=rep_litv l h;exact⟨rfl,rfl⟩
theorem litv_rep{V:Nat→Nat}{w:World}{K:Nat→Nat×Nat}{m:Bool}:∀(l:List Value),(∀v∈l,plain v=true)→Rep V w K m [] l (l.map AV.lit)
 | [],_=>.nil
 | x::l,h=>.lit (plain_X (h x List.mem_cons_self)) (litv_rep l fun v hv=>h v (List.mem_cons_of_mem _ hv))
theorem row_world{w:World}{g:Nat}{arr:Array Value}{T:TypeId}{fz:Nat×Nat}(F:Array Value)(q:Nat)(os:Array Obj)(h:w.heap[g]?=some (.cells arr T fz)) :
  (Go.Sort.grow (Go.Sort.putRow id (Go.Sort.ahead w q) g 0 F) os).heap[g]?=some (.cells (Go.Sort.putCells id 0 F arr) T fz) ∧
  (∀x,x<w.heap.size→x≠g→(Go.Sort.grow (Go.Sort.putRow id (Go.Sort.ahead w q) g 0 F) os).heap[x]?=w.heap[x]?)∧w.heap.size≤(Go.Sort.grow (Go.Sort.putRow id (Go.Sort.ahead w q) g 0 F) os).heap.size:=by
 have hg:g<w.heap.size:=(Array.getElem?_eq_some_iff.1 h).1
 have hsz:(w.heap.modify g (Go.Sort.onCells (Go.Sort.putCells id 0 F))).size=w.heap.size:=Array.size_modify
 refine⟨?_,fun x hx hne=>?_,?_⟩
 ·show ((w.heap.modify g (Go.Sort.onCells (Go.Sort.putCells id 0 F)))++os)[g]?=_
  rw[Array.getElem?_append_left (by rw[hsz];exact hg),Array.getElem?_modify,if_pos rfl,h];rfl
 ·show ((w.heap.modify g (Go.Sort.onCells (Go.Sort.putCells id 0 F)))++os)[x]?=_
  rw[Array.getElem?_append_left (by rw[hsz];exact hx),Array.getElem?_modify,if_neg (Ne.symm hne)]
 ·show w.heap.size≤((w.heap.modify g (Go.Sort.onCells (Go.Sort.putCells id 0 F)))++os).size
  rw[Array.size_append,hsz];omega
theorem putCells_size(F arr:Array Value):(Go.Sort.putCells id 0 F arr).size=arr.size:=by simp[Go.Sort.putCells]
theorem putCells_get(F arr:Array Value)(j:Nat)(hj:j<F.size)(ha:F.size≤arr.size):(Go.Sort.putCells id 0 F arr)[j]?=some F[j]!:=by
 simp only[Go.Sort.putCells,Array.getElem?_mapIdx]
 rw[Array.getElem?_eq_getElem (by omega),Option.map_some,if_pos ⟨Nat.zero_le _,by omega⟩]
 rfl
theorem thawed_at{w:World}{g:Nat}{arr:Array Value}{T:TypeId}{fz:Nat×Nat}(h:w.heap[g]?=some (.cells arr T fz))(ht:thawed arr fz){j:Nat}(hj:j<arr.size):w.frozen? ⟨g,j,none⟩=false:=by
 have:=ht.not j hj
 simp only[World.frozen?,h]
 rw[Bool.eq_false_iff,ne_eq,Bool.and_eq_true,decide_eq_true_eq,decide_eq_true_eq]
 exact this
section
variable {P:Program}{α:Type} [Inhabited α]{enc:α→List Value}{k:Nat}
theorem holds_of{w:World}{g:Nat}{arr:Array Value}{T:TypeId}{fz:Nat×Nat}(hk:∀x,(enc x).length=k)(l:List α)(h:w.heap[g]?=some (.cells arr T fz))(ht:thawed arr fz)(hl:l.length*k≤arr.size)
  (hp:∀(j:Nat) (v:Value),(l.flatMap enc)[j]?=some v→arr[j]?=some v):Go.Sort.HoldsK enc k w g 0 l.toArray:=by
 intro j hj
 have hj':j<l.length*k:=by simpa using hj
 refine⟨?_,?_⟩
 ·have:=hp j _ (flatK_get hk l j hj')
  simp only[World.cell?,h,Nat.zero_add]
  exact this
 ·rw[Nat.zero_add];exact thawed_at h ht (by omega)
end
end Evl
namespace Evl
open Go
section
variable {P:Program}{N:Nat}{w0 w w':World}{M:Nat→Prop}{V0 V V':Nat→Nat}{K K':Nat→Nat×Nat}{O O':Nat→Option Loc}{s:S}{a:Act}{fp:List Nat}{v:Value}{G:GP}
variable {ops:Array Oper}{Q:Exit→Act→World→Prop}
theorem rel_gone(R:RelG N w0 M V0 K V O s a w)(d:Nat)(hd:d<N)(v:Value):RelG N w0 M V0 K V (fun g=>if O g=some (true,d) then none else O g) (Evl.stT d .bad s) (a.put (some d) v) w where
 df:=by rw[put_defers];exact R.df
 n:=by rw[put_size];exact R.n
 tm t:=by
  by_cases htd:t=d
  ·subst htd
   refine⟨[],List.nodup_nil,by simp,?_⟩
   rw[stT_same];exact .bad _
  ·obtain⟨fp,p1,p2,p3⟩:=R.tm t
   refine⟨fp,p1,fun g hg=>?_,?_⟩
   ·show (if O g=some (true,d) then none else O g)=_
    rw[p2 g hg,if_neg (fun e=>htd (by cases e;rfl))]
   ·rw[getD_put a (some d) v t (fun e=>htd (by cases e;rfl)),stT_ne _ _ htd];exact p3
 bx c x hc:=by
  rcases R.bx c x hc with h | ⟨gb,arr2,T2,fz2,us2,p1,p2,p3⟩
  ·exact .inl h
  ·refine .inr ⟨gb,arr2,T2,fz2,us2,p1,fun g hg=>?_,p3⟩
   show (if O g=some (true,d) then none else O g)=_
   rw[p2 g hg,if_neg (fun e=>by cases e)]
 rg g l hg:=by
  split at hg
  ·cases hg
  ·exact R.rg g l hg
 vr:=R.vr
 fr:=R.fr
 nx:=R.nx
 vo:=R.vo
def dropS(b d:Nat)(T:AV)(s:S):S where
 t:=fun i=>if i=d then T else s.t i
 b:=fun k=>if k=b then none else s.b k
theorem rel_take(R:RelG N w0 M V0 K V O s a w)(hz:∀g,(w0.heap.size≤g∨M g)→V0 g=0)(hn:nlkS s){b d:Nat}(hd:d<N){T:AV}{u:Value}{f2 fp':List Nat}
  (hf2O:∀g∈f2,O g=some (false,b)) (hfr:Fr w (fun g=>g∈f2) w') (hvo:∀g,g<w.heap.size→g∉f2→V' g=V g) (hvr:∀g,0<V' g→g<w'.heap.size)
  (hin:∀g∈fp',g∈f2∨w.heap.size≤g) (hnd:fp'.Nodup) (hrep:Rep V' w' K false fp' [u] [T]) :
  ∃O',RelG N w0 M V0 K V' O' (dropS b d T s) (a.put (some d) u) w':=by
 have hf2z:∀g∈f2,V0 g=0:=fun g hg=>hz g (R.rg g _ (hf2O g hg)).1
 have hlt:∀g∈fp',g<w'.heap.size:=fun g hg=>hrep.fp_lt g hg
 have keep:∀g,g<w.heap.size→g∉f2→w'.heap[g]?=w.heap[g]?∧V' g=V g:=fun g h1 h2=>⟨hfr.old g h1 h2,hvo g h1 h2⟩
 have own_keep:∀g l,O g=some l→l≠(false,b)→w'.heap[g]?=w.heap[g]?∧V' g=V g:=fun g l hg hl=>keep g (R.rg g l hg).2 fun hin=>hl (by rw[hf2O g hin] at hg;cases hg;rfl)
 have hnew:∀g l,O g=some l→g∈fp'→g∈f2:=fun g l hg hp=>by
  rcases hin g hp with h | h
  ·exact h
  ·have:=(R.rg g l hg).2;omega
 refine⟨fun g=>if g∈fp' then some (true,d) else if g∈f2 then none else if O g=some (true,d) then none else O g,by rw[put_defers];exact R.df,by rw[put_size];exact R.n,fun t=>?_,fun c x hc=>?_,fun g l hg=>?_,hvr,?_,?_,?_⟩
 ·by_cases htd:t=d
  ·subst htd
   refine⟨fp',hnd,fun g hg=>if_pos hg,?_⟩
   have e1:(a.put (some t) u).tmps.getD t undef=u:=getD_put_same a t u (by rw[R.n];exact hd)
   rw[e1]
   simp only[dropS,if_true]
   exact .u (.one (hrep.up _ (fun e=>by cases e)))
  ·obtain⟨fp,p1,p2,p3⟩:=R.tm t
   have e1:(a.put (some d) u).tmps.getD t undef=a.tmps.getD t undef:=getD_put a (some d) u t (fun e=>htd (by cases e;rfl))
   refine⟨fp,p1,fun g hg=>?_,?_⟩
   ·have h2:g∉f2:=fun h=>by have:=hf2O g h;rw[p2 g hg] at this;cases this
    show (if g∈fp' then some (true,d) else if g∈f2 then none else if O g=some (true,d) then none else O g)=some (true,t)
    rw[if_neg (fun h=>h2 (hnew g _ (p2 g hg) h)),if_neg h2,p2 g hg,if_neg (fun e=>htd (by cases e;rfl))]
   ·rw[e1]
    simp only[dropS,if_neg htd]
    exact p3.still (hn.1 t) fun g hg=>own_keep g _ (p2 g hg) (by simp)
 ·simp only[dropS] at hc
  split at hc
  ·cases hc
  ·rename_i hcb
   rcases R.bx c x hc with h | ⟨gb,arr2,T2,fz2,us2,p1,p2,p3⟩
   ·exact .inl h
   ·have hkk:∀g∈(K c).1::gb,w'.heap[g]?=w.heap[g]?∧V' g=V g:=fun g hg=>own_keep g _ (p2 g hg) (by simp[hcb])
    refine .inr ⟨gb,arr2,T2,fz2,us2,p1,fun g hg=>?_,⟨(hkk _ List.mem_cons_self).1.trans p3.hp,p3.th,p3.pre,p3.rep.still (hn.2 c x hc) fun g hg=>hkk g (by simp[hg]),by rw[(hkk _ List.mem_cons_self).2];exact p3.vis,p3.var,p3.row⟩⟩
    have h2:g∉f2:=fun h=>by have:=hf2O g h;rw[p2 g hg] at this;cases this;exact hcb rfl
    show (if g∈fp' then some (true,d) else if g∈f2 then none else if O g=some (true,d) then none else O g)=some (false,c)
    rw[if_neg (fun h=>h2 (hnew g _ (p2 g hg) h)),if_neg h2,p2 g hg,if_neg (fun e=>by cases e)]
 ·split at hg
  ·rename_i hp
   refine⟨?_,hlt g hp⟩
   rcases hin g hp with h | h
   ·exact(R.rg g _ (hf2O g h)).1
   ·have:=R.fr.sz;exact .inl (by omega)
  ·split at hg
   ·cases hg
   ·split at hg
    ·cases hg
    ·exact⟨(R.rg g l hg).1,Nat.lt_of_lt_of_le (R.rg g l hg).2 hfr.sz⟩
 ·exact⟨hfr.os.trans R.fr.os,hfr.tape.trans R.fr.tape,hfr.output.trans R.fr.output,Nat.le_trans R.fr.sz hfr.sz,fun g hg hM=>by
   have h2:g∉f2:=fun h=>by
    rcases(R.rg g _ (hf2O g h)).1 with h' | h'
    ·omega
    ·exact hM h'
   rw[hfr.old g (Nat.lt_of_lt_of_le hg R.fr.sz) h2];exact R.fr.old g hg hM,Nat.le_trans R.fr.dr hfr.dr⟩
 ·refine⟨fun g off ho=>?_,fun g=>?_,Nat.le_trans R.nx.sz hfr.sz⟩
  ·rw[←R.nx.cell g off ho]
   have h2:g∉f2:=fun h=>by rw[hf2z g h] at ho;omega
   have hlt:g<w.heap.size:=R.vr g (by have:=R.nx.le g;omega)
   have:=hfr.old g hlt h2
   simp only[World.cell?,this]
  ·by_cases h0:V0 g=0
   ·omega
   ·have h2:g∉f2:=fun h=>h0 (hf2z g h)
    have hlt:g<w.heap.size:=R.vr g (by have:=R.nx.le g;omega)
    rw[hvo g hlt h2];exact R.nx.le g
 ·intro g hg hM
  have h2:g∉f2:=fun h=>by
   rcases(R.rg g _ (hf2O g h)).1 with h' | h'
   ·omega
   ·exact hM h'
  rw[hvo g (Nat.lt_of_lt_of_le hg R.fr.sz) h2];exact R.vo g hg hM
def CutOk(P:Program)(f g:FuncId)(T T':AV):Prop :=
 ∀(V:Nat→Nat) (w:World) (K:Nat→Nat×Nat) (fp:List Nat) (u:Value),Rep V w K false fp [u] [T]→fp.Nodup→(∀x,0<V x→x<w.heap.size) →
  Calls P f #[u] w fun e w1=>∃u1,e=.returned u1∧Calls P g #[u1] w1 fun e w'=>∃u2,e=.returned u2∧∃(V':Nat→Nat) (fp':List Nat),Fr w (fun x=>x∈fp) w'∧Rep V' w' K false fp' [u2] [T']∧fp'.Nodup∧(∀x∈fp',x∈fp∨w.heap.size≤x) ∧
   (∀x,0<V' x→x<w'.heap.size)∧∀x,x<w.heap.size→x∉fp→V' x=V x
end
variable {P:Program}{H:Hints}{Y:FuncId→List AV→(Nat→Option Box)→AV→(Nat→Option Box)→Prop}{fid:FuncId}
end Evl
namespace EvlC.Cmpct
open Go Go.Proofs Go.Shelf Go.RowKit Go.Lib Go.Sort
theorem flatK_set{α:Type} [Inhabited α]{enc:α→List Value}{k:Nat}(hk:∀x,(enc x).length=k)(d:Array α)(i:Nat)(hi:i<d.size)(x:α):setMany (flatK enc k d) (i*k) (enc x)=flatK enc k (d.setIfInBounds i x):=by
 refine ext_get! (by simp) fun t ht=>?_
 have ht':t<d.size*k:=by simpa using ht
 have k0:0<k:=Nat.pos_of_ne_zero fun h=>by subst h;simp at ht'
 rw[get_setMany _ _ _ t (by simpa using ht'),get_flatK _ _ _ t ht',get_flatK _ _ _ t (by simpa using ht'),hk]
 by_cases a:t / k=i
 ·rw[if_pos ((blk_iff k i t k0).2 a),a,getElem!_set_same d i x hi]
  have:t-i*k=t % k:=by subst a;rw[Nat.mod_eq_sub_div_mul]
  rw[this]
 ·rw[if_neg (fun h=>a ((blk_iff k i t k0).1 h)),getElem!_set_other d i _ x a]
variable {P:Program}{ρ:Ren}{α:Type} [Inhabited α] [DecidableEq α]
structure Lays(P:Program)(ρ:Ren)(k:Nat):Prop where
 mixed:P.follows .mixedOrders=true
 f43:Bears P (ρ.f 43) (SlBodyN.n43 ρ)
 t0:P.underlying (ρ.t 0)=some (TypeDesc.tuple #[])
 a0:∀w,(isAgg (ρ.t 0)).run P w=.ok false w
 z0:∀w,(Go.sizeOf (ρ.t 0)).run P w=.ok 1 w
 v0:∀w,(zeroValue (ρ.t 0)).run P w=.ok (Value.tuple #[]) w
 t3:P.underlying (ρ.t 3)=some (TypeDesc.int IntKind.i64)
 a3:∀w,(isAgg (ρ.t 3)).run P w=.ok false w
 z3:∀w,(Go.sizeOf (ρ.t 3)).run P w=.ok 1 w
 v3:∀w,(zeroValue (ρ.t 3)).run P w=.ok (Value.int IntKind.i64 0) w
 t4:P.underlying (ρ.t 4)=some (TypeDesc.bool)
 a4:∀w,(isAgg (ρ.t 4)).run P w=.ok false w
 z4:∀w,(Go.sizeOf (ρ.t 4)).run P w=.ok 1 w
 v4:∀w,(zeroValue (ρ.t 4)).run P w=.ok (Value.bool false) w
 t22:P.underlying (ρ.t 22)=some (TypeDesc.slice (ρ.t 23))
 a22:∀w,(isAgg (ρ.t 22)).run P w=.ok false w
 z22:∀w,(Go.sizeOf (ρ.t 22)).run P w=.ok 1 w
 v22:∀w,(zeroValue (ρ.t 22)).run P w=.ok (Value.slice none 0 0) w
 a23:∀w,(isAgg (ρ.t 23)).run P w=.ok true w
 z23:∀w,(Go.sizeOf (ρ.t 23)).run P w=.ok k w
theorem run_clear(w:World)(t e ty:TypeId)(z:Array Value)(ht:P.underlying t=some (.slice e))(hv:∀w,(zeroValue e).run P w=.ok (.agg z) w)(h1:∀v∈z.toList,v.oneCell'=true)(hz:0<z.size)(b o n c:Nat)(hn:0<n)
  (hc:∀j,j<n*z.size→(w.cell? ⟨b,o+j,none⟩).isSome=true) (hf:∀j,j<n*z.size→w.frozen? ⟨b,o+j,none⟩=false) :
  (Builtin.clear_ #[t] ty #[.slice (some ⟨b,o,none⟩) n c]).run P w=.ok (.tuple #[]) (w.setCells b o (Builtin.zeroCells z n).toList):=by
 have hlen:(Builtin.zeroCells z n).toList.length=n*z.size:=by simp[Builtin.zeroCells]
 have hst:=run_storeCells_cells (P:=P) b o (Builtin.zeroCells z n).toList 0 w (by rw[hlen];simpa using hc) (by rw[hlen];simpa using hf) (by
  intro v hv'
  simp only[Builtin.zeroCells,Array.toList_map,List.mem_map,Array.mem_toList_iff,Array.mem_range] at hv'
  obtain⟨i,hi,rfl⟩:=hv'
  have:i % z.size<z.size:=Nat.mod_lt _ hz
  rw[getElem!_pos z _ this]
  exact h1 _ (by simp))
 simp only[Nat.add_zero] at hst
 obtain⟨m,rfl⟩:∃m,n=m+1:=⟨n-1,by omega⟩
 simp[Builtin.clear_,run_underlying ht,hv,Value.cells,hst]
def Kept (enc:α→List Value)(k:Nat)(w:World)(blk off:Nat)(d:Array α)(w':World):Prop :=
 ∃q F,w'=putRow id (Sort.ahead w q) blk off F∧F.size=d.size*k∧∀t,t<(compactUpTo d d.size).length*k→F[t]! = (enc ((compactUpTo d d.size)[t / k]!))[t % k]!
set_option maxHeartbeats 4000000 in
set_option maxRecDepth 1000000 in
theorem slices_Compact{k:Nat}(L:Lays P ρ k)(hk0:0<k)(enc:α→List Value)(hk:∀x,(enc x).length=k)(h1:∀x,∀v∈enc x,v.oneCell'=true)(heq':∀(x y:α) (w:World),Sem.run P (binOp .eql (ρ.t 23) (.agg (enc x).toArray) (.agg (enc y).toArray)) w=.ok (.bool (decide (x=y))) w)(hne':∀(x y:α) (w:World),Sem.run P (binOp .neq (ρ.t 23) (.agg (enc x).toArray) (.agg (enc y).toArray)) w=.ok (.bool (!decide (x=y))) w)(hgd':∀(op:BinOp) (a b:Operand) (x y:α) (w:World),Sem.run P (eqGuard op (ρ.t 23) a b (.agg (enc x).toArray) (.agg (enc y).toArray)) w=.ok () w)(zr:α)(v23:∀w,(zeroValue (ρ.t 23)).run P w=.ok (.agg (enc zr).toArray) w)(blk off cap:Nat)(d:Array α)(w:World)(hH:HoldsK enc k w blk off d)(hsz:d.size≤4611686018427387904)(hcap:d.size≤cap) :
  Calls P (ρ.f 43) #[.slice (some ⟨blk,off,none⟩) d.size cap] w fun e w'=>e=.returned (.slice (some ⟨blk,off,none⟩) (compactUpTo d d.size).length cap)∧Kept enc k w blk off d w':=by
 have mixed:=L.mixed;have t0:=L.t0;have a0:=L.a0;have z0:=L.z0;have v0:=L.v0;have t3:=L.t3;have a3:=L.a3;have z3:=L.z3;have v3:=L.v3;have t4:=L.t4;have a4:=L.a4;have z4:=L.z4;have v4:=L.v4;have t22:=L.t22;have a22:=L.a22;have z22:=L.z22;have v22:=L.v22;have a23:=L.a23;have z23:=L.z23
 have same:∀q,(∀j,j<d.size→keeps d j=true)→(compactUpTo d d.size).length=d.size∧Kept enc k w blk off d (w.drewN q):=by
  intro q hall
  have e:compactUpTo d d.size=d.toList:=by rw[compactUpTo_all d _ hall,range_map_get]
  refine⟨by rw[e];simp,q,flatK enc k d,(putRowK_self enc k (Sort.ahead w q) blk off d (holdsK_ahead enc k w q blk off d hH)).symm,by simp,fun t ht=>?_⟩
  rw[e] at ht ⊢
  have hi:t / k<d.size:=(Nat.div_lt_iff_lt_mul hk0).2 (by simpa using ht)
  rw[get_flatK enc k d t (by simpa using ht),getElem!_pos d _ hi,getElem!_pos d.toList _ (by simpa using hi)]
  rfl
 have HS:Aside (∀q,(∀j,j<d.size→keeps d j=true)→(compactUpTo d d.size).length=d.size∧Kept enc k w blk off d (w.drewN q)):=same
 clear same
 by_cases h2:d.size<2
 ·have HH:Aside (HoldsK enc k w blk off d):=hH
  clear hH
  obtain⟨_,_,FG⟩:=L.f43
  go_enter FG,SlBodyN.n43_ntmps ρ
  go_wp2
  go_ret
  obtain⟨e1,e2⟩:=HS.out 0 (fun j hj=>keeps_lt_one d j (by omega))
  exact⟨by rw[e1];rfl,e2⟩
 ·obtain⟨_,_,FG⟩:=L.f43
  have HK:Hid (∀x,(enc x).length=k):=hk
  have H1:Hid (∀x,∀v∈enc x,v.oneCell'=true):=h1
  have HH:Hid (HoldsK enc k w blk off d):=hH
  clear hH hk h1
  go_enter FG,SlBodyN.n43_ntmps ρ
  go_wp2
  go_loopg [3] d.size (fun g s3 wr=>∃kp q:Nat,kp+1≤d.size∧d.size-(kp+1)≤g∧s3=.int .i64 ((kp:Int)+1)∧wr=w.drewN q∧Aside (∀j,j<kp+1→keeps d j=true))
  case atStart=>exact⟨0,0,by omega,by omega,rfl,rfl,(show Aside _ from keeps_lt_one d)⟩
  case round =>
   obtain⟨kp,q,hkp,hg,rfl,rfl,A⟩:=hrel
   by_cases hlt:kp+1<d.size
   ·have hltz:(kp:Int)+1<(d.size:Int):=by omega
    have hwp:IntKind.i64.wrap (kp:Int)=(kp:Int):=by rw[IntKind.wrap_i64];omega
    have p0:(0:Int)≤(kp:Int)+1:=by omega
    have jz1:(kp:Int)<(d.size:Int):=by omega
    have e0:((kp:Int)+1).toNat=kp+1:=by omega
    have hHq:∀m,HoldsK enc k ((w.drewN q).drewN m) blk off d:=fun m=>by rw[World.drewN_drewN];exact HH.out
    have l1:∀m,Sem.run P (loadCellsFrom ⟨blk,off+(kp+1)*k,none⟩ 0 k #[]) ((w.drewN q).drewN m)=.ok (enc d[kp+1]!).toArray ((w.drewN q).drewN m):=fun m=>run_loadCellsFrom_list P _ _ _ k (HK.out _) (HoldsK.cells (hHq m) HK.out hlt)
    have l0:∀m,Sem.run P (loadCellsFrom ⟨blk,off+kp*k,none⟩ 0 k #[]) ((w.drewN q).drewN m)=.ok (enc d[kp]!).toArray ((w.drewN q).drewN m):=fun m=>run_loadCellsFrom_list P _ _ _ k (HK.out _) (HoldsK.cells (hHq m) HK.out (by omega))
    clear hHq
    generalize hx:d[kp+1]! = x at l1
    generalize hy:d[kp]! = y at l0
    have B:Aside (d[kp+1]! = x∧d[kp]! = y):=⟨hx,hy⟩
    clear hx hy
    generalize hwq:w.drewN q=wq at l0 l1 ⊢
    by_cases hdup:x=y
    ·subst hdup
     go_wp2_with fail
     go_quiet_o (fail)
     go_wp2
     clear l0 l1
     go_loopg [3,5] d.size (fun g s3 s5 wr=>∃(kk k2 q2:Nat) (dk:Array α),s3=.int .i64 kk∧s5=.int .i64 ((k2:Int)+1)∧kp+1+(k2+1)≤d.size∧d.size-(kp+1+(k2+1))≤g∧wr=putRowK enc k (Sort.ahead w q2) blk off dk∧Aside (CompInv d (kp+1+(k2+1)) kk dk))
     case atStart=>exact⟨kp+1,0,q+nq,d,by go_num,by go_num,by omega,by omega,by rw[putRowK_self enc k (Sort.ahead w (q+nq)) blk off d (holdsK_ahead enc k w (q+nq) blk off d HH.out),←hwq,World.drewN_drewN];rfl,(show Aside _ from CompInv.start A.out (keeps_neg (by omega) (by rw[B.out.1,show kp+1-1=kp from rfl,B.out.2])))⟩
     case round =>
      obtain⟨kk,k2,q2,dk,rfl,rfl,hle,hg2,hwr,I2⟩:=hrel
      have hkk:=I2.out.lt
      have hds:=I2.out.size
      have W2:Aside (wr=putRowK enc k (Sort.ahead w q2) blk off dk):=hwr
      have hHk:∀m,HoldsK enc k (wr.drewN m) blk off dk:=fun m=>by
       rw[hwr,putRowK_drewN]
       exact holdsK_putRowK enc k _ blk off d dk (holdsK_ahead enc k w (q2+m) blk off d HH.out) hds
      have HQ:Aside (∀m,HoldsK enc k (wr.drewN m) blk off dk):=hHk
      clear hwr hHk
      by_cases hlt2:kp+1+(k2+1)<d.size
      ·have hb2:(k2:Int)+1<(d.size:Int)-((kp:Int)+1):=by omega
       have hwp2:IntKind.i64.wrap (k2:Int)=(k2:Int):=by rw[IntKind.wrap_i64];omega
       have p2:(0:Int)≤(k2:Int)+1:=by omega
       have jz2:(k2:Int)<(d.size:Int)-((kp:Int)+1):=by omega
       have e2:((k2:Int)+1).toNat=k2+1:=by omega
       have jz3:(k2:Int)<((d.size-(kp+1):Nat):Int):=by omega
       have jz4:k2<d.size-(kp+1):=by omega
       have m1:∀m,Sem.run P (loadCellsFrom ⟨blk,off+(kp+1)*k+(k2+1)*k,none⟩ 0 k #[]) (wr.drewN m)=.ok (enc d[kp+1+(k2+1)]!).toArray (wr.drewN m):=fun m=>by
        have:=run_loadCellsFrom_list P _ _ _ k (HK.out _) (HoldsK.cells (HQ.out m) HK.out (i:=kp+1+(k2+1)) (by omega))
        rwa [I2.out.high _ (by omega),Nat.add_mul (kp+1) (k2+1),←Nat.add_assoc] at this
       have m0:∀m,Sem.run P (loadCellsFrom ⟨blk,off+(kp+1)*k+k2*k,none⟩ 0 k #[]) (wr.drewN m)=.ok (enc d[kp+1+k2]!).toArray (wr.drewN m):=fun m=>by
        have:=run_loadCellsFrom_list P _ _ _ k (HK.out _) (HoldsK.cells (HQ.out m) HK.out (i:=kp+1+k2) (by omega))
        rwa [I2.out.high _ (by omega),Nat.add_mul (kp+1) k2,←Nat.add_assoc] at this
       have sS:∀m,Sem.run P (storeCells ⟨blk,off+kk*k,none⟩ (enc d[kp+1+(k2+1)]!) 0) (wr.drewN m)=.ok () ((wr.drewN m).setCells blk (off+kk*k) (enc d[kp+1+(k2+1)]!)):=fun m =>
        stores_of_holds P (HQ.out m) (kk*k) _ (by
         rw[HK.out,size_flatK]
         have:=Nat.mul_le_mul_right k (show kk+1≤dk.size by omega);rwa [Nat.add_mul,Nat.one_mul] at this) (H1.out _)
       have hsu:(enc d[kp+1+(k2+1)]!).length=k:=HK.out _
       generalize hu:d[kp+1+(k2+1)]! = u at m1 sS hsu
       generalize hv:d[kp+1+k2]! = v at m0
       have C:Aside (d[kp+1+(k2+1)]! = u∧d[kp+1+k2]! = v):=⟨hu,hv⟩
       clear hu hv
       have hkz:(kk:Int)<(d.size:Int):=by omega
       by_cases huv:u=v
       ·subst huv
        go_wp2_with fail
        go_quiet_o (fail)
        go_wp2
        go_roundg (d.size-(kp+1+(k2+1+1)))
        case measure=>omega
        case rel=>exact⟨kk,k2+1,q2+nq,dk,rfl,by go_num,by omega,Nat.le_refl _,by rw[W2.out,putRowK_drewN],(show Aside _ from I2.out.skip (keeps_neg (by omega) (by rw[C.out.1,show kp+1+(k2+1)-1=kp+1+k2 from rfl,C.out.2])))⟩
       ·go_wp2_with fail
        go_quiet_o (fail)
        go_wp2
        go_roundg (d.size-(kp+1+(k2+1+1)))
        case measure=>omega
        case rel =>
         refine⟨kk+1,k2+1,q2+nq,dk.setIfInBounds kk u,by go_num,by go_num,by omega,Nat.le_refl _,?_,(show Aside _ from ?_)⟩
         ·rw[W2.out,putRowK_drewN]
          unfold putRowK
          rw[setCells_putRow _ _ _ _ _ _ (by
           rw[HK.out,size_flatK]
           have:=Nat.mul_le_mul_right k (show kk+1≤dk.size by omega);rwa [Nat.add_mul,Nat.one_mul] at this),flatK_set HK.out dk kk (by omega)]
         ·have:=I2.out.keep hlt2 (keeps_pos (by rw[C.out.1,show kp+1+(k2+1)-1=kp+1+k2 from rfl,C.out.2];exact huv))
          rwa [C.out.1] at this
      ·have hend:kp+1+(k2+1)=d.size:=by omega
       have hb2:¬(k2:Int)+1<(d.size:Int)-((kp:Int)+1):=by omega
       have hb3:¬(k2:Int)+1<((d.size-(kp+1):Nat):Int):=by omega
       have hkz:(kk:Int)≤(d.size:Int):=by omega
       have hkz2:kk≤d.size:=by omega
       have hzs:(enc zr).toArray.size=k:=by rw[List.size_toArray,HK.out]
       have hH0:HoldsK enc k wr blk off dk:=HQ.out 0
       have hin:∀j,j<(d.size-kk)*(enc zr).toArray.size→kk*k+j<(flatK enc k dk).size:=fun j hj=>by
        rw[hzs] at hj
        rw[size_flatK,hds]
        have:kk*k+(d.size-kk)*k=d.size*k:=by rw[←Nat.add_mul];congr 1;omega
        omega
       have hcl:∀ty,(Builtin.clear_ #[ρ.t 22] ty #[.slice (some ⟨blk,off+kk*k,none⟩) (d.size-kk) (cap-kk)]).run P wr=.ok (.tuple #[]) (wr.setCells blk (off+kk*k) (Builtin.zeroCells (enc zr).toArray (d.size-kk)).toList) :=
        fun ty=>run_clear wr _ _ ty _ t22 v23 (by simpa using H1.out zr) (by rw[hzs];exact hk0) blk (off+kk*k) _ _ (by omega) (fun j hj=>by rw[Nat.add_assoc,(hH0 (kk*k+j) (hin j hj)).1];rfl) (fun j hj=>by rw[Nat.add_assoc];exact(hH0 (kk*k+j) (hin j hj)).2)
       have HI:Aside (∀j,j<(d.size-kk)*(enc zr).toArray.size→kk*k+j<(flatK enc k dk).size):=hin
       clear hin hH0
       go_wp2
       go_ret
       have hI:=I2.out
       rw[hend] at hI
       refine⟨by rw[hI.len];rfl,q2,setMany (flatK enc k dk) (kk*k) (Builtin.zeroCells (enc zr).toArray (d.size-kk)).toList,?_,by rw[size_setMany,size_flatK,hds],fun t ht=>?_⟩
       ·rw[W2.out]
        exact setCells_putRow _ _ _ _ _ _ (by
         simp only[Builtin.zeroCells,Array.length_toList,Array.size_map,Array.size_range]
         rw[hzs,size_flatK,hds,←Nat.add_mul]
         exact Nat.mul_le_mul_right _ (by omega))
       ·rw[hI.len] at ht
        have htd:t<dk.size*k:=Nat.lt_of_lt_of_le ht (Nat.mul_le_mul_right _ (by omega))
        have hlo:=hI.low (t / k) ((Nat.div_lt_iff_lt_mul hk0).2 ht)
        rw[get_setMany _ _ _ t (by simpa using htd),if_neg (by omega),get_flatK _ _ _ t htd]
        have:(compactUpTo d d.size)[t / k]! = dk[t / k]!:=by
         rw[List.getElem!_eq_getElem?_getD,hlo];rfl
        rw[this]
    ·go_wp2_with fail
     go_quiet_o (fail)
     go_wp2
     go_roundg (d.size-(kp+1+1))
     case measure=>omega
     case rel =>
      refine⟨kp+1,q+nq,by omega,Nat.le_refl _,by go_num,by rw[←hwq,World.drewN_drewN],(show Aside _ from fun j hj=>?_)⟩
      by_cases e:j=kp+1
      ·subst e
       exact keeps_pos (by rw[B.out.1,show kp+1-1=kp from rfl,B.out.2];exact hdup)
      ·exact A.out j (by omega)
   ·have hkd:kp+1=d.size:=by omega
    have hltz:¬(kp:Int)+1<(d.size:Int):=by omega
    go_wp2
    go_ret
    obtain⟨e1,e2⟩:=HS.out q (fun j hj=>A.out j (by omega))
    exact⟨by rw[e1];rfl,e2⟩
end EvlC.Cmpct
namespace Evl
open Go
def once {α:Type} [Inhabited α] [DecidableEq α](l:List α):List α:=Go.Lib.compactUpTo l.toArray l.length
theorem once_len{α:Type} [Inhabited α] [DecidableEq α](l:List α):(once l).length≤l.length:=by
 unfold once Go.Lib.compactUpTo
 rw[List.length_map]
 exact Nat.le_trans (List.length_filter_le _ _) (by rw[List.length_range];exact Nat.le_refl _)
structure ClipOk(P:Program)(f:FuncId):Prop where
 atNil:∀w,Calls P f #[.slice none 0 0] w fun e w'=>e=.returned (.slice none 0 0)∧w'=w
 atSome:∀(b n c:Nat) (w:World),n≤c→Calls P f #[.slice (some ⟨b,0,none⟩) n c] w fun e w'=>e=.returned (.slice (some ⟨b,0,none⟩) n n)∧w'=w
theorem cut_turn{P:Program}{ρ:Go.Shelf.Ren}{α:Type} [Inhabited α] [DecidableEq α]{k:Nat}(L:EvlC.Cmpct.Lays P ρ k)(hk0:0<k)(enc:α→List Value)(hk:∀x,(enc x).length=k)(hpl:∀x,∀v∈enc x,plain v=true)
  (heq':∀(x y:α) (w:World),Sem.run P (binOp .eql (ρ.t 23) (.agg (enc x).toArray) (.agg (enc y).toArray)) w=.ok (.bool (decide (x=y))) w) (hne':∀(x y:α) (w:World),Sem.run P (binOp .neq (ρ.t 23) (.agg (enc x).toArray) (.agg (enc y).toArray)) w=.ok (.bool (!decide (x=y))) w) (hgd':∀(op:BinOp) (a b:Operand) (x y:α) (w:World),Sem.run P (eqGuard op (ρ.t 23) a b (.agg (enc x).toArray) (.agg (enc y).toArray)) w=.ok () w)
  (zr:α) (v23:∀w,(zeroValue (ρ.t 23)).run P w=.ok (.agg (enc zr).toArray) w) {fD:FuncId} (hD:ClipOk P fD) (hnone:∀w,Calls P (ρ.f 43) #[.slice none 0 0] w fun e w'=>e=.returned (.slice none 0 0)∧w'=w) (l:List α) (hsz:l.length≤4611686018427387904) :
  CutOk P (ρ.f 43) fD (.sl true k l.length (flv enc l)) (.sl true k (once l).length (flv enc (once l))):=by
 intro V w K fp u hrep hnd hvr
 have h1:∀x,∀v∈enc x,v.oneCell'=true:=fun x v hv=>by
  have:=hpl x v hv
  cases v <;> simp_all [plain,Value.oneCell']
 have hpf:∀v∈(once l).flatMap enc,plain v=true:=fun v hv=>by
  obtain⟨x,_,hx⟩:=List.mem_flatMap.1 hv
  exact hpl x v hx
 generalize hn:l.length=n at hrep
 generalize hc:flv enc l=cs at hrep
 cases hrep with
 | on h =>
  cases h
  have hl0:l=[]:=List.eq_nil_of_length_eq_zero hn
  subst hl0
  refine Calls.mono (hnone w) fun e w1 ⟨he,hw1⟩=>⟨_,he,?_⟩
  subst hw1
  refine Calls.mono (hD.atNil w1) fun e w' ⟨he,hw'⟩=>⟨_,he,?_⟩
  subst hw'
  have e0:once ([]:List α)=[]:=List.eq_nil_of_length_eq_zero (Nat.le_zero.1 (once_len []))
  rw[e0]
  exact⟨V,[],⟨rfl,rfl,rfl,Nat.le_refl _,fun _ _ _=>rfl,Nat.le_refl _⟩,.on .nil,List.nodup_nil,by simp,hvr,fun _ _ _=>rfl⟩
 | @ow _ _ _ _ _ cap _ _ fq g T arr fz vs g1 g2 g3 g4 g5 g6 g7 g8 hin hrest =>
  cases hrest
  subst hc
  obtain⟨rfl,rfl⟩:=rep_litv _ hin
  have hglt:g<w.heap.size:=(Array.getElem?_eq_some_iff.1 g2).1
  have hca:n*k≤arr.size:=Nat.le_trans (Nat.mul_le_mul_right _ g1) g4
  have hH:Go.Sort.HoldsK enc k w g 0 l.toArray:=holds_of hk l g2 g3 (by rw[hn];exact hca) g7
  have hm:(once l).length≤n:=hn ▸ once_len l
  have hC:=EvlC.Cmpct.slices_Compact L hk0 enc hk h1 heq' hne' hgd' zr v23 g 0 cap l.toArray w hH (by simpa using hsz) (by simpa [hn] using g1)
  rw[show l.toArray.size=n by simp[hn]] at hC
  refine Calls.mono hC fun e w1 ⟨he,q,F,hw1,hF,hFt⟩=>⟨_,he,?_⟩
  have eo:Go.Lib.compactUpTo l.toArray n=once l:=by unfold once;rw[hn]
  rw[show l.toArray.size=n by simp[hn],eo] at hFt
  rw[show l.toArray.size=n by simp[hn]] at hF
  rw[eo]
  refine Calls.mono (hD.atSome g _ cap w1 (Nat.le_trans hm g1)) fun e w' ⟨he,hw'⟩=>⟨_,he,?_⟩
  subst hw'
  obtain⟨r1,r2,r3⟩:=row_world F q #[] g2
  rw[Go.Sort.grow_empty] at r1 r2 r3
  refine⟨fun x=>if x=g then (once l).length*k else V x,[g],?_,?_,by simp,by simp,fun x hx=>?_,fun x _ hx=>if_neg (by simpa using hx)⟩
  ·rw[hw1]
   refine⟨rfl,rfl,rfl,r3,fun x hx hni=>r2 x hx (by simpa using hni),?_⟩
   show w.drawn≤w.drawn+q
   omega
  ·have hml:(once l).length*k≤arr.size:=Nat.le_trans (Nat.mul_le_mul_right _ hm) hca
   have:=Rep.ow (V:=fun x=>if x=g then (once l).length*k else V x) (w:=w') (K:=K) (m:=false) (fp:=[]) (us:=[]) (cs:=[]) (n:=(once l).length) (cap:=(once l).length) (sz:=k) (ds:=flv enc (once l)) (fq:=[]) g T (Go.Sort.putCells id 0 F arr) fz ((once l).flatMap enc) (Nat.le_refl _) (by rw[hw1];exact r1)
    (by unfold thawed at *;rw[putCells_size];exact g3) (by rw[putCells_size];exact hml) (flat_len hk _) (by omega)
    (fun j v hj=>by
     have hj':j<(once l).length*k:=by rw[←flat_len hk];exact(List.getElem?_eq_some_iff.1 hj).1
     rw[flat_get hk (once l) j hj'] at hj
     have e2:=hFt j hj'
     rw[←hj,putCells_get _ _ j (by rw[hF];exact Nat.lt_of_lt_of_le hj' (Nat.mul_le_mul_right _ hm)) (by rw[hF];exact hca),e2]
     simp)
    (by rw[if_pos rfl,flat_len hk]) (litv_rep _ hpf) .nil
   simpa using this
  ·rw[hw1]
   have hx:0<(if x=g then (once l).length*k else V x):=hx
   split at hx
   ·rename_i e;subst e;exact Nat.lt_of_lt_of_le hglt r3
   ·exact Nat.lt_of_lt_of_le (hvr x hx) r3
end Evl
namespace Evl
open Go
end Evl
namespace Evl.T
open Go Evl
def cmpI (a b:Int):Int:=if a<b then -1 else if a>b then 1 else 0
theorem cmpI_lt(a b:Int):cmpI a b<0↔a<b:=by unfold cmpI;split;omega;split <;> omega
theorem cmpI_eq(a b:Int):cmpI a b=0↔a=b:=by unfold cmpI;split;omega;split <;> omega
def or4 (a b c d:Int):Int:=if a≠0 then a else if b≠0 then b else if c≠0 then c else d
theorem or4_lt(a b c d:Int):or4 a b c d<0↔a<0∨(a=0∧(b<0∨(b=0∧(c<0∨(c=0∧d<0))))):=by unfold or4;split;omega;split;omega;split <;> omega
instance:Inhabited Pl:=⟨⟨0,0,0,0⟩⟩
instance:Inhabited Spot:=⟨⟨0,0,0,1⟩⟩
def cmpP (p q:Pl):Int:=or4 (cmpI p.A q.A) (cmpI p.B q.B) (cmpI p.C q.C) (cmpI p.D q.D)
instance decPl:DecidableEq Pl:=fun x y=>decidable_of_iff (x.A=y.A∧x.B=y.B∧x.C=y.C∧x.D=y.D) ⟨fun h=>by cases x;cases y;simp at h;obtain⟨rfl,rfl,rfl,rfl⟩:=h;rfl,fun h=>by subst h;exact⟨rfl,rfl,rfl,rfl⟩⟩
instance decSpot:DecidableEq Spot:=fun x y=>decidable_of_iff (x.X=y.X∧x.Y=y.Y∧x.Z=y.Z∧x.W=y.W) ⟨fun h=>by cases x;cases y;simp at h;obtain⟨rfl,rfl,rfl,rfl⟩:=h;rfl,fun h=>by subst h;exact⟨rfl,rfl,rfl,rfl⟩⟩
def SpG (s:Spot):Prop:=(1≤s.W∧s.W≤1000000000)∧s.X.natAbs≤1000000000∧s.Y.natAbs≤1000000000∧s.Z.natAbs≤1000000000∧Nat.gcd (Nat.gcd s.X.natAbs s.Y.natAbs) (Nat.gcd s.Z.natAbs s.W.natAbs)=1
instance decSpG (s:Spot):Decidable (SpG s):=by unfold SpG;exact inferInstance
abbrev Spt:={ s:Spot // SpG s }
instance:Inhabited Spt:=⟨⟨0,0,0,1⟩,by unfold SpG;decide⟩
end Evl.T
namespace Evl
open Go
def grB (n:Int):Bool:=decide (0≤n)&&decide (n≤1000000)
def GrownOk(P:Program)(f:FuncId)(z:Nat)(n:Int):Prop :=
 ∀(V:Nat→Nat) (w:World) (K:Nat→Nat×Nat),(∀x,0<V x→x<w.heap.size) →
  Calls P f #[.slice none 0 0,.int .i64 n] w fun e w'=>∃u,e=.returned u∧∃fp':List Nat,Fr w (fun _=>False) w'∧Rep V w' K false fp' [u] [.sl true z 0 []]∧fp'.Nodup∧∀x∈fp',w.heap.size≤x
theorem grow_turn{P:Program}{ρ:Go.Shelf.Ren}(L:Go.Proofs.Lays8.n4 P ρ)(i0:TypeInfo)(z:Value)(hi0:P.info? (ρ.t 25)=some i0)(hz0:i0.zero=some z)(hs0:0<i0.size)(hzc:z.cells.size=i0.size)(n:Nat)(hb:n*i0.bytes≤140737488355328)(hn:n≤4611686018427387904) :
  GrownOk P (ρ.f 4) i0.size n:=by
 intro V w K hvr
 by_cases h0:n=0
 ·subst h0
  refine Calls.mono (Go.Proofs.Any8.slices_Grow_room L none 0 0 0 w (by omega) (by omega) (by omega) (by omega)) fun e w' ⟨he,hw⟩=>⟨_,he,[],?_⟩
  subst hw
  exact⟨⟨rfl,rfl,rfl,Nat.le_refl _,fun _ _ _=>rfl,Nat.le_refl _⟩,.on .nil,List.nodup_nil,by simp⟩
 ·refine Calls.mono (Go.Proofs.Any8.slices_Grow_grow L i0 z hi0 hz0 hs0 none 0 0 n [] w (by omega) (by omega) (by simpa using hb) (by omega) (by simp) (fun _=>rfl) (fun a h=>by cases h)) fun e w' ⟨he,hw⟩=>⟨_,he,[w.heap.size],?_⟩
  have hV:V w.heap.size=0:=Nat.eq_zero_of_not_pos fun h=>Nat.lt_irrefl _ (hvr _ h)
  have hcell:w'.heap[w.heap.size]?=some (.cells ((([]:List Value).toArray++Builtin.zeroCells z.cells (0+n-0))++Builtin.zeroCells z.cells (grownCap w (0+n) 0 (ρ.t 25)-(0+n))) (ρ.t 25) (0,0)):=by
   rw[hw]
   show (w.heap.push _)[w.heap.size]?=_
   rw[Array.getElem?_push_size]
  refine⟨⟨by rw[hw];rfl,by rw[hw];rfl,by rw[hw];rfl,?_,fun g hg _=>?_,?_⟩,?_,by simp,by simp⟩
  ·rw[hw]
   show w.heap.size≤(w.heap.push _).size
   rw[Array.size_push];omega
  ·rw[hw]
   show (w.heap.push _)[g]?=_
   rw[Array.getElem?_push_lt hg,Array.getElem?_eq_getElem hg]
  ·rw[hw]
   show w.drawn≤w.drawn+1
   omega
  ·have:=Rep.ow (V:=V) (w:=w') (K:=K) (m:=false) (fp:=[]) (us:=[]) (cs:=[]) (n:=0) (cap:=grownCap w (0+n) 0 (ρ.t 25)) (sz:=i0.size) (ds:=[]) (fq:=[]) w.heap.size _ _ (0,0) [] (Nat.zero_le _) hcell (by unfold thawed;simp) (by
     simp only[Array.size_append,size_zeroCells,List.size_toArray,List.length_nil,hzc]
     rw[Nat.add_assoc,←Nat.add_mul]
     refine Nat.le_trans ?_ (Nat.le_add_left _ _)
     exact Nat.mul_le_mul_right _ (by omega)) (by simp) (by omega) (by simp) (by rw[hV];rfl) .nil .nil
   simpa using this
section
variable {P:Program}{N:Nat}{w0 w w':World}{M:Nat→Prop}{V0 V V':Nat→Nat}{K K':Nat→Nat×Nat}{O O':Nat→Option Loc}{s:S}{a:Act}{fp:List Nat}{v:Value}{G:GP}
variable {ops:Array Oper}{Q:Exit→Act→World→Prop}
theorem rel_fresh(R:RelG N w0 M V0 K V O s a w){d:Nat}(hd:d<N){T:AV}{u:Value}{fp':List Nat}(hfr:Fr w (fun _=>False) w')(hin:∀g∈fp',w.heap.size≤g)(hnd:fp'.Nodup)(hrep:Rep V w' K false fp' [u] [T]) :
  ∃O',RelG N w0 M V0 K V O' (Evl.stT d T s) (a.put (some d) u) w':=by
 have hnx:Next V V w w':=⟨fun g off ho=>by
  have hg:g<w.heap.size:=R.vr g (by omega)
  have:=hfr.old g hg (fun h=>h)
  simp only[World.cell?,this],fun _=>Nat.le_refl _,hfr.sz⟩
 have hlt:∀g∈fp',g<w'.heap.size:=fun g hg=>hrep.fp_lt g hg
 have keep:∀g l,O g=some l→w'.heap[g]?=w.heap[g]?∧V g=V g:=fun g l hg=>⟨hfr.old g (R.rg g l hg).2 (fun h=>h),rfl⟩
 have hnew:∀g l,O g=some l→g∉fp':=fun g l hg hp=>by
  have h1:=hin g hp;have h2:=(R.rg g l hg).2;omega
 refine⟨fun g=>if g∈fp' then some (true,d) else if O g=some (true,d) then none else O g,by rw[put_defers];exact R.df,by rw[put_size];exact R.n,fun t=>?_,fun c x hc=>?_,fun g l hg=>?_,fun g hg=>Nat.lt_of_lt_of_le (R.vr g hg) hfr.sz,?_,?_,R.vo⟩
 ·by_cases htd:t=d
  ·subst htd
   refine⟨fp',hnd,fun g hg=>if_pos hg,?_⟩
   have e1:(a.put (some t) u).tmps.getD t undef=u:=getD_put_same a t u (by rw[R.n];exact hd)
   rw[e1,stT_same]
   exact .u (.one (hrep.up _ (fun e=>by cases e)))
  ·obtain⟨fp,p1,p2,p3⟩:=R.tm t
   have e1:(a.put (some d) u).tmps.getD t undef=a.tmps.getD t undef:=getD_put a (some d) u t (fun e=>htd (by cases e;rfl))
   refine⟨fp,p1,fun g hg=>?_,?_⟩
   ·show (if g∈fp' then some (true,d) else if O g=some (true,d) then none else O g)=some (true,t)
    rw[if_neg (hnew g _ (p2 g hg)),p2 g hg,if_neg (fun e=>htd (by cases e;rfl))]
   ·rw[e1,stT_ne _ _ htd]
    exact p3.next hnx (fun g hg=>keep g _ (p2 g hg)) [] (fun _ _=>rfl)
 ·rcases R.bx c x hc with h | ⟨gb,arr2,T2,fz2,us2,p1,p2,p3⟩
  ·exact .inl h
  ·have hkk:∀g∈(K c).1::gb,w'.heap[g]?=w.heap[g]?∧V g=V g:=fun g hg=>keep g _ (p2 g hg)
   refine .inr ⟨gb,arr2,T2,fz2,us2,p1,fun g hg=>?_,⟨(hkk _ List.mem_cons_self).1.trans p3.hp,p3.th,p3.pre,p3.rep.next hnx (fun g hg=>hkk g (by simp[hg])) [] (fun _ _=>rfl),p3.vis,p3.var,p3.row⟩⟩
   show (if g∈fp' then some (true,d) else if O g=some (true,d) then none else O g)=some (false,c)
   rw[if_neg (hnew g _ (p2 g hg)),p2 g hg,if_neg (fun e=>by cases e)]
 ·split at hg
  ·rename_i hp
   have h1:=hin g hp;have:=R.fr.sz
   exact⟨.inl (by omega),hlt g hp⟩
  ·split at hg
   ·cases hg
   ·exact⟨(R.rg g l hg).1,Nat.lt_of_lt_of_le (R.rg g l hg).2 hfr.sz⟩
 ·exact⟨hfr.os.trans R.fr.os,hfr.tape.trans R.fr.tape,hfr.output.trans R.fr.output,Nat.le_trans R.fr.sz hfr.sz,fun g hg hM=>by
   rw[hfr.old g (Nat.lt_of_lt_of_le hg R.fr.sz) (fun h=>h)];exact R.fr.old g hg hM,Nat.le_trans R.fr.dr hfr.dr⟩
 ·exact⟨fun g off ho=>by rw[hnx.cell g off (Nat.lt_of_lt_of_le ho (R.nx.le g))];exact R.nx.cell g off ho,fun g=>R.nx.le g,Nat.le_trans R.nx.sz hfr.sz⟩
def growOfR(ops:Array Oper):Option (Nat×FuncId×Nat×Nat×Nat) :=
 match ops[0]?,ops[1]?,ops[2]? with
 | some o0,some o1,some o2 =>
  match o0.op,o0.dst,o0.guard,calleeOf o1 botS,o1.dst,o1.guard with
  | .move (.tmp ta),some d0,none,some (f,[.const (.slice none 0 0),.tmp x],[]),some d1,none =>
   match o2.op,o2.dst,o2.guard with
   | .assign (.tmp r),some da,none=>if ops.size=3∧x=d0∧r=d1 then some (ta,f,d0,d1,da) else none
   | _,_,_=>none
  | _,_,_,_,_,_=>none
 | _,_,_=>none
def growS(T:AV)(d0 d1 da:Nat)(s:S):S:=stT da T (stT d1 .bad (stT d0 .bad s))
theorem mc_grow{id ta f d0 d1 da sz:Nat}{n:Int}(hm:growOfR ops=some (ta,f,d0,d1,da))(hf:isFn P f=true)
  (ht:s.t ta=.lit (.int .i64 n)) (hT:GrownOk P f sz n) :
  MC P G (.region id ops false) s .nor (growS (.sl true sz 0 []) d0 d1 da s):=by
 intro N w0 M V0 V K O a w hg hok R Q hQ
 refine wp_region ?_
 unfold growOfR at hm
 split at hm
 ·rename_i o0 o1 o2 i0 i1 i2
  split at hm
  ·rename_i q0 q1 q2 p0 p1 p2
   split at hm
   ·rename_i r3 r4 r5
    simp only[Option.ite_none_right_eq_some,Option.some.injEq,Prod.mk.injEq] at hm
    obtain⟨⟨z,x1,x2⟩,e1,e2,e3,e4,e5⟩:=hm
    subst x1 x2
    replace e1:=e1.symm;replace e2:=e2.symm;replace e3:=e3.symm;replace e4:=e4.symm;replace e5:=e5.symm
    subst e1 e2 e3 e4 e5
    obtain⟨fn,c,hfn,hbd,hnm⟩:=isFn_of hf
    have hN:∀(i:Nat) (o:Oper) (d:Nat),ops[i]?=some o→o.dst=some d→d<N:=fun i o d h e=>by
     simp only[codeOk,opsOk,Array.all_eq_true_iff_forall_mem] at hok
     have:=hok o (Array.mem_of_getElem? h)
     rw[e] at this;simpa using this
    rw[show List.range ops.size=[0,1,2] by rw[z];rfl]
    have hd0:=hN _ _ _ i0 q1
    have hd1:=hN _ _ _ i1 p1
    have hda:=hN _ _ _ i2 r4
    have hN1:=R.n
    obtain⟨fq,-,-,h3⟩:=R.tm ta
    rw[ht] at h3
    obtain⟨hv,rfl,-⟩:=inv_lit h3
    have hv':a.eval (.tmp ta)=.int .i64 n:=hv
    refine wpOps_val i0 q2 (v:=a.eval (.tmp ta)) (w':=w) (by simp[execOp,q0]) ?_
    rw[q1]
    have R2:=rel_gone R d0 hd0 (a.eval (.tmp ta))
    have hs0:d0<a.tmps.size:=by rw[hN1];exact hd0
    refine wpOps_call i1 p2 (f:=f) (args:=#[.slice none 0 0,.int .i64 n]) (by rw[call_run R2.df p0 hfn hbd hnm];simp only[List.map_cons,List.map_nil,eval_put_same hs0,hv'];rfl) ?_
    refine Calls.mono (hT V w K R.vr) fun e w2 ⟨u,he,fp',hfr,hrep,hnd,hin⟩=>⟨u,he,?_⟩
    rw[p1]
    have hs1:d1<(a.put (some d0) (a.eval (.tmp ta))).tmps.size:=by rw[put_size,hN1];exact hd1
    refine wpOps_val i2 r5 (v:=u) (w':=w2) (by simp only[execOp,r3,eval_put_same hs1];rfl) ?_
    rw[r4]
    have R3:=rel_gone R2 d1 hd1 u
    obtain⟨O5,R5⟩:=rel_fresh R3 hda hfr hin hnd hrep
    exact hQ _ _ _ _ _ R5 fun _ _=>rfl
   ·cases hm
  ·cases hm
 ·cases hm
end
variable {P:Program}{H:Hints}{Y:FuncId→List AV→(Nat→Option Box)→AV→(Nat→Option Box)→Prop}{fid:FuncId}
theorem x_grow{k:List Td}{Q:X→L→Prop}{l:L}{c:Code}{f ta d0 d1 da z:Nat}{n:Int}
  (hzc:∀c s s',MC P (Gd H fid) c s .nor s'→H.zc fid c s s')
  (hr:(Code.isRegion false c,growOfR (Code.opsOf c),isFn P f)=(true,some (ta,f,d0,d1,da),true))
  (hs:(l.get ta,lookup d0 l.ts,lookup d1 l.ts)=(.lit (.int .i64 n),none,none))
  (hT:GrownOk P f z n)
  (hw:Wk P H Y fid k Q ⟨(da,.sl true z 0 [])::l.ts,l.bs⟩):Wk P H Y fid (.code c::k) Q l:=by
 simp only[Prod.mk.injEq] at hr hs
 obtain⟨r1,r2,r3⟩:=hr
 obtain⟨s1,s3,s4⟩:=hs
 have hmc:MC P (Gd H fid) c l.toS .nor (growS (.sl true z 0 []) d0 d1 da l.toS):=by
  cases c <;> simp[Code.isRegion] at r1
  subst r1
  exact mc_grow r2 r3 s1 hT
 refine x_zone r1 (hzc _ _ _ hmc) (u:=⟨(da,.sl true z 0 [])::l.ts,l.bs⟩) ⟨fun i=>?_,fun j y hy=>?_⟩ hw
 ·rw[L.toS_t]
  simp only[lookup,growS,stT]
  by_cases ha:da=i
  ·subst ha;simp only[if_true];exact .inl (.inl (.inl rfl))
  ·rw[if_neg ha,if_neg (fun e=>ha e.symm)]
   by_cases h1:i=d1
   ·subst h1;rw[s4];exact .inl (.inl (.inr (.inl rfl)))
   ·rw[if_neg h1]
    by_cases h0:i=d0
    ·subst h0;rw[s3];exact .inl (.inl (.inr (.inl rfl)))
    ·rw[if_neg h0,L.toS_t];exact .inl (.inl (.inl rfl))
 ·rw[L.toS_b] at hy
  change lookup j l.bs=some y at hy
  simp only[growS,stT]
  exact⟨y,by rw[L.toS_b];exact hy,rfl,rfl,wkCs_refl _⟩
end Evl
