
/- Texts that belong together,joined. No condition. -/
import Derived.Test.YtgaenniknmphcaaGreatJa
import Derived.ArgAppend
import Derived.Laws.IdiomStrings
import Derived.Laws.BitsLemmas
namespace Evl
open Go
variable {P:Program}{H:Hints}{fid:FuncId}{N:Nat}{w0 w w':World}{M:Nat→Prop}{V0 V V':Nat→Nat}{K K':Nat→Nat×Nat}{O O':Nat→Option Loc}{s:S}{a:Act}{fp:List Nat}{v:Value}
theorem splice_toList(u1 u2 u3 vs:List Value)(arr:Array Value)(off:Nat)(h1:u1.length=off)(h2:u2.length=vs.length)(ha:arr.toList=u1++(u2++u3)):(splice arr off vs).toList=u1++(vs++u3):=by
 simp only[splice,ha]
 rw[List.take_left' h1]
 have:(u1++(u2++u3)).drop (off+vs.length)=u3:=by
  rw[←List.append_assoc];exact List.drop_left' (by simp[h1,h2])
 rw[this];simp
theorem pre_split{us:List Value}{arr:Array Value}(h:∀(j:Nat) (v:Value),us[j]?=some v→arr[j]?=some v):∃rest,arr.toList=us++rest:=by
 refine⟨arr.toList.drop us.length,?_⟩
 have:us=arr.toList.take us.length:=by
  apply List.ext_getElem?
  intro j
  rw[List.getElem?_take]
  split
  ·rename_i hj
   have:=h j us[j] (by simp[hj])
   simp only[Array.getElem?_toList,this];simp[hj]
  ·rename_i hj;exact List.getElem?_eq_none (by omega)
 conv=>rhs;lhs;rw[this]
 exact(List.take_append_drop _ _).symm
theorem store_box(R:RelG N w0 M V0 K V O s a w)(o:Oper)(hdst:o.dst=none){b off:Nat}{x:Box}(hb:s.b b=some x)(hst:x.st=true)(xo:Operand)(vs:List Value)(cs:List AV)(hk:off+cs.length≤x.cs.length)(hz0:x.sz=0){fp:List Nat}(hn:fp.Nodup)(ho:∀t,xo=.tmp t→∀g∈fp,O g=some (true,t))(he:(∀t,xo≠.tmp t)→fp=[])
  (hw:hasOwn (s.ev xo)=false→fp=[]) (h:Rep V w K (x.sz==0) fp vs cs) (rd:List Nat)
  (hr:∀arr T fz,w.heap[(K b).1]?=some (.cells arr T fz)→thawed arr fz→off+vs.length≤arr.size→(execOp a.eval o).run P w=.ok .skip (putRow w (K b).1 (splice arr off vs) T fz)) :
  Step1 P N w0 M V0 K o (({ val:=.bad,set:=given xo (s.ev xo),put:=[(b,{ x with cs:=x.cs.take off++cs++x.cs.drop (off+cs.length) })],rd:=rd }:Eff).apply o.dst s) a w:=by
 obtain⟨fb,arr,T,fz,us,h1,h2,h3⟩:=R.bxr b x hb (.inl hz0)
 obtain⟨u1,u2,u3,f1,f2,f3,rfl,rfl,l1,l2,r1,r2,r3⟩:=h3.rep.seg off cs.length hk
 have hn1:=List.nodup_cons.1 h1
 obtain⟨m1,m2,m3⟩:=nodup3 hn1.2
 obtain⟨rest,harr⟩:=pre_split h3.pre
 have hvl:vs.length=cs.length:=h.len
 have hsz:off+vs.length≤arr.size:=by
  have:=congrArg List.length harr
  simp at this;omega
 have hrun:=hr arr T fz h3.hp h3.th hsz
 have hV0:V (K b).1=0:=by rw[h3.vis,hst];rfl
 let w':=putRow w (K b).1 (splice arr off vs) T fz
 have hOb:O (K b).1=some (false,b):=h2 _ List.mem_cons_self
 have hnx:Next V V w w':=⟨fun g off' hg=>by
   have:g≠(K b).1:=fun e=>by rw[e,hV0] at hg;omega
   simp only[World.cell?,w',putRow_other this],fun _=>Nat.le_refl _,by simp[w',putRow_size]⟩
 have hoth:∀g,O g≠some (false,b)→w'.heap[g]?=w.heap[g]?:=fun g hg=>putRow_other (fun e=>hg (by rw[e];exact hOb)) _ _ _
 have hfO:∀g∈fp,O g≠some (false,b):=fun g hg=>by
  cases xo with
  | tmp t=>rw[ho t rfl g hg];intro e;cases e
  | _=>rw[he (by intro t e;cases e)] at hg;cases hg
 have hsl:=splice_toList u1 u2 (u3++rest) vs arr off l1 (by omega) (by rw[harr];simp)
 refine⟨undef,w',K,V,fun g=>if g∈fp then some (false,b) else O g,.inr ⟨hrun,rfl⟩,?_,fun _ _=>rfl⟩
 rw[hdst]
 refine R.apply _ none _ (fun d' e=>by cases e) hnx (fun _ _=>rfl) ?_ ?_ ?_ ?_ ?_ ?_ ?_ (fun _ _ _=>rfl)
 ·intro g l hl ht hb'
  have hgb:l≠(false,b):=by
   rintro rfl
   have:=(hb' b rfl).1;simp[lookup] at this
  refine⟨hoth g (by rw[hl];intro e;cases e;exact hgb rfl),rfl,?_⟩
  have hg:g∉fp:=by
   intro hg
   cases xo with
   | tmp t =>
    have e:=ho t rfl g hg
    rw[hl] at e;cases e
    have:=(ht t rfl).2
    simp only[given] at this
    split at this
    ·simp[lookup] at this
    ·rename_i hh;rw[hw (by simpa using hh)] at hg;cases hg
   | _=>rw[he (by intro t e;cases e)] at hg;cases hg
  rw[if_neg hg];exact hl
 ·intro t z hne hl
  cases xo with
  | tmp t' =>
   simp only[given] at hl
   split at hl
   ·simp only[lookup] at hl
    split at hl
    ·rename_i e;subst e;cases hl
     obtain⟨fq,q1,q2,q3⟩:=R.tm t'
     exact⟨[],List.nodup_nil,by simp,q3.share.next hnx (by simp) [] (fun _ _=>rfl)⟩
    ·cases hl
   ·simp[lookup] at hl
  | _=>simp[given,lookup] at hl
 ·intro d e;cases e
 ·intro b' y hl
  simp only[lookup] at hl
  split at hl
  ·rename_i e;subst e;cases hl
   refine .inr ⟨f1++(fp++f3),splice arr off vs,T,fz,u1++(vs++u3),?_,?_,?_⟩
   ·have n0:=List.nodup_append.1 m2
    refine List.nodup_cons.2 ⟨?_,List.nodup_append.2 ⟨n0.1,List.nodup_append.2 ⟨hn,n0.2.1,?_⟩,?_⟩⟩
    ·intro hm
     simp only[List.mem_append] at hm
     rcases hm with hm | hm | hm
     ·exact hn1.1 (by simp[hm])
     ·exact hfO _ hm hOb
     ·exact hn1.1 (by simp[hm])
    ·intro x hx y hy e;subst e;exact hfO x hx (h2 x (by simp[hy]))
    ·intro x hx y hy e;subst e
     rcases List.mem_append.1 hy with hy | hy
     ·exact hfO x hy (h2 x (by simp[hx]))
     ·exact n0.2.2 x hx x hy rfl
   ·intro g hg
    show (if g∈fp then some (false,b) else O g)=_
    by_cases hgf:g∈fp
    ·simp[hgf]
    ·rw[if_neg hgf]
     rcases List.mem_cons.1 hg with rfl | hg
     ·exact hOb
     ·simp only[List.mem_append] at hg
      rcases hg with hg | hg | hg
      ·exact h2 g (by simp[hg])
      ·exact absurd hg hgf
      ·exact h2 g (by simp[hg])
   ·have hlen:(x.cs.take off++cs++x.cs.drop (off+cs.length)).length=x.cs.length:=by
     simp only[List.length_append,List.length_take,List.length_drop];omega
    have hu:∀m:Bool,∀{f u c},Rep V w K m f u c→(∀g∈f,g≠(K b).1)→Rep V w' K m f u c:=fun m f u c hr hf =>
     hr.mono hnx.cell hnx.le hnx.sz (fun g hg=>⟨putRow_other (hf g hg) _ _ _,rfl⟩) (fun _ _=>rfl)
    refine⟨putRow_same h3.hp _ _ _,?_,?_,?_,?_,?_,?_⟩
    ·unfold thawed;rw[splice_size _ _ _ hsz];exact h3.th
    ·intro j v hj
     rw[←Array.getElem?_toList,hsl]
     have:u1++(vs++(u3++rest))=(u1++(vs++u3))++rest:=by simp
     rw[this,List.getElem?_append_left (by exact(List.getElem?_eq_some_iff.1 hj).1)];exact hj
    ·have:=(hu _ r1 (fun g hg e=>hn1.1 (by rw[←e];simp[hg]))).app ((hu _ h (fun g hg e=>hfO g hg (by rw[e];exact hOb))).app (hu _ r3 (fun g hg e=>hn1.1 (by rw[←e];simp[hg]))))
     simpa [List.append_assoc] using this
    ·rw[h3.vis];simp only[hst,if_true]
    ·intro hz
     have:=h3.var hz
     refine⟨?_,hst⟩
     rw[splice_size _ _ _ hsz,this.1];simp;omega
    ·intro hz;exact absurd hz0 hz
  ·cases hl
 ·intro g l hl
  split at hl
  ·rename_i hg
   cases xo with
   | tmp t=>have:=R.rg g _ (ho t rfl g hg);exact⟨this.1,by simp[w',putRow_size];exact this.2⟩
   | _=>rw[he (by intro t e;cases e)] at hg;cases hg
  ·have:=R.rg g l hl;exact⟨this.1,by simp[w',putRow_size];exact this.2⟩
 ·intro g hg;simp[w',putRow_size];exact R.vr g hg
 ·refine⟨R.fr.os,R.fr.tape,R.fr.output,by simp[w',putRow_size];exact R.fr.sz,fun g hg hm=>?_,R.fr.dr⟩
  have:g≠(K b).1:=by
   rintro rfl
   rcases(R.rg _ _ hOb).1 with h | h
   ·omega
   ·exact hm h
  rw[putRow_other this];exact R.fr.old g hg hm
theorem tarrE_of{t e n z:Nat}{g:Bool}(h:tarrE P t=some (e,n,z,g)):∃i,P.underlying t=some (.array n e)∧P.info? e=some i∧i.size=z∧tagg P e=some g:=by
 unfold tarrE at h
 split at h
 ·rename_i n' e' hu
  split at h
  ·rename_i z' g' h1 h2
   simp only[Option.some.injEq,Prod.mk.injEq] at h
   obtain⟨rfl,rfl,rfl,rfl⟩:=h
   obtain⟨i,hi,rfl⟩:=Option.map_eq_some_iff.1 h1
   exact⟨i,hu,hi,rfl,h2⟩
  ·cases h
 ·cases h
theorem sound_index(R:RelG N w0 M V0 K V O s a w)(o:Oper)(hd:∀d,o.dst=some d→d<N){e:Eff}(h:opE P H fid o s=some e){t x i}(hop:o.op=.index t x i) :
  Step1 P N w0 M V0 K o (e.apply o.dst s) a w:=by
 simp only[opE,hop] at h
 obtain⟨f1,_,_,_,h1⟩:=R.ev x
 obtain⟨f2,_,_,_,h2⟩:=R.ev i
 split at h
 ·rename_i st k j hx hj
  rw[hx] at h1;rw[hj] at h2
  obtain⟨e1,-,-⟩:=inv_lit h1
  obtain⟨e2,-,-⟩:=inv_lit h2
  split at h
  ·rename_i hb
   simp only[Option.ite_none_right_eq_some,Option.some.injEq] at h
   obtain⟨ht,rfl⟩:=h
   refine step_pure R o hd _ _ [] ?_ (.lit rfl)
   unfold tstr at ht
   split at ht
   ·rename_i hu
    have:st[j.toNat]?=some (st[j.toNat]'hb.2):=by simp[hb.2]
    simp[execOp,hop,e1,e2,Instr.index,asIntOf,underlying,hu,hb.1,this]
   ·cases ht
  ·cases h
 ·rename_i cs k j hx hj
  rw[hx] at h1;rw[hj] at h2
  obtain⟨us,e1,r1⟩:=inv_agg h1
  obtain⟨e2,-,-⟩:=inv_lit h2
  split at h
  ·rename_i el n z g ht
   obtain⟨i,hu,hi,hz,hg⟩:=tarrE_of ht
   simp only[Option.ite_none_right_eq_some] at h
   obtain⟨⟨g1,g2,g3,g4⟩,h⟩:=h
   obtain⟨u1,u2,u3,p1,p2,p3,rfl,rfl,l1,l2,q1,q2,q3⟩:=r1.seg _ _ g3
   obtain rfl:=ownless_rep q2 g4
   have hex:List.take z (List.drop (j.toNat*z) (u1++(u2++u3)))=u2:=by rw[←l1,List.drop_left,←l2,List.take_left]
   split at h
   ·simp only[Option.some.injEq] at h
    subst h
    refine step_pure R o hd (.agg u2.toArray) _ [] ?_ (.u (.agg q2))
    simp[execOp,hop,e1,e2,Instr.index,asIntOf,underlying,hu,g1,g2,Go.sizeOf,Go.typeInfo,hi,hz,Go.part,tagg_run hg,hex]
   ·cases h
   ·rename_i c hnb hseg
    simp only[Option.some.injEq] at h
    subst h
    rw[hseg] at q2
    obtain⟨v,rfl⟩:∃v,u2=[v]:=by
     have:=q2.len;simp at this
     exact List.length_eq_one_iff.1 this
    refine step_pure R o hd v _ [] ?_ (.u (.one q2))
    have hv:(u1++([v]++u3)).toArray[j.toNat*z]?=some v:=by simp[←l1]
    simp[execOp,hop,e1,e2,Instr.index,asIntOf,underlying,hu,g1,g2,Go.sizeOf,Go.typeInfo,hi,hz,Go.part,tagg_run hg]
    simp at hv
    simp[hv]
   ·cases h
  ·cases h
 ·cases h
theorem tfieldE_of{t:TypeId}{f:Nat}{el off z g}(h:tfieldE P t f=some (el,off,z,g)):∃fs fd,P.underlying t=some (.struct fs)∧fs[f]?=some fd∧fd.type=el∧fd.offset=off∧tsize P el=some z∧tagg P el=some g:=by
 unfold tfieldE at h
 split at h
 ·rename_i fs hu
  split at h
  ·rename_i fd hf
   split at h
   ·rename_i z' g' h1 h2
    simp only[Option.some.injEq,Prod.mk.injEq] at h
    obtain⟨rfl,rfl,rfl,rfl⟩:=h
    exact⟨fs,fd,hu,hf,rfl,rfl,h1,h2⟩
   ·cases h
  ·cases h
 ·cases h
theorem sound_field(R:RelG N w0 M V0 K V O s a w)(o:Oper)(hd:∀d,o.dst=some d→d<N){e:Eff}(h:opE P H fid o s=some e)(hk:e.kl.all (·<1000)=true){ty x f}(hop:o.op=.field ty x f) :
  Step1 P N w0 M V0 K o (e.apply o.dst s) a w:=by
 simp only[opE,hop] at h
 split at h
 ·rename_i d cs t el off hdst htf hx
  obtain⟨fs,fd,hu,hf,rfl,rfl,hz,hg⟩:=tfieldE_of htf
  have hcell:∀{us:List Value} {v:Value},a.eval (.tmp t)=.agg us.toArray→us[fd.offset]?=some v→(execOp a.eval o).run P w=.ok (.value v) w:=fun {us v} e1 hv=>by
   obtain⟨i,hi,hsz⟩:∃i,P.info? fd.type=some i∧i.size=1:=by
    unfold tsize at hz
    obtain⟨i,hi,hs⟩:=Option.map_eq_some_iff.1 hz
    exact⟨i,hi,hs⟩
   have hv':us.toArray[fd.offset]?=some v:=by simpa using hv
   simp only[execOp,hop,Sem.run_bind,e1]
   simp[Instr.field,underlying,hu,hf,Go.part,tagg_run hg,Go.sizeOf,Go.typeInfo,hi,hsz,asAgg]
   simp at hv'
   simp[hv']
  obtain⟨fp,h1,h2,h3⟩:=R.tm t
  have hx':s.t t=.agg cs:=hx
  rw[hx'] at h3
  obtain⟨us,e1,r1⟩:=inv_agg h3
  have e1':a.eval (.tmp t)=.agg us.toArray:=e1
  have split1:∀{c:AV},cs[fd.offset]?=some c→∃u v1 v2 f1 fi f2,us=v1++(u::v2)∧v1.length=fd.offset∧us[fd.offset]?=some u∧fp=f1++(fi++f2)∧Rep V w K true fi [u] [c]∧Rep V w K true f1 v1 (cs.take fd.offset)∧Rep V w K true f2 v2 (cs.drop (fd.offset+1)):=fun {c} hc=>by
   obtain⟨hlt,hcc⟩:=List.getElem?_eq_some_iff.1 hc
   have ecs:cs=cs.take fd.offset++([c]++cs.drop (fd.offset+1)):=by
    have:=List.drop_eq_getElem_cons hlt
    rw[hcc] at this
    rw[List.singleton_append,←this,List.take_append_drop]
   rw[ecs] at r1
   obtain⟨f1,f',u1,u',rfl,rfl,k1,k2⟩:=Rep.split _ r1
   obtain⟨fi,f2,ui,u2,rfl,rfl,k3,k4⟩:=Rep.split [c] k2
   have hl1:u1.length=fd.offset:=by rw[k1.len,List.length_take];omega
   obtain⟨u,rfl⟩:∃u,ui=[u]:=List.length_eq_one_iff.1 (by rw[k3.len];rfl)
   exact⟨u,u1,u2,f1,fi,f2,rfl,hl1,by simp[←hl1],rfl,k3,k1,k4⟩
  split at h
  ·rename_i sz n ds hc
   simp only[Option.ite_none_right_eq_some,Option.some.injEq] at h
   obtain⟨⟨hs0,htd⟩,rfl⟩:=h
   obtain⟨u,v1,v2,f1,fi,f2,hus,hl1,hu1,rfl,k3,k1,k4⟩:=split1 hc
   refine thaw_gen R o hdst (hd d hdst) (by simpa using hk) htd (hcell e1' hu1) h1 h2 k3 hs0 ?_
   rw[show a.tmps.getD t undef=.agg us.toArray from e1,hus]
   have hsh:Rep V w K true [] [u] [.sl false sz n (shareL ds)]:=by
    have:=k3.share
    simpa [shareL,share] using this
   have hall:=k1.app (hsh.app k4)
   obtain⟨hlt,hcc⟩:=List.getElem?_eq_some_iff.1 hc
   rw[List.set_eq_take_append_cons_drop,if_pos hlt]
   exact .u (.agg (by simpa using hall))
  ·cases h
  ·rename_i c hn1 hn2 hc
   simp only[Option.ite_none_right_eq_some,Option.some.injEq] at h
   obtain⟨ho,rfl⟩:=h
   obtain⟨u,v1,v2,f1,fi,f2,hus,hl1,hu1,rfl,k3,k1,k4⟩:=split1 hc
   have:hasOwnL [c]=false:=by simp[hasOwnL,ho]
   obtain rfl:=ownless_rep k3 this
   exact step_pure R o hd u _ [] (hcell e1' hu1) (.u (.one k3))
  ·cases h
 ·cases h
end Evl
namespace Evl
open Go
variable {P:Program}{H:Hints}{fid:FuncId}{N:Nat}{w0 w w':World}{M:Nat→Prop}{V0 V V':Nat→Nat}{K K':Nat→Nat×Nat}{O O':Nat→Option Loc}{s:S}{a:Act}{fp:List Nat}{v:Value}
theorem sound_store0(R:RelG N w0 M V0 K V O s a w)(o:Oper){t:TypeId}{x xo:Operand}(hop:o.op=.store t x xo)(hdst:o.dst=none){b off k:Nat}{bx:Box}{cs:List AV}(hx:s.ev x=.ptr b off)(hk:tsize P t=some k)(hc:cellsOf (s.ev xo)=some cs)(hb:s.b b=some bx)(hst:bx.st=true)(hl:cs.length=k)(hoff:off+k≤bx.cs.length)(hz:bx.sz=0) :
  Step1 P N w0 M V0 K o (({ val:=.bad,set:=given xo (s.ev xo),put:=[(b,{ bx with cs:=bx.cs.take off++cs++bx.cs.drop (off+k) })],rd:=[b] }:Eff).apply o.dst s) a w:=by
 obtain⟨f1,_,_,_,h1⟩:=R.ev x
 rw[hx] at h1
 obtain⟨e1,-⟩:=inv_ptr h1
 obtain⟨fp,q1,q2,q3,q4⟩:=R.ev xo
 obtain⟨us,hv,hr,-⟩:=cells_rep q4 hc
 subst hl
 refine store_box (P:=P) R o hdst hb hst xo us cs hoff hz q1 q2 q3 (ownless_v q4) (by simpa [hz] using hr) [b] ?_
 intro arr T fz hg ht hsz
 have:=run_storeVar (P:=P) (w:=w) (t:=t) (g:=(K b).1) (o:=off) hk (a.eval xo) us hv hr.len hg ht hr.oc hsz
 simp[execOp,hop,e1,Instr.storeAt,Instr.sureAddr,this]
theorem RelG.takeL(R:RelG N w0 M V0 K V O s a w)(set:List (Nat×AV))(hset:∀t z,lookup t set=some z→z=share (s.t t))(dst:Option Nat)(v:Value)(y:AV)(rd:List Nat)(hd:∀d,dst=some d→d<N){fp:List Nat}(hn:fp.Nodup)(ho:∀g∈fp,∃t,O g=some (true,t)∧lookup t set≠none)(h:RepV V w K fp v y) :
  ∃O',RelG N w0 M V0 K V O' (({ val:=y,set:=set,rd:=rd }:Eff).apply dst s) (a.put dst v) w:=by
 refine⟨fun g=>if g∈fp then dst.map (fun d=>(true,d)) else if O g=dst.map (fun d=>(true,d)) then none else O g,R.apply _ dst v hd (Next.refl V w) (fun _ _=>rfl) ?_ ?_ ?_ ?_ ?_ R.vr R.fr (fun _ _ _=>rfl)⟩
 ·intro g l hl ht hb
  refine⟨rfl,rfl,?_⟩
  have hg:g∉fp:=by
   intro hg
   obtain⟨t,e,hne⟩:=ho g hg
   rw[hl] at e;cases e
   exact hne (ht t rfl).2
  rw[if_neg hg,if_neg ?_];exact hl
  rw[hl]
  cases dst with
  | none=>simp
  | some d=>simp only[Option.map_some];intro e;cases e;exact(ht d rfl).1 rfl
 ·intro t z hne hl
  obtain rfl:=hset t z hl
  obtain⟨fq,h1,h2,h3⟩:=R.tm t
  exact⟨[],List.nodup_nil,by simp,h3.share⟩
 ·intro d hd;subst hd
  exact⟨fp,hn,fun g hg=>by simp[hg],h⟩
 ·intro b x hl;simp[lookup] at hl
 ·intro g l hl
  split at hl
  ·rename_i hg
   obtain⟨t,e,-⟩:=ho g hg
   exact R.rg g _ e
  ·split at hl
   ·cases hl
   ·exact R.rg g l hl
theorem lookup_given{t:Nat}{z:AV}{x:Operand}(h:lookup t (given x (s.ev x))=some z):x=.tmp t∧z=share (s.t t)∧hasOwn (s.ev x)=true:=by
 cases x with
 | tmp t' =>
  simp only[given] at h
  split at h
  ·rename_i hh
   simp only[lookup] at h
   split at h
   ·rename_i e;subst e;cases h;exact⟨rfl,rfl,hh⟩
   ·cases h
  ·simp[lookup] at h
 | _=>simp[given,lookup] at h
theorem lookup_append{α:Type}(t:Nat):∀(l l':List (Nat×α)),lookup t (l++l')=match lookup t l with | some z=>some z | none=>lookup t l'
 | [],l'=>by simp[lookup]
 | (k,z)::l,l'=>by
  simp only[List.cons_append,lookup]
  split
  ·rfl
  ·exact lookup_append t l l'
theorem lookup_mem{α:Type}{t:Nat}:∀{l:List (Nat×α)},lookup t l≠none↔t∈l.map (·.1)
 | []=>by simp[lookup]
 | (k,z)::l=>by
  simp only[lookup,List.map_cons,List.mem_cons]
  split
  ·rename_i e;simp[e]
  ·rename_i e;rw[lookup_mem (l:=l)];simp[Ne.symm e]
theorem fill_one(arr:Array Value)(off:Nat)(vs:List Value)(h:off+vs.length≤arr.size) :
  (vs.toArray.zipIdx.foldl (fun cs (c,j)=>cs.setIfInBounds (off+j) c) arr).toList=arr.toList.take off++vs++arr.toList.drop (off+vs.length):=by
 rw[←Array.foldl_toList]
 simp only[Array.toList_zipIdx]
 have key:∀(vs:List Value) (i:Nat) (arr:Array Value),off+i+vs.length≤arr.size→((vs.zipIdx i).foldl (fun cs (c,j)=>cs.setIfInBounds (off+j) c) arr).toList=arr.toList.take (off+i)++vs++arr.toList.drop (off+i+vs.length):=by
  intro vs
  induction vs with
  | nil=>intro i arr _;simp
  | cons v vs ih =>
   intro i arr hl
   simp only[List.zipIdx_cons,List.foldl_cons]
   rw[ih (i+1) _ (by simp at hl ⊢;omega)]
   have hl':off+i<arr.toList.length:=by simp at hl ⊢;omega
   simp only[Array.toList_setIfInBounds]
   rw[List.take_set,List.drop_set_of_lt (by omega)]
   rw[←Nat.add_assoc,List.take_succ_eq_append_getElem hl']
   rw[List.set_append]
   simp only[List.length_take,Nat.min_eq_left (Nat.le_of_lt hl'),Nat.lt_irrefl,if_false,Nat.sub_self,List.set_cons_zero]
   simp[Nat.add_assoc,Nat.add_comm,Nat.add_left_comm]
 have:=key vs 0 arr (by simpa using h)
 simpa using this
theorem noDup_iff:∀{l:List Nat},noDup l=true→l.Nodup
 | [],_=>List.nodup_nil
 | x::l,h=>by
  simp only[noDup,Bool.and_eq_true,Bool.not_eq_true',List.contains_eq_mem,decide_eq_false_iff_not] at h
  exact List.nodup_cons.2 ⟨h.1,noDup_iff h.2⟩
theorem partsGiven_share:∀{ps:List (Nat×Operand)} {t:Nat} {z:AV},lookup t (partsGiven s ps)=some z→z=share (s.t t)
 | [],t,z,h=>by simp[partsGiven,lookup] at h
 | (i,x)::ps,t,z,h=>by
  simp only[partsGiven,lookup_append] at h
  split at h
  ·rename_i y hy;cases h;exact(lookup_given hy).2.1
  ·exact partsGiven_share h
theorem fill_both(R:RelG N w0 M V0 K V O s a w)(pl:Nat→Option (Nat×Nat)):∀(ps:List (Nat×Operand)) (qs:List (Nat×List AV)) (cs cs':List AV) (arr:Array Value) (fp:List Nat) (pre:List Nat),
  partsOf s ps=some qs→fillG pl qs cs=some cs'→(pre++(partsGiven s ps).map (·.1)).Nodup→Rep V w K true fp arr.toList cs→fp.Nodup→(∀g∈fp,∃t,O g=some (true,t)∧t∈pre) →
  ∃arr' fp',Instr.fill pl arr (ps.map fun p=>(p.1,a.eval p.2))=some arr'∧Rep V w K true fp' arr'.toList cs'∧fp'.Nodup∧∀g∈fp',∃t,O g=some (true,t)∧t∈pre++(partsGiven s ps).map (·.1):=by
 intro ps
 induction ps with
 | nil =>
  intro qs cs cs' arr fp pre hq hf hn hr hnd ho
  cases hq
  simp only[fillG,Option.some.injEq] at hf;subst hf
  exact⟨arr,fp,rfl,hr,hnd,by simpa [partsGiven] using ho⟩
 | cons p ps ih =>
  obtain⟨i,x⟩:=p
  intro qs cs cs' arr fp pre hq hf hn hr hnd ho
  simp only[partsOf] at hq
  split at hq
  ·rename_i xs r hx hps
   cases hq
   simp only[fillG] at hf
   split at hf
   ·rename_i off size hpl
    simp only[Option.ite_none_right_eq_some] at hf
    obtain⟨⟨hl,hle⟩,hf⟩:=hf
    obtain⟨fx,n1,o1,e1,r1⟩:=R.ev x
    obtain⟨us,hv,hru,-⟩:=cells_rep r1 hx
    obtain⟨u1,u2,u3,f1,f2,f3,hu,rfl,l1,l2,s1,s2,s3⟩:=hr.seg off size hle
    obtain⟨m1,m2,m3⟩:=nodup3 hnd
    have hul:us.length=size:=hru.len.trans hl
    have hsz:off+us.length≤arr.size:=by
     have:=hr.len;simp at this;omega
    let arr1:Array Value:=(u1++(us++u3)).toArray
    have hfill:((a.eval x).cells.zipIdx.foldl (fun cs (c,j)=>cs.setIfInBounds (off+j) c) arr)=arr1:=by
     apply Array.ext'
     rw[hv,fill_one arr off us hsz,hu]
     simp only[arr1]
     rw[List.take_left' l1]
     have:(u1++(u2++u3)).drop (off+us.length)=u3:=by
      rw[←List.append_assoc];exact List.drop_left' (by simp[l1,l2,hul])
     rw[this];simp
    have hfx:∀g∈fx,∃t,O g=some (true,t)∧t∈(given x (s.ev x)).map (·.1):=by
     intro g hg
     cases x with
     | tmp t =>
      refine⟨t,o1 t rfl g hg,?_⟩
      simp only[given]
      split
      ·simp
      ·rename_i hh;rw[ownless_v r1 (by simpa using hh)] at hg;cases hg
     | _=>rw[e1 (by intro t e;cases e)] at hg;cases hg
    have n0:=List.nodup_append.1 m2
    have hdis:∀g∈fx,g∉f1++f3:=by
     intro g hg hm
     obtain⟨t,ht,htm⟩:=hfx g hg
     obtain⟨t',ht',htm'⟩:=ho g (by rcases List.mem_append.1 hm with hm | hm <;> simp[hm])
     rw[ht] at ht';cases ht'
     exact(List.nodup_append.1 hn).2.2 t htm' t (by simp only[partsGiven,List.map_append,List.mem_append];exact .inl htm) rfl
    obtain⟨arr',fp',g1,g2,g3,g4⟩:=ih r _ cs' arr1 (f1++(fx++f3)) (pre++(given x (s.ev x)).map (·.1)) hps hf
     (by simpa [partsGiven,List.append_assoc] using hn)
     (by have:=s1.app (hru.app s3);simp only[arr1];simpa [List.append_assoc] using this)
     (List.nodup_append.2 ⟨n0.1,List.nodup_append.2 ⟨n1,n0.2.1,fun x hx y hy e=>hdis x hx (by subst e;simp[hy])⟩,fun x hx y hy e=>by
      subst e
      rcases List.mem_append.1 hy with hy | hy
      ·exact hdis x hy (by simp[hx])
      ·exact n0.2.2 x hx x hy rfl⟩)
     (by
      intro g hg
      simp only[List.mem_append] at hg
      rcases hg with hg | hg | hg
      ·obtain⟨t,h1,h2⟩:=ho g (by simp[hg]);exact⟨t,h1,by simp[h2]⟩
      ·obtain⟨t,h1,h2⟩:=hfx g hg;exact⟨t,h1,by simp only[List.mem_append];exact .inr h2⟩
      ·obtain⟨t,h1,h2⟩:=ho g (by simp[hg]);exact⟨t,h1,by simp[h2]⟩)
    refine⟨arr',fp',?_,g2,g3,by simpa [partsGiven,List.append_assoc] using g4⟩
    simp only[List.map_cons,Instr.fill,hpl,hfill]
    rw[if_neg]
    ·exact g1
    ·rw[hv];simp[hul];have:=hr.len;simp at this;omega
   ·cases hf
  ·cases hq
theorem tplace_run{t:TypeId}{pl:Nat→Option (Nat×Nat)}{z:List AV}(hz:tzero P t=some z)(h:tplace P t=some pl)(parts:Array (Nat×Value))(arr:Array Value)(hf:∀zv:Value,(P.info? t).bind (·.zero)=some zv→Instr.fill pl zv.cells parts.toList=some arr)(w:World) :
  (Instr.build t parts).run P w=.ok (.agg arr) w:=by
 obtain⟨i,zv,hi,hzv,-,-⟩:=tzero_of hz
 have hfill:=hf zv (by rw[hi];exact hzv)
 unfold tplace at h
 split at h
 ·rename_i n k hta
  cases h
  obtain⟨e,j,hu,hj,hs⟩:=tarr_of hta
  simp[Instr.build,zeroValue,Go.typeInfo,hi,hzv,underlying,hu,Go.sizeOf,hj,hs,hfill]
 ·simp only[Option.map_eq_some_iff] at h
  obtain⟨l,hl,rfl⟩:=h
  unfold tfields at hl
  split at hl
  ·rename_i fs hu
   have hm:∀(fl:List Field) (l:List (Nat×Nat)),allSome (fl.map fun f=>(tsize P f.type).map fun k=>(f.offset,k))=some l →
     (fl.mapM (m:=Sem) fun f=>(do pure (f.offset,←Go.sizeOf f.type))).run P w=.ok l w:=by
    intro fl
    induction fl with
    | nil=>intro l h;cases h;simp
    | cons f fl ih =>
     intro l h
     simp only[List.map_cons] at h
     cases hf:tsize P f.type with
     | none=>simp[hf,allSome] at h
     | some k =>
      simp only[hf,Option.map_some,allSome,Option.map_eq_some_iff] at h
      obtain⟨l',hl',rfl⟩:=h
      obtain⟨j,hj,hs⟩:=info_of hf
      have h1:((do pure (f.offset,←Go.sizeOf f.type)):Sem (Nat×Nat)).run P w=.ok (f.offset,k) w:=by simp[Go.sizeOf,Go.typeInfo,hj,hs]
      rw[List.mapM_cons,Sem.run_bind,h1,Result.andThen_ok,Sem.run_bind,ih l' hl',Result.andThen_ok];rfl
   have:=hm fs.toList l hl
   have hfl:(fs.mapM (m:=Sem) fun f=>(do pure (f.offset,←Go.sizeOf f.type))).run P w=.ok l.toArray w:=by
    rw[←Array.toList_mapM] at this
    simp only[Sem.run_map] at this
    cases hr:(fs.mapM (m:=Sem) fun f=>(do pure (f.offset,←Go.sizeOf f.type))).run P w with
    | ok b w1=>rw[hr] at this;simp at this;obtain⟨rfl,rfl⟩:=this;simp
    | halt b w1=>rw[hr] at this;simp at this
   simp only[Instr.build,zeroValue,Go.typeInfo,underlying,Sem.run_bind,run_program,Result.andThen_ok,hi,hzv,hu,Sem.run_pure,hfl]
   have e:(fun x:Nat=>l.toArray[x]?)=fun i:Nat=>l[i]?:=by funext x;simp
   rw[e,hfill];rfl
  ·cases hl
theorem sound_build(R:RelG N w0 M V0 K V O s a w)(o:Oper)(hd:∀d,o.dst=some d→d<N){e:Eff}(h:opE P H fid o s=some e){t parts}(hop:o.op=.build t parts) :
  Step1 P N w0 M V0 K o (e.apply o.dst s) a w:=by
 simp only[opE,hop] at h
 split at h
 ·rename_i z ps pl hz hps hpl
  simp only[Option.ite_none_right_eq_some,Option.map_eq_some_iff] at h
  obtain⟨hnd,cs,hf,rfl⟩:=h
  obtain⟨i,zv,hi,hzv,rfl,hoc⟩:=tzero_of hz
  have hr0:=rep_of_values (V:=V) (w:=w) (K:=K) (m:=true) zv.cells.toList hoc
  obtain⟨arr',fp',g1,g2,g3,g4⟩:=fill_both R pl parts.toList ps _ cs zv.cells [] [] hps hf (by simpa using noDup_iff hnd) hr0 List.nodup_nil (by simp)
  have hrun:=tplace_run (P:=P) hz hpl (parts.map fun p=>(p.1,a.eval p.2)) arr' (fun zv' hz'=>by
   rw[hi] at hz';simp only[Option.bind_some,hzv,Option.some.injEq] at hz';subst hz'
   simpa using g1) w
  obtain⟨O',h⟩:=R.takeL (partsGiven s parts.toList) (fun t z=>partsGiven_share) o.dst (.agg arr'.toList.toArray) (.agg cs) [] hd g3 (fun g hg=>by
   obtain⟨t,h1,h2⟩:=g4 g hg
   exact⟨t,h1,lookup_mem.2 (by simpa using h2)⟩) (.u (.agg g2))
  refine⟨.agg arr'.toList.toArray,w,K,V,O',.inl ?_,h,fun _ _=>rfl⟩
  simp only[execOp,hop,Sem.run_bind,hrun,Result.andThen_ok,Sem.run_pure,Array.toArray_toList]
 ·cases h
end Evl
namespace Evl
open Go
variable {P:Program}{H:Hints}{fid:FuncId}{N:Nat}{w0 w w':World}{M:Nat→Prop}{V0 V V':Nat→Nat}{K K':Nat→Nat×Nat}{O O':Nat→Option Loc}{s:S}{a:Act}{fp:List Nat}{v:Value}
def agree(looks rd:List Nat)(s u:S):Prop:=(∀t∈looks,u.t t=s.t t)∧∀b∈rd,u.b b=s.b b
abbrev GP:=(Nat→Prop)→(Nat→Nat)→World→Prop
def EntryOk(P:Program)(G:GP)(ops:Array Oper)(x:LogE)(s:S):Prop :=
 ∀(N:Nat) (w0:World) (M:Nat→Prop) (V0 V:Nat→Nat) (K:Nat→Nat×Nat) (O:Nat→Option Loc) (u:S) (a:Act) (w:World),G M V0 w0→RelG N w0 M V0 K V O u a w→agree x.looks x.eff.rd s u→(∀d,x.dst=some d→d<N) →
  ∀(Q:Exit→Act→World→Prop) (C:Act→World→Prop),(∀a' w' K' V' O',RelG N w0 M V0 K' V' O' (x.eff.apply x.dst u) a' w'→(∀b,1000≤b→K' b=K b)→C a' w')→wpOp P ops Q x.i C a w
inductive Chain(P:Program)(G:GP)(ops:Array Oper):S→List LogE→S→Prop
 | nil (s1:S):Chain P G ops s1 [] s1
 | cons (s1:S) (x:LogE) (lg:List LogE) (s2:S):EntryOk P G ops x s1→Chain P G ops (x.eff.apply x.dst s1) lg s2→Chain P G ops s1 (x::lg) s2
theorem chain_wp{G:GP}{ops:Array Oper}{lg:List LogE}{s s':S}(h:Chain P G ops s lg s'):∀{N w0 M V0 V K O a w},G M V0 w0→RelG N w0 M V0 K V O s a w→(∀x∈lg,∀d,x.dst=some d→d<N) →
  ∀(Q:Exit→Act→World→Prop),(∀a' w' K' V' O',RelG N w0 M V0 K' V' O' s' a' w'→(∀b,1000≤b→K' b=K b)→Q .normal a' w')→wpOps P ops Q (lg.map (·.i)) a w:=by
 induction h with
 | nil s=>intro N w0 M V0 V K O a w _ R _ Q hQ;exact hQ a w K V O R (fun _ _=>rfl)
 | cons s x lg s' he _ ih =>
  intro N w0 M V0 V K O a w hg R hd Q hQ
  simp only[List.map_cons,wpOps_cons]
  refine he N w0 M V0 V K O s a w hg R ⟨fun _ _=>rfl,fun _ _=>rfl⟩ (hd x (by simp)) Q _ ?_
  intro a' w' K' V' O' R' hK
  exact ih hg R' (fun y hy=>hd y (by simp[hy])) Q (fun a'' w'' K'' V'' O'' R'' hK''=>hQ _ _ _ _ _ R'' fun b hb=>(hK'' b hb).trans (hK b hb))
end Evl
namespace Evl
open Go
variable {P:Program}{H:Hints}{fid:FuncId}{N:Nat}{w0 w w':World}{M:Nat→Prop}{V0 V V':Nat→Nat}{K K':Nat→Nat×Nat}{O O':Nat→Option Loc}{s:S}{a:Act}{fp:List Nat}{v:Value}
def vfz (V:Nat→Nat)(K:Nat→Nat×Nat)(O:Nat→Option Loc)(s:S)(ks:List Nat):Nat→Nat:=fun g =>
 match O g with
 | some (false,r)=>if r∈ks∧g=(K r).1 then (match s.b r with | some x=>max (V g) x.cs.length | none=>V g) else V g
 | _=>V g
theorem vfz_le(ks:List Nat)(g:Nat):V g≤vfz V K O s ks g:=by
 unfold vfz
 split
 ·split
  ·split
   ·exact Nat.le_max_left _ _
   ·exact Nat.le_refl _
  ·exact Nat.le_refl _
 ·exact Nat.le_refl _
theorem vfz_other(ks:List Nat){g:Nat}(h:∀r∈ks,O g=some (false,r)→g≠(K r).1):vfz V K O s ks g=V g:=by
 unfold vfz
 split
 ·rename_i r hr
  split
  ·rename_i hh;exact absurd hh.2 (h r hh.1 hr)
  ·rfl
 ·rfl
theorem vfz_row(R:RelG N w0 M V0 K V O s a w){ks:List Nat}{r:Nat}{x:Box}(hr:r∈ks)(hb:s.b r=some x)(hx:x.sz=0∨x.cs≠[]∨(K r).2≠0):vfz V K O s ks (K r).1=x.cs.length:=by
 obtain⟨fb,arr,T,fz,us,h1,h2,h3⟩:=R.bxr r x hb hx
 have hO:=h2 _ List.mem_cons_self
 unfold vfz
 rw[hO];simp only[hr,and_self,if_true,hb,h3.vis]
 split <;> omega
theorem vfz_vr(R:RelG N w0 M V0 K V O s a w)(ks:List Nat):∀g,0<vfz V K O s ks g→g<w.heap.size:=by
 intro g hg
 unfold vfz at hg
 split at hg
 ·rename_i r hr;exact(R.rg g _ hr).2
 ·exact R.vr g hg
theorem Rep.vmono{m us cs}(h:Rep V w K m fp us cs)(hV:∀g,V g≤V' g)(ho:∀g∈fp,V' g=V g):Rep V' w K m fp us cs :=
 h.mono (fun _ _ _=>rfl) hV (Nat.le_refl _) (fun g hg=>⟨rfl,ho g hg⟩) (fun _ _=>rfl)
theorem freezeL_nodup:∀{cs ys:List AV} {ks:List Nat},freezeL s.b cs=some (ys,ks)→ks.Nodup:=by
 intro cs
 induction cs with
 | nil=>intro ys ks h;cases h;exact List.nodup_nil
 | cons c cs ih =>
  intro ys ks h
  unfold freezeL at h
  split at h
  ·simp_all
  ·rename_i r n cs' e
   obtain⟨rfl,rfl⟩:=by simpa using e
   split at h
   ·rename_i x ys' ks' hb hf
    simp only[Option.ite_none_right_eq_some,Option.some.injEq,Prod.mk.injEq] at h
    obtain⟨⟨_,_,hr⟩,rfl,rfl⟩:=h
    exact List.nodup_cons.2 ⟨hr,ih hf⟩
   ·cases h
  ·cases h
  ·rename_i c' cs' _ _ e
   obtain⟨rfl,rfl⟩:=by simpa using e
   split at h
   ·rename_i ys' ks' hf
    cases h;exact ih hf
   ·cases h
theorem freeze_rep(R:RelG N w0 M V0 K V O s a w)(V':Nat→Nat)(hV:∀g,V g≤V' g)(ks:List Nat)(hother:∀g,(∀r∈ks,O g=some (false,r)→g≠(K r).1)→V' g=V g)(hrow:∀r∈ks,∀x,s.b r=some x→(x.sz=0∨x.cs≠[]∨(K r).2≠0)→V' (K r).1=x.cs.length) :
  ∀(cs ys:List AV) (us:List Value) (fp ks':List Nat),freezeL s.b cs=some (ys,ks')→Rep V w K true fp us cs→(∀r∈ks',r∈ks)→fp.Nodup→(∀g∈fp,∀r∈ks,O g=some (false,r)→g≠(K r).1)→(∀g∈fp,∀r∈ks',O g≠some (false,r)) →
  ∃fq,Rep V' w K false fq us ys∧fq.Nodup∧∀g∈fq,g∈fp∨∃r∈ks',O g=some (false,r):=by
 intro cs
 induction cs with
 | nil =>
  intro ys us fp ks' h hr _ _ _ _
  cases h;cases hr
  exact⟨[],.nil,List.nodup_nil,by simp⟩
 | cons c cs ih =>
  intro ys us fp ks' h hr hks hn hd hd'
  unfold freezeL at h
  split at h
  ·simp_all
  ·rename_i r n cs' e
   obtain⟨rfl,rfl⟩:=by simpa using e
   split at h
   ·rename_i x ys' ks1 hb hf
    simp only[Option.ite_none_right_eq_some,Option.some.injEq,Prod.mk.injEq] at h
    obtain⟨⟨hz,hlen,hrk⟩,rfl,rfl⟩:=h
    cases hr with
    | mv b h0 hr =>
     obtain⟨fq,q1,q2,q3⟩:=ih ys' _ _ ks1 hf hr (fun r hr=>hks r (by simp[hr])) hn hd (fun g hg r hr=>hd' g hg r (by simp[hr]))
     have hcs:x.cs=[]:=List.eq_nil_of_length_eq_zero (by rw[←hlen];simp)
     rw[hcs]
     exact⟨fq,.on q1,q2,fun g hg=>(q3 g hg).imp id fun ⟨r',hr',e⟩=>⟨r',by simp[hr'],e⟩⟩
    | ms b h0 hn1 hr =>
     obtain⟨fq,q1,q2,q3⟩:=ih ys' _ _ ks1 hf hr (fun r hr=>hks r (by simp[hr])) hn hd (fun g hg r hr=>hd' g hg r (by simp[hr]))
     obtain⟨fb,arr,T,fz,ws,h1,h2,h3⟩:=R.bxr r x hb (.inr (.inr (by omega)))
     have hnb:=List.nodup_cons.1 h1
     obtain⟨cap',hcap',hrow'⟩:=h3.row hz
     have hce:cap'=_:=Nat.succ.inj (hcap'.symm.trans h0)
     subst hce
     have hwl:ws.length=n*x.sz:=by rw[h3.rep.len,hlen]
     have hxz:(x.sz==0)=false:=by simp[hz]
     have hrep:=h3.rep
     rw[hxz] at hrep
     refine⟨(K r).1::(fb++fq),.ow _ T arr fz ws hn1 h3.hp h3.th hrow'.1 hwl hz h3.pre ?_ (hrep.vmono hV fun g hg=>hother g ?_) q1,?_,?_⟩
     ·rw[hrow r (hks r (by simp)) x hb (.inr (.inr (by omega)))];exact hlen.symm.trans hwl.symm
     ·intro r' hr' hO e
      rw[h2 g (by simp[hg])] at hO
      cases hO
      exact hnb.1 (by rw[←e];exact hg)
     ·have hdis:∀g∈(K r).1::fb,g∉fq:=by
       intro g hg hm
       have hO:=h2 g hg
       rcases q3 g hm with h | ⟨r',hr',hO'⟩
       ·exact hd' g h r (by simp) hO
       ·rw[hO] at hO';cases hO';exact hrk hr'
      rw[←List.cons_append]
      exact List.nodup_append.2 ⟨h1,q2,fun x hx y hy e=>hdis x hx (by rw[e];exact hy)⟩
     ·intro g hg
      rw[←List.cons_append] at hg
      rcases List.mem_append.1 hg with hg | hg
      ·exact .inr ⟨r,by simp,h2 g hg⟩
      ·rcases q3 g hg with h | ⟨r',hr',hO'⟩
       ·exact .inl h
       ·exact .inr ⟨r',by simp[hr'],hO'⟩
   ·cases h
  ·cases h
  ·rename_i c' cs' hc1 hc2 e
   obtain⟨rfl,rfl⟩:=by simpa using e
   split at h
   ·rename_i ys' ks1 hf
    cases h
    cases hr with
    | lit hp hr=>obtain⟨fq,q1,q2,q3⟩:=ih _ _ _ _ hf hr hks hn hd hd';exact⟨fq,.lit hp q1,q2,q3⟩
    | nl hr=>obtain⟨fq,q1,q2,q3⟩:=ih _ _ _ _ hf hr hks hn hd hd';exact⟨fq,.nl q1,q2,q3⟩
    | ns hr=>obtain⟨fq,q1,q2,q3⟩:=ih _ _ _ _ hf hr hks hn hd hd';exact⟨fq,.ns q1,q2,q3⟩
    | on hr=>obtain⟨fq,q1,q2,q3⟩:=ih _ _ _ _ hf hr hks hn hd hd';exact⟨fq,.on q1,q2,q3⟩
    | sh ad vs h1 h2 h3 h6 hr =>
     obtain⟨fq,q1,q2,q3⟩:=ih _ _ _ _ hf hr hks hn hd hd'
     exact⟨fq,.sh ad vs h1 (h2.mono hV (Nat.le_refl _)) h3 (h6.vmono hV (by simp)) q1,q2,q3⟩
    | ow g T arr fz vs h1 h2 h3 h4 h5 h6 h7 h8 h9 hr =>
     have n1:=List.nodup_cons.1 hn
     have n2:=List.nodup_append.1 n1.2
     obtain⟨fq,q1,q2,q3⟩:=ih _ _ _ _ hf hr hks n2.2.1 (fun g hg=>hd g (by simp[hg])) (fun g hg=>hd' g (by simp[hg]))
     refine⟨g::(_++fq),.ow g T arr fz vs h1 h2 h3 h4 h5 h6 h7 ((hother g fun r hr hO=>hd g (by simp) r hr hO).trans h8) (h9.vmono hV fun g hg=>hother g fun r hr hO=>hd g (by simp[hg]) r hr hO) q1,?_,?_⟩
     ·have hg:g∉fq:=by
       intro hm
       rcases q3 g hm with h | ⟨r',hr',hO'⟩
       ·exact n1.1 (by simp[h])
       ·exact hd' g (by simp) r' hr' hO'
      refine List.nodup_cons.2 ⟨?_,List.nodup_append.2 ⟨n2.1,q2,fun x hx y hy e=>?_⟩⟩
      ·intro hm
       rcases List.mem_append.1 hm with hm | hm
       ·exact n1.1 (by simp[hm])
       ·exact hg hm
      ·subst e
       rcases q3 x hy with h | ⟨r',hr',hO'⟩
       ·exact n2.2.2 x hx x h rfl
       ·exact hd' x (by simp[hx]) r' hr' hO'
     ·intro x hx
      rcases List.mem_cons.1 hx with rfl | hx
      ·exact .inl (by simp)
      ·rcases List.mem_append.1 hx with hx | hx
       ·exact .inl (by simp[hx])
       ·rcases q3 x hx with h | h
        ·exact .inl (by simp[h])
        ·exact .inr h
    | ms b h0 hn1 hr=>exact absurd rfl (hc1 b _)
    | mv b h0 hr=>exact absurd rfl (hc1 b _)
    | bd u hu hr=>exact absurd rfl hc2
   ·cases h
end Evl
namespace Evl
open Go
variable {P:Program}{H:Hints}{fid:FuncId}{N:Nat}{w0 w w':World}{M:Nat→Prop}{V0 V V':Nat→Nat}{K K':Nat→Nat×Nat}{O O':Nat→Option Loc}{s:S}{a:Act}{fp:List Nat}{v:Value}
inductive RepR(V:Nat→Nat)(w:World):List Nat→Value→AV→Prop
 | v (K:Nat→Nat×Nat) (fp:List Nat) (v:Value) (r:AV):RepU V w K fp v r→ids r=[]→RepR V w fp v r
 | nbx (K:Nat→Nat×Nat) (g:Nat) (T:TypeId) (arr:Array Value) (fz:Nat×Nat) (us:List Value) (fq:List Nat) (cs:List AV):w.heap[g]?=some (.cells arr T fz)→thawed arr fz→arr.size=us.length→(∀(j:Nat) (v:Value),us[j]?=some v→arr[j]?=some v)→V g=0→Rep V w K false fq us cs→RepR V w (g::fq) (.pointer (some ⟨g,0,none⟩)) (.nbx cs)
inductive RepQ(V:Nat→Nat)(w:World):List Nat→Value→AV→Prop
 | one (fp:List Nat) (v:Value) (r:AV):RepR V w fp v r→RepQ V w fp v r
 | tup (K:Nat→Nat×Nat) (fp:List Nat) (us:List Value) (rs:List AV):RepT V w K fp us rs→idsL rs=[]→RepQ V w fp (.tuple us.toArray) (.tup rs)
structure Frz(V:Nat→Nat)(K:Nat→Nat×Nat)(O:Nat→Option Loc)(s:S)(ks:List Nat)(V':Nat→Nat):Prop where
 le:∀g,V g≤V' g
 other:∀g,(∀r∈ks,O g=some (false,r)→g≠(K r).1)→V' g=V g
 row:∀r∈ks,∀x,s.b r=some x→(x.sz=0∨x.cs≠[]∨(K r).2≠0)→V' (K r).1=x.cs.length
theorem frz(R:RelG N w0 M V0 K V O s a w)(ks:List Nat):Frz V K O s ks (vfz V K O s ks) :=
 ⟨vfz_le ks,fun _ h=>vfz_other ks h,fun _ hr _ hb hx=>vfz_row R hr hb hx⟩
def rowsOf(s:S)(ks:List Nat):List Nat:=ks.filter fun r=>match s.b r with | some x=>x.sz != 0 | none=>false
theorem freezeL_rows:∀{cs ys:List AV} {ks:List Nat},freezeL s.b cs=some (ys,ks)→∀r∈ks,∃x,s.b r=some x∧x.sz≠0:=by
 intro cs
 induction cs with
 | nil=>intro ys ks h;cases h;simp
 | cons c cs ih =>
  intro ys ks h
  unfold freezeL at h
  split at h
  ·simp_all
  ·rename_i r n cs' e
   obtain⟨rfl,rfl⟩:=by simpa using e
   split at h
   ·rename_i x ys' ks' hb hf
    simp only[Option.ite_none_right_eq_some,Option.some.injEq,Prod.mk.injEq] at h
    obtain⟨⟨hz,_,hr⟩,rfl,rfl⟩:=h
    intro q hq
    rcases List.mem_cons.1 hq with rfl | hq
    ·exact⟨x,hb,hz⟩
    ·exact ih hf q hq
   ·cases h
  ·cases h
  ·rename_i c' cs' _ _ e
   obtain⟨rfl,rfl⟩:=by simpa using e
   split at h
   ·rename_i ys' ks' hf
    cases h;exact ih hf
   ·cases h
theorem mem_rowsOf{ks:List Nat}{r:Nat}(h:r∈ks){x:Box}(hb:s.b r=some x)(hz:x.sz≠0):r∈rowsOf s ks:=by
 simp[rowsOf,h,hb,hz]
theorem rowsOf_mem{ks:List Nat}{r:Nat}(h:r∈rowsOf s ks):r∈ks∧∃x,s.b r=some x∧x.sz≠0:=by
 simp only[rowsOf,List.mem_filter] at h
 refine⟨h.1,?_⟩
 have:=h.2
 split at this
 ·rename_i x hx;exact⟨x,hx,by simpa using this⟩
 ·cases this
def resRun(P:Program)(tmps:Array Value)(w:World)(x:ResultVar)(u:Value):Prop :=
 (match x with
 | .tmp t=>(pure (tmps.getD t undef):Sem Value)
 | .cell a t=>do loadVar t (←asAddr (tmps.getD a undef))).run P w=.ok u w
theorem own_of_tmp(R:RelG N w0 M V0 K V O s a w){t:Nat}{g:Nat}(h:O g=some (true,t))(r:Nat):O g≠some (false,r):=by
 rw[h];intro e;cases e
theorem res_one(R:RelG N w0 M V0 K V O s a w){KS:List Nat}(F:Frz V K O s (rowsOf s KS) V')(x:ResultVar){r:AV}{ks ts:List Nat}(h:resE P s x=some (r,ks,ts))(hks:∀k∈ks,k∈KS) :
  ∃u fp,resRun P a.tmps w x u∧RepR V' w fp u r∧fp.Nodup∧∀g∈fp,(∃t∈ts,O g=some (true,t))∨∃b∈ks,O g=some (false,b):=by
 cases x with
 | tmp t =>
  obtain⟨fp,h1,h2,h3⟩:=R.tm t
  have hd:∀g∈fp,∀r∈rowsOf s KS,O g=some (false,r)→g≠(K r).1:=fun g hg r _ e=>absurd e (own_of_tmp R (h2 g hg) r)
  have hvm:∀g∈fp,V' g=V g:=fun g hg=>F.other g (hd g hg)
  simp only[resE] at h
  split at h
  ·rename_i q n hq
   split at h
   ·rename_i y ks' hf
    cases h
    rw[hq] at h3
    have hr:=inv_one h3 (.inr ⟨_,_,rfl⟩)
    obtain⟨fq,g1,g2,g3⟩:=freeze_rep R V' F.le _ F.other F.row [.msl q n] [r] _ fp ks hf hr (fun k hk=>by
     obtain⟨x,hx,hz⟩:=freezeL_rows hf k hk
     exact mem_rowsOf (hks k hk) hx hz) h1 hd (fun g hg r _=>own_of_tmp R (h2 g hg) r)
    refine⟨_,fq,rfl,.v K _ _ _ (.one (g1.up true fun e=>by cases e)) (by have:=g1.noIds rfl;simpa [idsL] using this),g2,fun g hg=>?_⟩
    rcases g3 g hg with e | ⟨k,hk,e⟩
    ·exact .inl ⟨t,by simp,h2 g e⟩
    ·exact .inr ⟨k,hk,e⟩
   ·cases h
  ·rename_i cs hq
   split at h
   ·rename_i ys ks' hf
    cases h
    rw[hq] at h3
    obtain⟨us,hv,hr⟩:=inv_agg h3
    obtain⟨fq,g1,g2,g3⟩:=freeze_rep R V' F.le _ F.other F.row cs ys us fp ks hf hr (fun k hk=>by
     obtain⟨x,hx,hz⟩:=freezeL_rows hf k hk
     exact mem_rowsOf (hks k hk) hx hz) h1 hd (fun g hg r _=>own_of_tmp R (h2 g hg) r)
    refine⟨_,fq,rfl,.v K _ _ _ (by rw[hv];exact .agg (g1.up true fun e=>by cases e)) (by simpa [ids] using g1.noIds rfl),g2,fun g hg=>?_⟩
    rcases g3 g hg with e | ⟨k,hk,e⟩
    ·exact .inl ⟨t,by simp,h2 g e⟩
    ·exact .inr ⟨k,hk,e⟩
   ·cases h
  ·rename_i b hq
   split at h
   ·rename_i bx hb
    simp only[Option.ite_none_right_eq_some,Option.some.injEq,Prod.mk.injEq] at h
    obtain⟨⟨hlt,hz,hst,hcl⟩,rfl,rfl,rfl⟩:=h
    rw[hq] at h3
    obtain⟨hv,-⟩:=inv_ptr h3
    obtain⟨fb,arr,T,fz,us,q1,q2,q3⟩:=R.bxr b bx hb (.inl hz)
    have hno:∀g∈(K b).1::fb,V' g=V g:=fun g hg=>F.other g fun r hr e=>by
     rw[q2 g hg] at e;cases e
     obtain⟨_,x,hx,hz'⟩:=rowsOf_mem hr
     rw[hb] at hx;cases hx;exact absurd hz hz'
    have hdown:Rep V w K false fb us bx.cs:=(q3.rep).down (fun c hc b n e=>by
     have:=List.all_eq_true.1 hcl c hc
     rw[e] at this;cases this)
    refine⟨_,(K b).1::fb,rfl,?_,q1,fun g hg=>.inr ⟨b,by simp,q2 g hg⟩⟩
    rw[hv]
    exact .nbx K _ T arr fz us fb _ q3.hp q3.th (q3.var hz).1 q3.pre (by rw[hno _ List.mem_cons_self,q3.vis,hst];rfl) (hdown.vmono F.le fun g hg=>hno g (by simp[hg]))
   ·cases h
  ·rename_i u hq
   cases h;rw[hq] at h3
   obtain⟨e,rfl,hp⟩:=inv_lit h3
   exact⟨_,[],rfl,.v K _ _ _ (by rw[e];exact .one (.lit hp .nil)) rfl,List.nodup_nil,by simp⟩
  ·rename_i hq
   cases h;rw[hq] at h3
   obtain⟨e,rfl⟩:=inv_nil h3
   exact⟨_,[],rfl,.v K _ _ _ (by rw[e];exact .one (.nl .nil)) rfl,List.nodup_nil,by simp⟩
  ·rename_i o z n cs hq
   cases h;rw[hq] at h3
   have hr:=inv_one h3 (.inl ⟨_,_,_,_,rfl⟩)
   exact⟨_,fp,rfl,.v K _ _ _ (.one (hr.vmono F.le hvm)) rfl,h1,fun g hg=>.inl ⟨t,by simp,h2 g hg⟩⟩
  ·cases h
 | cell c t =>
  simp only[resE] at h
  split at h
  ·rename_i b k ag hq hs hg
   obtain⟨f0,_,_,h3⟩:=R.tm c
   rw[hq] at h3
   obtain⟨hv,-⟩:=inv_ptr h3
   split at h
   ·rename_i bx hb
    split at h
    ·rename_i hh
     obtain⟨hlt,hlen,hz⟩:=hh
     split at h
     ·rename_i ys ks' hf
      split at h
      ·cases h
      ·rename_i hbk
       obtain⟨fb,arr,T,fz,us,q1,q2,q3⟩:=R.bxr b bx hb (.inl hz)
       have hn:=List.nodup_cons.1 q1
       have hrep:=q3.rep
       have hzb:(bx.sz==0)=true:=by simp[hz]
       rw[hzb] at hrep
       have hful:us.length=k:=hrep.len.trans hlen
       have key:(∀q∈ks',q∈KS)→∃fq,Rep V' w K false fq us ys∧fq.Nodup∧∀g∈fq,g∈fb∨∃r∈ks',O g=some (false,r):=fun hk' =>
        freeze_rep R V' F.le _ F.other F.row bx.cs ys us fb ks' hf hrep (fun q hq=>by
         obtain⟨x,hx,hz'⟩:=freezeL_rows hf q hq
         exact mem_rowsOf (hk' q hq) hx hz') hn.2 (fun g hg r _ e=>by
          rw[q2 g (by simp[hg])] at e;cases e
          intro e;exact hn.1 (by rw[←e];exact hg)) (fun g hg r hr e=>by
          rw[q2 g (by simp[hg])] at e;cases e;exact hbk hr)
       have hcell:∀(j:Nat) (v:Value),us[j]?=some v→w.cell? ⟨(K b).1,0+j,none⟩=some v:=fun j v hj=>by rw[Nat.zero_add];exact q3.cell hj
       cases ag with
       | true =>
        simp only[Option.some.injEq,Prod.mk.injEq] at h
        obtain⟨rfl,rfl,rfl⟩:=h
        obtain⟨fq,g1,g2,g3⟩:=key fun q hq=>hks q (by simp[hq])
        have:=run_loadVar_agg (P:=P) (w:=w) hg hs (K b).1 0 us hful hcell
        refine⟨.agg us.toArray,fq,?_,.v K _ _ _ (.agg (g1.up true fun e=>by cases e)) (by simpa [ids] using g1.noIds rfl),g2,fun g hg=>.inr ?_⟩
        ·simp[resRun,hv,asAddr,this]
        ·rcases g3 g hg with e | ⟨q,hq,e⟩
         ·exact⟨b,by simp,q2 g (by simp[e])⟩
         ·exact⟨q,by simp[hq],e⟩
       | false =>
        match ys,h with
        | [y],h =>
         simp only[Option.some.injEq,Prod.mk.injEq] at h
         obtain⟨rfl,rfl,rfl⟩:=h
         obtain⟨fq,g1,g2,g3⟩:=key fun q hq=>hks q (by simp[hq])
         obtain⟨u,rfl⟩:∃u,us=[u]:=by
          have:=g1.len
          match us,this with
          | [u],_=>exact⟨u,rfl⟩
         have:=run_loadVar_one (P:=P) (w:=w) hg (K b).1 0 u (by have:=hcell 0 u rfl;simpa using this)
         refine⟨u,fq,?_,.v K _ _ _ (.one (g1.up true fun e=>by cases e)) (by have:=g1.noIds rfl;simpa [idsL] using this),g2,fun g hg=>.inr ?_⟩
         ·simp[resRun,hv,asAddr,this]
         ·rcases g3 g hg with e | ⟨q,hq,e⟩
          ·exact⟨b,by simp,q2 g (by simp[e])⟩
          ·exact⟨q,by simp[hq],e⟩
        | [],h=>simp at h
        | _::_::_,h=>simp at h
     ·cases h
    ·cases h
   ·cases h
  ·cases h
end Evl
namespace Evl
open Go
variable {P:Program}{H:Hints}{fid:FuncId}{N:Nat}{w0 w w':World}{M:Nat→Prop}{V0 V V':Nat→Nat}{K K':Nat→Nat×Nat}{O O':Nat→Option Loc}{s:S}{a:Act}{fp:List Nat}{v:Value}{G:GP}
def toExit:X→Exit
 | .nor=>.normal
 | .ext id=>.exit id
 | .ret=>.ret
def MC (P:Program)(G:GP)(c:Code)(s:S)(x:X)(s':S):Prop :=
 ∀(N:Nat) (w0:World) (M:Nat→Prop) (V0 V:Nat→Nat) (K:Nat→Nat×Nat) (O:Nat→Option Loc) (a:Act) (w:World),G M V0 w0→codeOk N c=true→RelG N w0 M V0 K V O s a w →
  ∀Q:Exit→Act→World→Prop,(∀a' w' K' V' O',RelG N w0 M V0 K' V' O' s' a' w'→(∀b,1000≤b→K' b=K b)→Q (toExit x) a' w')→c.wp P Q a w
def LoopOk(P:Program)(G:GP)(c:Code)(s:S)(x:X)(s':S):Prop :=
 x≠.nor∧∀{N w0 M V0 V K O a w},G M V0 w0→codeOk N c=true→RelG N w0 M V0 K V O s a w→∀Q:Exit→Act→World→Prop,(∀a' w' K' V' O',RelG N w0 M V0 K' V' O' s' a' w'→(∀b,1000≤b→K' b=K b)→Q (toExit x) a' w') →
  ∀(b:Frame) (k:List Item) (cs:List Frame),∃e a' w',Q e a' w'∧Arrives P (lone (b.at a (.code c::.inLoop c::k)) cs w) b k cs e a' w'
theorem loop_last{c:Code}{s1 s2:S}{x:X}(hm:MC P G c s1 x s2)(hx:x≠.nor):LoopOk P G c s1 x s2:=by
 refine⟨hx,fun {N w0 M V0 V K O a w} hg hc R Q hQ b k cs=>?_⟩
 obtain⟨e,a1,w1,hq,harr⟩:=hm N w0 M V0 V K O a w hg hc R (fun e a' w'=>e=toExit x∧Q e a' w') (fun a' w' K' V' O' R' hK=>⟨rfl,hQ a' w' K' V' O' R' hK⟩) b (.inLoop c::k) cs
 obtain⟨rfl,hq⟩:=hq
 refine⟨_,a1,w1,hq,.pass (x:=.inLoop c) rfl (fun _ _=>.inl ?_) harr⟩
 cases x <;> simp_all [toExit]
theorem loop_more{c:Code}{s1 s2 s3:S}{x:X}(hm:MC P G c s1 .nor s3)(ih:LoopOk P G c s3 x s2):LoopOk P G c s1 x s2:=by
 refine⟨ih.1,fun {N w0 M V0 V K O a w} hg hc R Q hQ b k cs=>?_⟩
 obtain⟨e,a1,w1,⟨rfl,K',V',O',R',hK⟩,harr⟩:=hm N w0 M V0 V K O a w hg hc R (fun e a' w'=>e=.normal∧∃K' V' O',RelG N w0 M V0 K' V' O' s3 a' w'∧∀b,1000≤b→K' b=K b) (fun a' w' K' V' O' R' hK=>⟨rfl,K',V',O',R',hK⟩) b (.inLoop c::k) cs
 obtain⟨e2,a2,w2,hq2,harr2⟩:=ih.2 hg hc R' Q (fun a' w' K'' V'' O'' R'' hK''=>hQ a' w' K'' V'' O'' R'' fun b hb=>(hK'' b hb).trans (hK b hb)) b k cs
 exact⟨e2,a2,w2,hq2,.of_steps (Steps.trans harr (.one step_inLoop)) harr2⟩
theorem mc_loop{c:Code}{s s':S}{x:X}(h:LoopOk P G c s x s'):MC P G (.loop c) s x s':=by
 intro N w0 M V0 V K O a w hg hc R Q hQ b k cs
 obtain⟨e,a',w',hq,harr⟩:=h.2 hg hc R Q hQ b k cs
 exact⟨e,a',w',hq,.of_steps (.one step_loop) harr⟩
theorem mc_seqn{c d:Code}{s s1 s':S}{x:X}(h1:MC P G c s .nor s1)(h2:MC P G d s1 x s'):MC P G (.seq c d) s x s':=by
 intro N w0 M V0 V K O a w hg hc R Q hQ
 simp only[codeOk,Bool.and_eq_true] at hc
 refine wp_seq (h1 N w0 M V0 V K O a w hg hc.1 R _ fun a' w' K' V' O' R' hK=>?_)
 exact h2 N w0 M V0 V' K' O' a' w' hg hc.2 R' Q fun a'' w'' K'' V'' O'' R'' hK''=>hQ a'' w'' K'' V'' O'' R'' fun b hb=>(hK'' b hb).trans (hK b hb)
theorem mc_seqx{c d:Code}{s s':S}{x:X}(h1:MC P G c s x s')(hx:x≠.nor):MC P G (.seq c d) s x s':=by
 intro N w0 M V0 V K O a w hg hc R Q hQ
 simp only[codeOk,Bool.and_eq_true] at hc
 refine wp_seq (h1 N w0 M V0 V K O a w hg hc.1 R _ fun a' w' K' V' O' R' hK=>?_)
 cases x with
 | nor=>exact absurd rfl hx
 | ext id=>exact hQ a' w' K' V' O' R' hK
 | ret=>exact hQ a' w' K' V' O' R' hK
theorem ev_bool(R:RelG N w0 M V0 K V O s a w){c:Operand}{t:Bool}(h:s.ev c=.lit (.bool t)):a.eval c=.bool t:=by
 obtain⟨f,_,_,_,h1⟩:=R.ev c
 rw[h] at h1;exact(inv_lit h1).1
theorem mc_cond{c:Operand}{x y:Code}{s s':S}{e:X}(t:Bool)(hc:s.ev c=.lit (.bool t))(h:MC P G (if t then x else y) s e s'):MC P G (.cond c x y) s e s':=by
 intro N w0 M V0 V K O a w hg hok R Q hQ
 simp only[codeOk,Bool.and_eq_true] at hok
 refine wp_cond (ev_bool R hc) (h N w0 M V0 V K O a w hg ?_ R Q hQ)
 cases t
 ·exact hok.2
 ·exact hok.1
theorem mc_blockn{id:Nat}{c:Code}{s s':S}(h:MC P G c s .nor s'):MC P G (.block id c) s .nor s':=by
 intro N w0 M V0 V K O a w hg hok R Q hQ
 exact wp_block (h N w0 M V0 V K O a w hg hok R _ fun a' w' K' V' O' R' hK=>hQ a' w' K' V' O' R' hK)
theorem mc_blocke{id:Nat}{c:Code}{s s':S}(h:MC P G c s (.ext id) s'):MC P G (.block id c) s .nor s':=by
 intro N w0 M V0 V K O a w hg hok R Q hQ
 refine wp_block (h N w0 M V0 V K O a w hg hok R _ fun a' w' K' V' O' R' hK=>?_)
 simp only[toExit,Exit.inBlock,if_true]
 exact hQ a' w' K' V' O' R' hK
theorem mc_blockx{id:Nat}{c:Code}{s s':S}{x:X}(h:MC P G c s x s')(h1:x≠.nor)(h2:x≠.ext id):MC P G (.block id c) s x s':=by
 intro N w0 M V0 V K O a w hg hok R Q hQ
 refine wp_block (h N w0 M V0 V K O a w hg hok R _ fun a' w' K' V' O' R' hK=>?_)
 cases x with
 | nor=>exact absurd rfl h1
 | ext id' =>
  have:id'≠id:=fun e=>h2 (by rw[e])
  simp only[toExit,Exit.inBlock,this,if_false]
  exact hQ a' w' K' V' O' R' hK
 | ret=>exact hQ a' w' K' V' O' R' hK
theorem mc_region{id:Nat}{ops:Array Oper}{s s':S}{lg:List LogE}(h:Chain P G ops s lg s')(hl:lg.map (·.i)=List.range ops.size)(hdst:∀x∈lg,x.dst=(ops[x.i]?).bind (·.dst)):MC P G (.region id ops false) s .nor s':=by
 intro N w0 M V0 V K O a w hg hok R Q hQ
 refine wp_region ?_
 rw[←hl]
 refine chain_wp h hg R (fun x hx d hd=>?_) Q hQ
 rw[hdst x hx] at hd
 simp only[codeOk,opsOk,Array.all_eq_true_iff_forall_mem] at hok
 cases ho:ops[x.i]? with
 | none=>rw[ho] at hd;cases hd
 | some o =>
  rw[ho] at hd
  have:=hok o (Array.mem_of_getElem? ho)
  simp only[Option.bind_some] at hd
  rw[hd] at this;simpa using this
def CallPost(w0:World)(V0:Nat→Nat)(K:Nat→Nat×Nat)(O:Nat→Option Loc)(r:AV)(bx':Nat→Option Box)(v:Value)(w':World):Prop :=
 ∃(V':Nat→Nat) (O':Nat→Option Loc) (fp:List Nat),Fr w0 (fun g=>O g≠none) w'∧Next V0 V' w0 w'∧(∀g,0<V' g→g<w'.heap.size)∧(∀g,g<w0.heap.size→O g=none→V' g=V0 g)∧fp.Nodup∧(∀g∈fp,O' g=some (true,0))∧RepQ V' w' fp v r ∧
  (∀b x,bx' b=some x→∃fb arr T fz us,((K b).1::fb).Nodup∧(∀g∈(K b).1::fb,O' g=some (false,b))∧BoxOk V' w' K b x fb arr T fz us) ∧
  (∀g l,O' g=some l→(w0.heap.size≤g∨O g≠none)∧g<w'.heap.size)
structure Entry(w0:World)(V0:Nat→Nat)(K:Nat→Nat×Nat)(O:Nat→Option Loc)(vs:List Value)(args:List AV)(bx:Nat→Option Box):Prop where
 len:vs.length=args.length
 args:∀i x,args[i]?=some x→∃v fp,vs[i]?=some v∧fp.Nodup∧(∀g∈fp,O g=some (true,i))∧RepV V0 w0 K fp v x
 bx:∀b x,bx b=some x→1000≤b∧∃fb arr T fz us,((K b).1::fb).Nodup∧(∀g∈(K b).1::fb,O g=some (false,b))∧BoxOk V0 w0 K b x fb arr T fz us
 rg:∀g l,O g=some l→g<w0.heap.size
 vr:∀g,0<V0 g→g<w0.heap.size
def CallOk(P:Program)(G:GP)(f:FuncId)(args:List AV)(bx:Nat→Option Box)(r:AV)(bx':Nat→Option Box):Prop :=
 ∀(w0:World) (V0 V:Nat→Nat) (K:Nat→Nat×Nat) (O:Nat→Option Loc) (vs:List Value),G (fun g=>O g≠none) V0 w0→(∀g,V0 g≤V g)→(∀g,O g=none→V g=V0 g)→Entry w0 V K O vs args bx →
  Calls P f vs.toArray w0 fun e w'=>∃v,e=.returned v∧CallPost w0 V0 K O r bx' v w'
inductive RepRs(V:Nat→Nat)(w:World):List Nat→List Value→List AV→Prop
 | nil:RepRs V w [] [] []
 | cons (fp fq:List Nat) (u:Value) (us:List Value) (r:AV) (rs:List AV):RepR V w fp u r→RepRs V w fq us rs→RepRs V w (fp++fq) (u::us) (r::rs)
theorem disj_spec{l l':List Nat}(h:disj l l'=true):∀x∈l,x∉l':=by
 intro x hx
 have:=List.all_eq_true.1 h x hx
 simpa using this
theorem res_list(R:RelG N w0 M V0 K V O s a w){KS:List Nat}(F:Frz V K O s (rowsOf s KS) V')(f:ResultVar→Sem Value)(hf1:∀t,f (.tmp t)=pure (a.tmps.getD t undef))(hf2:∀c t,f (.cell c t)=(do loadVar t (←asAddr (a.tmps.getD c undef)))):∀(l:List ResultVar) {rs:List AV} {ks ts:List Nat},resL P s l=some (rs,ks,ts)→(∀k∈ks,k∈KS) →
  ∃us fp,(l.mapM f).run P w=.ok us w∧RepRs V' w fp us rs∧fp.Nodup∧∀g∈fp,(∃t∈ts,O g=some (true,t))∨∃b∈ks,O g=some (false,b):=by
 intro l
 induction l with
 | nil=>intro rs ks ts h _;cases h;exact⟨[],[],by simp,.nil,List.nodup_nil,by simp⟩
 | cons x l ih =>
  intro rs ks ts h hks
  simp only[resL] at h
  split at h
  ·rename_i v k1 t1 vs k2 t2 h1 h2
   simp only[Option.ite_none_right_eq_some,Option.some.injEq,Prod.mk.injEq,Bool.and_eq_true] at h
   obtain⟨⟨⟨hd1,hd2⟩,_⟩,rfl,rfl,rfl⟩:=h
   obtain⟨u,fp,g1,g2,g3,g4⟩:=res_one (P:=P) R F x h1 (fun k hk=>hks k (by simp[hk]))
   obtain⟨us,fq,q1,q2,q3,q4⟩:=ih h2 (fun k hk=>hks k (by simp[hk]))
   refine⟨u::us,fp++fq,?_,.cons _ _ _ _ _ _ g2 q2,List.nodup_append.2 ⟨g3,q3,fun x hx y hy e=>?_⟩,fun g hg=>?_⟩
   ·rw[List.mapM_cons,Sem.run_bind]
    have:(f x).run P w=.ok u w:=by
     cases x with
     | tmp t=>rw[hf1];exact g1
     | cell c t=>rw[hf2];exact g1
    rw[this]
    simp only[Result.andThen_ok,Sem.run_bind,q1,Sem.run_pure]
   ·subst e
    rcases g4 x hx with ⟨t,ht,e⟩ | ⟨b,hb,e⟩ <;> rcases q4 x hy with ⟨t',ht',e'⟩ | ⟨b',hb',e'⟩ <;> rw[e] at e' <;> cases e'
    ·exact disj_spec hd2 t ht ht'
    ·exact disj_spec hd1 b hb hb'
   ·rcases List.mem_append.1 hg with hg | hg
    ·rcases g4 g hg with ⟨t,ht,e⟩ | ⟨b,hb,e⟩
     ·exact .inl ⟨t,by simp[ht],e⟩
     ·exact .inr ⟨b,by simp[hb],e⟩
    ·rcases q4 g hg with ⟨t,ht,e⟩ | ⟨b,hb,e⟩
     ·exact .inl ⟨t,by simp[ht],e⟩
     ·exact .inr ⟨b,by simp[hb],e⟩
  ·cases h
end Evl
namespace Evl
open Go
variable {P:Program}{H:Hints}{fid:FuncId}{N:Nat}{w0 w w':World}{M:Nat→Prop}{V0 V V':Nat→Nat}{K K':Nat→Nat×Nat}{O O':Nat→Option Loc}{s:S}{a:Act}{fp:List Nat}{v:Value}{G:GP}
theorem Rep.chK{m us cs}(h:Rep V w K m fp us cs)(hi:idsL cs=[])(K':Nat→Nat×Nat):Rep V w K' m fp us cs :=
 h.mono (fun _ _ _=>rfl) (fun _=>Nat.le_refl _) (Nat.le_refl _) (fun _ _=>⟨rfl,rfl⟩) (by rw[hi];simp)
theorem RepP.chK{x:AV}(h:RepP V w K v x)(hi:ids x=[])(K':Nat→Nat×Nat):RepP V w K' v x:=by
 cases h with
 | ptr b off=>simp[ids] at hi
 | cptr a vs h1 h2 h3 h4 h5=>exact .cptr a vs h1 h2 h3 h4 (h5.chK (h5.noIds rfl) K')
 | bad v=>exact .bad v
theorem RepPs.chK{us xs}(h:RepPs V w K us xs)(K':Nat→Nat×Nat):idsL xs=[]→RepPs V w K' us xs:=by
 induction h with
 | nil=>intro _;exact .nil
 | cons a _ ih =>
  intro hi
  simp only[idsL,List.append_eq_nil_iff] at hi
  exact .cons (a.chK hi.1 K') (ih hi.2)
theorem RepU.chK{x:AV}(h:RepU V w K fp v x)(hi:ids x=[])(K':Nat→Nat×Nat):RepU V w K' fp v x:=by
 cases h with
 | one h=>exact .one (h.chK (by simp[idsL,hi]) K')
 | agg h=>exact .agg (h.chK (by simpa [ids] using hi) K')
 | p h=>exact .p (h.chK hi K')
 | fnv h=>exact .fnv (h.chK K' (by simpa [ids] using hi))
theorem RepT.chK{us xs}(h:RepT V w K fp us xs)(K':Nat→Nat×Nat):idsL xs=[]→RepT V w K' fp us xs:=by
 induction h with
 | nil=>intro _;exact .nil
 | cons a _ ih =>
  intro hi
  simp only[idsL,List.append_eq_nil_iff] at hi
  exact .cons (a.chK hi.1 K') (ih hi.2)
theorem RepRs.len{us rs}(h:RepRs V w fp us rs):us.length=rs.length:=by
 induction h with
 | nil=>rfl
 | cons _ _ _ _ _ _ _ _ ih=>simp[ih]
theorem reprs_tup{us rs}(h:RepRs V w fp us rs):rs.any isNbx=false→RepT V w (fun _=>(0,0)) fp us rs∧idsL rs=[]:=by
 induction h with
 | nil=>intro _;exact⟨.nil,rfl⟩
 | cons fp fq u us r rs hr _ ih =>
  intro hn
  simp only[List.any_cons,Bool.or_eq_false_iff] at hn
  obtain⟨h1,h2⟩:=ih hn.2
  cases hr with
  | v K _ _ _ hu hi=>exact⟨.cons (hu.chK hi _) h1,by simp[idsL,hi,h2]⟩
  | nbx=>simp[isNbx] at hn
theorem body_okI{ι:Type}(ok:ι→Prop)(xf:ι→X)(sf:ι→S)(rf:ι→AV){f:FuncId}{fn:Func}{c:Code}{args:List AV}{bx bx':Nat→Option Box}{r:AV}(hf:P.funcs[f]?=some fn)(hb:fn.body=some c)(hl:args.length≤fn.ntmps)(hok:codeOk fn.ntmps c=true)
  (hm:∀(N:Nat) (w0:World) (M:Nat→Prop) (V0 V:Nat→Nat) (K:Nat→Nat×Nat) (O:Nat→Option Loc) (a:Act) (w:World),G M V0 w0→codeOk N c=true→RelG N w0 M V0 K V O (S0 args bx) a w →
   ∀Q:Exit→Act→World→Prop,(∀j,ok j→∀a' w' K' V' O',RelG N w0 M V0 K' V' O' (sf j) a' w'→(∀b,1000≤b→K' b=K b)→Q (toExit (xf j)) a' w')→c.wp P Q a w)
  (hxI:∀j,ok j→xf j=.nor∨xf j=.ret) (hrI:∀j,ok j→resOf P (sf j) fn.results.toList=some (rf j)) (heI:∀j,ok j→exitOk bx (sf j)) (hwI:∀j,ok j→∀(w0:World) (V0:Nat→Nat) (K:Nat→Nat×Nat) (O:Nat→Option Loc) (v:Value) (w:World),CallPost w0 V0 K O (rf j) (exitB bx (sf j)) v w→CallPost w0 V0 K O r bx' v w) :
  CallOk P G f args bx r bx':=by
 intro w0 V0 V K O vs hg hle heq E
 refine calls_of_wp hf hb ?_
 have hlen:=E.len
 have R0:RelG fn.ntmps w0 (fun g=>O g≠none) V0 K V O (S0 args bx) { tmps:=vs.toArray++Array.replicate (fn.ntmps-vs.toArray.size) undef,defers:=[] } w0:=by
  refine⟨rfl,by simp;omega,fun t=>?_,fun b x hb=>?_,fun g l hg=>⟨.inr (by rw[hg];simp),E.rg g l hg⟩,E.vr,⟨rfl,rfl,rfl,Nat.le_refl _,fun _ _ _=>rfl,Nat.le_refl _⟩,⟨fun _ _ _=>rfl,hle,Nat.le_refl _⟩,fun g _ hg=>heq g (by simpa using hg)⟩
  ·cases ha:args[t]? with
   | some y =>
    obtain⟨v,fp,h1,h2,h3,h4⟩:=E.args t y ha
    have hlt:=(List.getElem?_eq_some_iff.1 h1).1
    refine⟨fp,h2,h3,?_⟩
    have e1:(vs.toArray++Array.replicate (fn.ntmps-vs.toArray.size) undef).getD t undef=v:=by
     rw[Array.getD_eq_getD_getElem?,Array.getElem?_append_left (by simpa using hlt)]
     simp[h1]
    have e2:(S0 args bx).t t=y:=by simp[S0,ha]
    rw[e1,e2];exact h4
   | none =>
    have e2:(S0 args bx).t t=.bad:=by simp[S0,ha]
    rw[e2];exact⟨[],List.nodup_nil,by simp,.bad _⟩
  ·obtain⟨-,h⟩:=E.bx b x hb;exact .inr h
 refine hm fn.ntmps w0 _ V0 V K O _ w0 hg hok R0 _ fun j hj a' w' K1 V1 O1 R' hK=>?_
 have hx:=hxI j hj
 have hr:=hrI j hj
 have he:=heI j hj
 have hwk:=hwI j hj
 generalize sf j=s' at R' hr he hwk
 generalize xf j=x at hx
 generalize rf j=r1 at hr hwk
 unfold resOf at hr
 have key:∃rs ks ts,resL P s' fn.results.toList=some (rs,ks,ts)∧(rs=[r1]∨rs.any isNbx=false∧r1=.tup rs∧rs.length≠1):=by
  cases hh:resL P s' fn.results.toList with
  | none=>rw[hh] at hr;cases hr
  | some q =>
   obtain⟨rs,ks,ts⟩:=q
   rw[hh] at hr
   refine⟨rs,ks,ts,rfl,?_⟩
   match rs,hr with
   | [v],hr=>cases hr;exact .inl rfl
   | [],hr=>simp at hr;exact .inr ⟨rfl,hr.symm,by simp⟩
   | v1::v2::vs,hr =>
    simp only[Option.ite_none_left_eq_some,Option.some.injEq] at hr
    exact .inr ⟨by simpa using hr.1,hr.2.symm,by simp⟩
 obtain⟨rs,ks,ts,hrl,hrr⟩:=key
 have F:=frz R' (rowsOf s' ks)
 obtain⟨us,fp,hrun,hrep,hnd,hown⟩:=res_list (P:=P) R' F (fun | .tmp t=>pure (a'.tmps.getD t undef) | .cell c t=>do loadVar t (←asAddr (a'.tmps.getD c undef))) (fun _=>rfl) (fun _ _=>rfl) fn.results.toList hrl (fun _ h=>h)
 have hks:∀k∈ks,k<1000:=by
  have:∀(l:List ResultVar) {rs ks ts},resL P s' l=some (rs,ks,ts)→∀k∈ks,k<1000:=by
   intro l
   induction l with
   | nil=>intro rs ks ts h;cases h;simp
   | cons x l ih =>
    intro rs ks ts h
    simp only[resL] at h
    split at h
    ·rename_i v k1 t1 vs k2 t2 h1 h2
     simp only[Option.ite_none_right_eq_some,Option.some.injEq,Prod.mk.injEq,Bool.and_eq_true] at h
     obtain⟨⟨_,hk⟩,rfl,rfl,rfl⟩:=h
     intro k hk'
     rcases List.mem_append.1 hk' with hk' | hk'
     ·have:=List.all_eq_true.1 hk k hk';simpa using this
     ·exact ih h2 k hk'
    ·cases h
  exact this _ hrl
 have hres:∃v,(results fn a'.tmps).run P w'=.ok v w'∧RepQ (vfz V1 K1 O1 s' (rowsOf s' ks)) w' fp v r1:=by
  have hA:(fn.results.mapM (m:=Sem) fun | .tmp t=>pure (a'.tmps.getD t undef) | .cell c t=>do loadVar t (←asAddr (a'.tmps.getD c undef))).run P w'=.ok us.toArray w':=by
   rw[←Array.toList_mapM] at hrun
   simp only[Sem.run_map] at hrun
   cases hq:(fn.results.mapM (m:=Sem) fun | .tmp t=>pure (a'.tmps.getD t undef) | .cell c t=>do loadVar t (←asAddr (a'.tmps.getD c undef))).run P w' with
   | ok b w1=>rw[hq] at hrun;simp at hrun;obtain⟨rfl,rfl⟩:=hrun;simp
   | halt b w1=>rw[hq] at hrun;simp at hrun
  rcases hrr with rfl | ⟨hnb,rfl,hl1⟩
  ·cases hrep with
   | cons f1 f2 u us' r1 rs1 h1 h2 =>
    cases h2
    refine⟨u,?_,.one _ _ _ (by simpa using h1)⟩
    unfold results
    rw[Sem.run_bind]
    refine(congrArg (fun q=>Result.andThen q _) hA).trans ?_
    simp
  ·have hul:us.length=rs.length:=hrep.len
   obtain⟨h1,h2⟩:=reprs_tup hrep hnb
   refine⟨.tuple us.toArray,?_,.tup _ _ _ _ h1 h2⟩
   unfold results
   rw[Sem.run_bind]
   refine(congrArg (fun q=>Result.andThen q _) hA).trans ?_
   have:us.length≠1:=by omega
   simp[this]
 obtain⟨v,hv,hq⟩:=hres
 have hpost:∃v,(results fn a'.tmps).run P w'=.ok v w'∧∃v',Ending.returned v=.returned v'∧CallPost w0 V0 K O r bx' v' w':=by
  refine⟨v,hv,v,rfl,hwk _ _ _ _ _ _ ⟨vfz V1 K1 O1 s' (rowsOf s' ks),fun g=>if g∈fp then some (true,0) else match O1 g with | some (false,b)=>if 1000≤b then some (false,b) else none | _=>none,fp,R'.fr,?_,vfz_vr R' _,?_,hnd,fun g hg=>by simp[hg],hq,?_,?_⟩⟩
  ·exact⟨R'.nx.cell,fun g=>Nat.le_trans (R'.nx.le g) (F.le g),R'.nx.sz⟩
  ·intro g hg hO
   rw[F.other g fun q hq' e=>?_]
   ·exact R'.vo g hg (by simp[hO])
   ·rcases(R'.rg g _ e).1 with h | h
    ·omega
    ·exact absurd hO h
  ·intro b y hb'
   unfold exitB at hb'
   split at hb'
   ·rename_i y0 hy0
    have hge:=(he b y0 hy0).1
    obtain⟨-,y1,hy1,hcl,hz,hst,-⟩:=he b y0 hy0
    rw[hb'] at hy1;cases hy1
    have hKb:K1 b=K b:=hK b hge
    obtain⟨fb,arr,T,fz,us',q1,q2,q3⟩:=R'.bxr b y hb' (by
     by_cases h0:y.sz=0
     ·exact .inl h0
     ·right;right
      obtain⟨-,_,_,_,_,_,_,_,e3⟩:=E.bx b y0 hy0
      obtain⟨cap,e4,-⟩:=e3.row (by rw[←hz];exact h0)
      rw[hKb,e4];omega)
    have hV:∀g∈(K1 b).1::fb,vfz V1 K1 O1 s' (rowsOf s' ks) g=V1 g:=fun g hg=>F.other g fun q hq' e=>by
     rw[q2 g hg] at e;cases e
     have:=hks b (rowsOf_mem hq').1;omega
    rw[hKb] at q1 q2 hV
    refine⟨fb,arr,T,fz,us',q1,fun g hg=>?_,?_⟩
    ·have hO1:=q2 g hg
     have hnf:g∉fp:=fun h=>by
      rcases hown g h with ⟨t,_,e⟩ | ⟨b',hb'',e⟩ <;> rw[hO1] at e <;> cases e
      have:=hks b hb'';omega
     simp[hnf,hO1,hge]
    ·have hdown:Rep V1 w' K1 false fb us' y.cs:=q3.rep.down (fun c hc b n e=>by
      have:=List.all_eq_true.1 hcl c hc
      rw[e] at this;cases this)
     refine⟨by rw[←hKb];exact q3.hp,q3.th,q3.pre,?_,?_,q3.var,fun h=>by rw[←hKb];exact q3.row h⟩
     ·exact((hdown.vmono F.le fun g hg=>hV g (by simp[hg])).chK (hdown.noIds rfl) K).up _ (fun e=>by cases e)
     ·rw[hV _ List.mem_cons_self,←hKb,q3.vis]
   ·cases hb'
  ·intro g l hg
   dsimp only at hg
   split at hg
   ·rename_i hgf
    rcases hown g hgf with ⟨t,_,e⟩ | ⟨b,_,e⟩
    ·exact R'.rg g _ e
    ·exact R'.rg g _ e
   ·split at hg
    ·rename_i b hO1;exact R'.rg g _ hO1
    ·cases hg
 rcases hx with rfl | rfl
 ·exact⟨R'.df,hpost⟩
 ·exact⟨R'.df,hpost⟩
theorem body_ok{f:FuncId}{fn:Func}{c:Code}{args:List AV}{bx:Nat→Option Box}{x:X}{s':S}{r:AV}(hf:P.funcs[f]?=some fn)(hb:fn.body=some c)(hl:args.length≤fn.ntmps)(hok:codeOk fn.ntmps c=true)(hm:MC P G c (S0 args bx) x s')(hx:x=.nor∨x=.ret)(hr:resOf P s' fn.results.toList=some r)(he:exitOk bx s') :
  CallOk P G f args bx r (exitB bx s'):=by
 exact body_okI (ι:=Unit) (fun _=>True) (fun _=>x) (fun _=>s') (fun _=>r) hf hb hl hok (fun N w0 M V0 V K O a w hg hc R Q hQ=>hm N w0 M V0 V K O a w hg hc R Q (hQ () trivial)) (fun _ _=>hx) (fun _ _=>hr) (fun _ _=>he) (fun _ _ _ _ _ _ _ _ h=>h)
end Evl
namespace Evl
open Go
variable {P:Program}{H:Hints}{fid:FuncId}{N:Nat}{w0 w w':World}{M:Nat→Prop}{V0 V V' Vc:Nat→Nat}{K K' Kc:Nat→Nat×Nat}{O O':Nat→Option Loc}{s:S}{a:Act}{fp:List Nat}{v:Value}{ks:List Nat}
theorem roCell_rep(R:RelG N w0 M V0 K V O s a w)(F:Frz V K O s ks Vc){u:Value}{c y:AV}(h:Rep V w K true fp [u] [c])(hfp:∀g∈fp,Vc g=V g)(hy:roCell s.b c=some y)(hk:∀k∈ids c,k∈ks):Rep Vc w Kc false [] [u] [y]:=by
 cases h with
 | lit hp h=>cases h;cases hy;exact .lit hp .nil
 | nl h=>cases h;cases hy;exact .nl .nil
 | ns h=>cases h;cases hy;simp only[share];exact .ns .nil
 | on h=>cases h;cases hy;simp only[share];exact .ns .nil
 | sh ad vs h1 h2 h3 h6 h =>
  cases h;cases hy
  simp only[share]
  exact .sh ad vs h1 (h2.mono F.le (Nat.le_refl _)) h3 ((h6.vmono F.le (by simp)).chK (h6.noIds rfl) Kc) .nil
 | ow g T arr fz vs h1 h2 h3 h4 h5 h6 h7 h8 h9 h =>
  cases h;cases hy
  simp only[share]
  have h9':=(h9.share.vmono F.le (by simp)).chK (h9.share.noIds rfl) Kc
  refine .sh ⟨g,0,none⟩ vs h1 (.inr ⟨rfl,?_,lt_of_heap h2⟩) (fun j v hj=>?_) h9' .nil
  rotate_left
  ·simp only[Nat.zero_add];rw[cell_of_heap h2];exact h7 j v hj
  ·simp only[Nat.zero_add];rw[hfp g (by simp),h8];exact Nat.le_refl _
 | mv b h0 h =>
  cases h
  simp only[roCell] at hy
  split at hy
  ·rename_i x hb
   simp only[Option.ite_none_right_eq_some,Option.some.injEq] at hy
   obtain⟨⟨hz,hl⟩,rfl⟩:=hy
   simp only[Nat.zero_mul,List.take_zero]
   exact .ns .nil
  ·cases hy
 | ms b h0 hn h =>
  cases h
  simp only[roCell] at hy
  split at hy
  ·rename_i x hb
   simp only[Option.ite_none_right_eq_some,Option.some.injEq] at hy
   obtain⟨⟨hz,hl⟩,rfl⟩:=hy
   obtain⟨fb,arr,T,fz,us,q1,q2,q3⟩:=R.bxr b x hb (.inr (.inr (by omega)))
   have hxz:(x.sz==0)=false:=by simp[hz]
   have hrep:=q3.rep
   rw[hxz] at hrep
   obtain⟨u1,u2,u3,f1,f2,f3,rfl,rfl,l1,l2,r1,r2,r3⟩:=hrep.seg 0 _ (by simpa using hl)
   obtain rfl:u1=[]:=by simpa using l1
   simp only[List.drop_zero] at r2
   have r2':=(r2.share.vmono F.le (by simp)).chK (r2.share.noIds rfl) Kc
   refine .sh ⟨(K b).1,0,none⟩ u2 hn (.inr ⟨rfl,?_,lt_of_heap q3.hp⟩) (fun j v hj=>?_) r2' .nil
   rotate_left
   ·simp only[Nat.zero_add]
    exact q3.cell (by rw[List.nil_append,List.getElem?_append_left (by have:=(List.getElem?_eq_some_iff.1 hj).1;exact this)];exact hj)
   ·simp only[Nat.zero_add];rw[F.row b (hk b (by simp[ids])) x hb (.inr (.inr (by omega))),l2];exact hl
  ·cases hy
 | bd u hu h=>cases hy
theorem roCells_rep(R:RelG N w0 M V0 K V O s a w)(F:Frz V K O s ks Vc):∀{cs ys:List AV} {us:List Value} {fp:List Nat} {m:Bool},Rep V w K m fp us cs→(∀g∈fp,Vc g=V g)→roCells s.b cs=some ys→(∀k∈idsL cs,k∈ks)→Rep Vc w Kc false [] us ys:=by
 intro cs
 induction cs with
 | nil=>intro ys us fp m h _ hy _;cases h;cases hy;exact .nil
 | cons c cs ih =>
  intro ys us fp m h hfp hy hk
  simp only[roCells] at hy
  split at hy
  ·rename_i y ys' h1 h2
   cases hy
   obtain⟨f1,f2,u1,u2,rfl,rfl,r1,r2⟩:=Rep.split [c] (cs₂:=cs) (by simpa using h)
   obtain⟨u,rfl⟩:∃u,u1=[u]:=by
    have:=r1.len
    match u1,this with
    | [u],_=>exact⟨u,rfl⟩
   have a1:=roCell_rep (Kc:=Kc) R F (r1.up true fun _=>rfl) (fun g hg=>hfp g (by simp[hg])) h1 (fun k hk'=>hk k (by simp[idsL,hk']))
   have a2:=ih r2 (fun g hg=>hfp g (by simp[hg])) h2 (fun k hk'=>hk k (by simp[idsL,hk']))
   exact a1.app a2
  ·cases hy
theorem roPtr_rep(R:RelG N w0 M V0 K V O s a w)(F:Frz V K O s ks Vc){x y:AV}(h:RepP V w K v x)(hy:roPtr s.b x=some y)(hk:∀k∈ids x,k∈ks)(hk2:∀b off,x=.ptr b off→∀z,s.b b=some z→∀k∈idsL z.cs,k∈ks):RepP Vc w Kc v y:=by
 cases h with
 | ptr b off =>
  simp only[roPtr] at hy
  split at hy
  ·rename_i z hb
   simp only[Option.ite_none_right_eq_some,Option.map_eq_some_iff] at hy
   obtain⟨hl,ds,hd,rfl⟩:=hy
   obtain⟨fb,arr,T,fz,us,q1,q2,q3⟩:=R.bxr b z hb (.inr (.inl fun e=>by rw[e] at hl;simp at hl))
   have hfb:∀g∈fb,Vc g=V g:=fun g hg=>F.other g fun r hr e=>by
    rw[q2 g (by simp[hg])] at e;cases e
    intro e;exact(List.nodup_cons.1 q1).1 (by rw[←e];exact hg)
   obtain⟨u1,u2,u3,f1,f2,f3,rfl,rfl,l1,l2,r1,r2,r3⟩:=q3.rep.seg off (z.cs.length-off) (by omega)
   have e1:(z.cs.drop off).take (z.cs.length-off)=z.cs.drop off:=List.take_of_length_le (by simp)
   rw[e1] at r2
   have hmem:∀k∈idsL (z.cs.drop off),k∈ks:=by
    intro k hkk
    refine hk2 b off rfl z hb k ?_
    have:∀(n:Nat) (l:List AV),∀k∈idsL (l.drop n),k∈idsL l:=by
     intro n;induction n with
     | zero=>intro l k h;simpa using h
     | succ n ih=>intro l k h;cases l with
      | nil=>simpa using h
      | cons c l=>simp only[List.drop_succ_cons] at h;simp only[idsL,List.mem_append];exact .inr (ih l k h)
    exact this off z.cs k hkk
   have hrep:=roCells_rep (Kc:=Kc) R F r2 (fun g hg=>hfb g (by simp[hg])) hd hmem
   have hV:=F.row b (hk b (by simp[ids])) z hb (.inr (.inl fun e=>by rw[e] at hl;simp at hl))
   refine .cptr ⟨(K b).1,off,none⟩ u2 rfl (fun j v hj=>?_) ?_ (lt_of_heap q3.hp) hrep
   ·show w.cell? ⟨(K b).1,off+j,none⟩=some v
    exact q3.cell (by rw[List.getElem?_append_right (by omega),List.getElem?_append_left (by have:=(List.getElem?_eq_some_iff.1 hj).1;omega)];rw[←hj];congr 1;omega)
   ·simp only[hV,l2];omega
  ·cases hy
 | cptr ad vs h1 h2 h3 h4 h5 =>
  cases hy
  exact .cptr ad vs h1 h2 (Nat.le_trans h3 (F.le _)) h4 ((h5.vmono F.le (by simp)).chK (h5.noIds rfl) Kc)
 | bad v=>cases hy
theorem roCaps_rep(R:RelG N w0 M V0 K V O s a w)(F:Frz V K O s ks Vc){us:List Value}{xs:List AV}(h:RepPs V w K us xs):∀{ys},roCaps s.b xs=some ys→(∀k∈idsL xs,k∈ks)→(∀k∈xs.flatMap (inside s.b),k∈ks)→RepPs Vc w Kc us ys:=by
 induction h with
 | nil=>intro ys hy _ _;cases hy;exact .nil
 | cons hp _ ih =>
  intro ys hy hk hk2
  simp only[roCaps] at hy
  split at hy
  ·rename_i y ys' h1 h2
   cases hy
   refine .cons (roPtr_rep (Kc:=Kc) R F hp h1 (fun k hk'=>hk k (by simp[idsL,hk'])) ?_) (ih h2 (fun k hk'=>hk k (by simp[idsL,hk'])) (fun k hk'=>hk2 k (by simp only[List.flatMap_cons,List.mem_append];exact .inr hk')))
   rintro b off rfl z hz k hk'
   exact hk2 k (by simp only[List.flatMap_cons,List.mem_append,inside,hz];exact .inl hk')
  ·cases hy
theorem ro_rep(R:RelG N w0 M V0 K V O s a w)(F:Frz V K O s ks Vc){x y:AV}(h:RepV V w K fp v x)(hfp:∀g∈fp,Vc g=V g)(hy:ro s.b x=some y)(hk:∀k∈leans s.b x,k∈ks):RepV Vc w Kc [] v y:=by
 have hk1:∀k∈ids x,k∈ks:=fun k hk'=>hk k (by simp[leans,hk'])
 cases x with
 | lit u =>
  simp only[ro,roCell] at hy;cases hy
  obtain⟨rfl,rfl,hp⟩:=inv_lit h
  exact .litX hp
 | nil =>
  simp only[ro,roCell] at hy;cases hy
  obtain⟨rfl,rfl⟩:=inv_nil h
  exact .u (.one (.nl .nil))
 | sl o z n cs =>
  simp only[ro] at hy
  exact .u (.one ((roCell_rep (Kc:=Kc) R F (inv_one h (.inl ⟨_,_,_,_,rfl⟩)) hfp hy hk1).up true fun e=>by cases e))
 | msl b n =>
  simp only[ro] at hy
  exact .u (.one ((roCell_rep (Kc:=Kc) R F (inv_one h (.inr ⟨_,_,rfl⟩)) hfp hy hk1).up true fun e=>by cases e))
 | agg cs =>
  simp only[ro,Option.map_eq_some_iff] at hy
  obtain⟨ds,hd,rfl⟩:=hy
  obtain⟨us,rfl,hr⟩:=inv_agg h
  exact .u (.agg ((roCells_rep (Kc:=Kc) R F hr hfp hd (by simpa [ids] using hk1)).up true fun e=>by cases e))
 | ptr b off =>
  simp only[ro] at hy
  cases h with
  | u h=>cases h with
   | one h=>cases h
   | p h =>
    refine .u (.p (roPtr_rep (Kc:=Kc) R F h hy hk1 ?_))
    intro b' off' e z hz k hk'
    cases e
    exact hk k (by simp only[leans,inside,hz,List.mem_append];exact .inr hk')
 | cptr cs =>
  simp only[ro] at hy;cases hy
  cases h with
  | u h=>cases h with
   | one h=>cases h
   | p h =>
    refine .u (.p (roPtr_rep (Kc:=Kc) R F h (x:=.cptr cs) rfl hk1 ?_))
    intro b off e;cases e
 | fnv f cs =>
  simp only[ro,Option.map_eq_some_iff] at hy
  obtain⟨ds,hd,rfl⟩:=hy
  obtain⟨us,rfl,-,hr⟩:=inv_fnv h
  exact .u (.fnv (roCaps_rep (Kc:=Kc) R F hr hd (by simpa [ids] using hk1) (fun k hk'=>hk k (by simp only[leans,List.mem_append];exact .inr hk'))))
 | tup cs=>cases hy
 | nbx cs=>cases hy
 | bad=>cases hy
end Evl
namespace Evl
open Go
variable {P:Program}{H:Hints}{fid:FuncId}{N:Nat}{w0 w w':World}{M:Nat→Prop}{V0 V V' Vc:Nat→Nat}{K K' Kc:Nat→Nat×Nat}{O O':Nat→Option Loc}{s:S}{a:Act}{fp:List Nat}{v:Value}{KS:List Nat}
structure Args(V:Nat→Nat)(w:World)(K:Nat→Nat×Nat)(vs:List Value)(args:List AV)(fps:List (List Nat)):Prop where
 l1:vs.length=args.length
 l2:fps.length=args.length
 at_:∀(j:Nat) (x:AV),args[j]?=some x→∃v fq,vs[j]?=some v∧fps[j]?=some fq∧RepV V w K fq v x
theorem Args.cons{vs:List Value}{args:List AV}{fps:List (List Nat)}(h:Args V w K vs args fps){v:Value}{x:AV}{fq:List Nat}(hx:RepV V w K fq v x):Args V w K (v::vs) (x::args) (fq::fps):=by
 refine⟨by simp[h.l1],by simp[h.l2],fun j y hj=>?_⟩
 cases j with
 | zero=>simp only[List.getElem?_cons_zero,Option.some.injEq] at hj;subst hj;exact⟨v,fq,rfl,rfl,hx⟩
 | succ j=>simpa using h.at_ j y (by simpa using hj)
theorem Args.nil:Args V w K [] [] []:=⟨rfl,rfl,fun j x h=>by simp at h⟩
theorem given_of{x:Operand}{t:Nat}(hx:x=.tmp t)(h:hasOwn (s.ev x)=true):t∈(given x (s.ev x)).map (·.1):=by
 subst hx;simp[given,h]
theorem look_given{x:Operand}{l:List (Nat×AV)}(h:∀t z,lookup t l=some z→z=share (s.t t)):∀t z,lookup t (given x (s.ev x)++l)=some z→z=share (s.t t):=by
 intro t z hl
 cases x with
 | tmp t' =>
  simp only[given] at hl
  split at hl
  ·simp only[List.cons_append,List.nil_append,lookup] at hl
   split at hl
   ·rename_i e;subst e;cases hl;rfl
   ·exact h t z hl
  ·exact h t z hl
 | _=>exact h t z hl
theorem not_given{l:List (Nat×AV)}{l':List Nat}(h:¬l.any (fun q=>q.1∈l')=true):∀t∈l.map (·.1),t∉l':=by
 intro t ht hm
 obtain⟨q,hq,rfl⟩:=List.mem_map.1 ht
 exact h (List.any_eq_true.2 ⟨q,hq,by simpa using hm⟩)
theorem prep_ok(R:RelG N w0 M V0 K V O s a w)(F:Frz V K O s KS Vc)(f:FuncId):∀(xs:List Operand) (i:Nat) (p:Prep),prep H f s i xs=some p→(∀k∈p.tmp++p.kl,k∈KS)→(∀q∈p.mts,Kc (1000+q.1)=K q.2) →
  (∀t z,lookup t p.set=some z→z=share (s.t t))∧p.kl.Nodup∧(∀q∈p.mts,q.2∉p.tmp∧q.2∉p.kl∧i≤q.1∧∃x,s.b q.2=some x∧cleanL x.cs=true∧x.sz=0∧x.st=true)∧(p.mts.map (·.2)).Nodup∧(p.mts.map (·.1)).Nodup ∧
  ∃fps,Args Vc w Kc (xs.map a.eval) p.args fps∧fps.flatten.Nodup∧∀g∈fps.flatten,(∃t,O g=some (true,t)∧t∈p.set.map (·.1))∨∃r∈p.kl,O g=some (false,r):=by
 intro xs
 induction xs with
 | nil =>
  intro i p h _ _
  cases h
  exact⟨by simp[lookup],List.nodup_nil,by simp,List.nodup_nil,List.nodup_nil,[],.nil,by simp,by simp⟩
 | cons x xs ih =>
  intro i p h hks hmt
  simp only[prep] at h
  split at h
  ·cases h
  ·rename_i p' hp'
   obtain⟨fp,n1,o1,e1,r1⟩:=R.ev x
   have hvm:∀g∈fp,Vc g=V g:=fun g hg=>F.other g fun r hr e=>by
    cases x with
    | tmp t=>rw[o1 t rfl g hg] at e;cases e
    | _=>rw[e1 (by intro t e;cases e)] at hg;cases hg
   split at h
   · -- a box that is lent
    split at h
    ·rename_i b hx
     split at h
     ·rename_i bx hb
      simp only[Option.ite_none_right_eq_some,Option.some.injEq] at h
      obtain⟨⟨hcl,hz,hst,ht,hk,hm⟩,rfl⟩:=h
      obtain⟨g1,g2,g3,g4,g5,fps,g6,g7,g8⟩:=ih (i+1) p' hp' hks (fun q hq=>hmt q (by simp[hq]))
      refine⟨g1,g2,?_,List.nodup_cons.2 ⟨hm,g4⟩,List.nodup_cons.2 ⟨fun hm'=>?_,g5⟩,[]::fps,?_,by simpa using g7,by simpa using g8⟩
      ·intro q hq
       rcases List.mem_cons.1 hq with rfl | hq
       ·exact⟨ht,hk,Nat.le_refl _,bx,hb,hcl,hz,hst⟩
       ·obtain⟨q1,q2,q3,q4⟩:=g3 q hq;exact⟨q1,q2,by omega,q4⟩
      ·obtain⟨q,hq,e⟩:=List.mem_map.1 hm'
       have:=(g3 q hq).2.2.1;simp at e;omega
      ·rw[hx] at r1
       obtain⟨e,rfl⟩:=inv_ptr r1
       refine g6.cons ?_
       rw[e]
       have hK:Kc (1000+i)=K b:=hmt (i,b) (by simp)
       rw[←hK]
       exact .u (.p (.ptr (1000+i) 0))
     ·cases h
    ·cases h
   ·split at h
    · -- a tree that is handed over
     split at h
     ·rename_i r n hx
      split at h
      ·rename_i y ks hf
       simp only[Option.ite_none_left_eq_some,Option.some.injEq,not_or] at h
       obtain⟨⟨hr1,hr2,hr3⟩,rfl⟩:=h
       obtain⟨g1,g2,g3,g4,g5,fps,g6,g7,g8⟩:=ih (i+1) p' hp' (fun k hk=>hks k (by simp only[List.mem_append,List.mem_cons] at hk ⊢;rcases hk with hk | hk;exact .inl hk;exact .inr (.inr hk))) hmt
       rw[hx] at r1
       have hone:=inv_one r1 (.inr ⟨_,_,rfl⟩)
       have hks1:ks=[r]:=by
        simp only[freezeL] at hf
        split at hf
        ·rename_i z ys' ks' hb hf'
         cases hf'
         simp only[Option.ite_none_right_eq_some,Option.some.injEq,Prod.mk.injEq] at hf
         exact hf.2.2.symm
        ·cases hf
       subst hks1
       obtain⟨fq,q1,q2,q3⟩:=freeze_rep R Vc F.le KS F.other F.row [.msl r n] [y] [a.eval x] fp [r] hf hone (fun k hk=>hks k (by simp at hk;simp[hk])) n1 (fun g hg r _ e=>by
        cases x with
        | tmp t=>rw[o1 t rfl g hg] at e;cases e
        | _=>rw[e1 (by intro t e;cases e)] at hg;cases hg) (fun g hg r _ e=>by
        cases x with
        | tmp t=>rw[o1 t rfl g hg] at e;cases e
        | _=>rw[e1 (by intro t e;cases e)] at hg;cases hg)
       have hfp:fp=[]:=by obtain⟨e,_⟩:=inv_msl r1;exact e
       subst hfp
       refine⟨g1,List.nodup_cons.2 ⟨hr1,g2⟩,?_,g4,g5,fq::fps,g6.cons (.u (.one ((q1.chK (q1.noIds rfl) Kc).up true fun e=>by cases e))),?_,?_⟩
       ·intro q hq
        obtain⟨z1,z2,z3,z4⟩:=g3 q hq
        exact⟨z1,by simp only[List.mem_cons,not_or];exact⟨fun e=>hr3 (by rw[←e];exact List.mem_map_of_mem hq),z2⟩,by omega,z4⟩
       ·rw[List.flatten_cons]
        refine List.nodup_append.2 ⟨q2,g7,fun g hg g' hg' e=>?_⟩
        subst e
        rcases q3 g hg with h | ⟨r',hr',e⟩
        ·cases h
        ·simp only[List.mem_singleton] at hr';subst hr'
         rcases g8 g hg' with ⟨t,e',_⟩ | ⟨r'',hr'',e'⟩
         ·rw[e] at e';cases e'
         ·rw[e] at e';cases e';exact hr1 hr''
       ·intro g hg
        rw[List.flatten_cons] at hg
        rcases List.mem_append.1 hg with hg | hg
        ·rcases q3 g hg with h | ⟨r',hr',e⟩
         ·cases h
         ·simp only[List.mem_singleton] at hr';subst hr';exact .inr ⟨_,by simp,e⟩
        ·rcases g8 g hg with h | ⟨r',hr',e⟩
         ·exact .inl h
         ·exact .inr ⟨r',by simp[hr'],e⟩
      ·cases h
     ·rename_i cs hx
      split at h
      ·rename_i ys ks hf
       simp only[Option.ite_none_left_eq_some,Option.some.injEq,not_or] at h
       obtain⟨⟨hr1,hr2⟩,rfl⟩:=h
       obtain⟨g1,g2,g3,g4,g5,fps,g6,g7,g8⟩:=ih (i+1) p' hp' (fun k hk=>hks k (by simp only[List.mem_append] at hk ⊢;rcases hk with hk | hk;exact .inl hk;exact .inr (.inr hk))) hmt
       rw[hx] at r1
       obtain⟨us,hv,hr⟩:=inv_agg r1
       have hno:∀k∈ks,k∉p'.kl∧k∉p'.tmp∧k∉p'.mts.map (·.2):=by
        intro k hk
        refine⟨fun h=>hr1 ?_,fun h=>hr1 ?_,fun h=>hr1 ?_⟩ <;> rw[List.any_eq_true] <;> refine⟨k,hk,?_⟩ <;> simp only[decide_eq_true_eq]
        ·exact .inl h
        ·exact .inr (.inl h)
        ·exact .inr (.inr h)
       obtain⟨fq,q1,q2,q3⟩:=freeze_rep R Vc F.le KS F.other F.row cs ys us fp ks hf hr (fun k hk=>hks k (by simp[hk])) n1 (fun g hg r _ e=>by
        cases x with
        | tmp t=>rw[o1 t rfl g hg] at e;cases e
        | _=>rw[e1 (by intro t e;cases e)] at hg;cases hg) (fun g hg r _ e=>by
        cases x with
        | tmp t=>rw[o1 t rfl g hg] at e;cases e
        | _=>rw[e1 (by intro t e;cases e)] at hg;cases hg)
       have hgv:∀g∈fp,∃t,O g=some (true,t)∧t∈(given x (.agg cs)).map (·.1):=by
        intro g hg
        by_cases ho:hasOwn (s.ev x)=true
        ·cases x with
         | tmp t=>exact⟨t,o1 t rfl g hg,by rw[←hx];exact given_of rfl ho⟩
         | _=>rw[e1 (by intro t e;cases e)] at hg;cases hg
        ·rw[hx] at ho
         rw[ownless_v r1 (by simpa using ho)] at hg;cases hg
       refine⟨?_,List.nodup_append.2 ⟨freezeL_nodup hf,g2,fun k hk k' hk' e=>(hno k hk).1 (by rw[e];exact hk')⟩,?_,g4,g5,fq::fps,g6.cons (by rw[hv];exact .u (.agg ((q1.chK (q1.noIds rfl) Kc).up true fun e=>by cases e))),?_,?_⟩
       ·rw[←hx];exact look_given g1
       ·intro q hq
        obtain⟨z1,z2,z3,z4⟩:=g3 q hq
        exact⟨z1,by simp only[List.mem_append,not_or];exact⟨fun e=>(hno _ e).2.2 (List.mem_map_of_mem hq),z2⟩,by omega,z4⟩
       ·rw[List.flatten_cons]
        refine List.nodup_append.2 ⟨q2,g7,fun g hg g' hg' e=>?_⟩
        subst e
        rcases q3 g hg with h | ⟨r',hr',e⟩
        ·obtain⟨t,e,ht⟩:=hgv g h
         rcases g8 g hg' with ⟨t',e',ht'⟩ | ⟨r'',hr'',e'⟩
         ·rw[e] at e';cases e'
          exact not_given hr2 t ht ht'
         ·rw[e] at e';cases e'
        ·rcases g8 g hg' with ⟨t,e',_⟩ | ⟨r'',hr'',e'⟩
         ·rw[e] at e';cases e'
         ·rw[e] at e';cases e';exact(hno _ hr').1 hr''
       ·intro g hg
        rw[List.flatten_cons] at hg
        rcases List.mem_append.1 hg with hg | hg
        ·rcases q3 g hg with h | ⟨r',hr',e⟩
         ·obtain⟨t,e,ht⟩:=hgv g h
          exact .inl ⟨t,e,by simp only[List.map_append,List.mem_append];exact .inl ht⟩
         ·exact .inr ⟨r',by simp[hr'],e⟩
        ·rcases g8 g hg with ⟨t,e,ht⟩ | ⟨r',hr',e⟩
         ·exact .inl ⟨t,e,by simp only[List.map_append,List.mem_append];exact .inr ht⟩
         ·exact .inr ⟨r',by simp[hr'],e⟩
      ·cases h
     ·rename_i o z n cs hx
      simp only[Option.ite_none_left_eq_some,Option.some.injEq] at h
      obtain⟨hr2,rfl⟩:=h
      obtain⟨g1,g2,g3,g4,g5,fps,g6,g7,g8⟩:=ih (i+1) p' hp' hks hmt
      rw[hx] at r1
      have hr:=inv_one r1 (.inl ⟨_,_,_,_,rfl⟩)
      have hgv:∀g∈fp,∃t,O g=some (true,t)∧t∈(given x (.sl o z n cs)).map (·.1):=by
       intro g hg
       by_cases ho:hasOwn (s.ev x)=true
       ·cases x with
        | tmp t=>exact⟨t,o1 t rfl g hg,by rw[←hx];exact given_of rfl ho⟩
        | _=>rw[e1 (by intro t e;cases e)] at hg;cases hg
       ·rw[hx] at ho
        rw[ownless_v r1 (by simpa using ho)] at hg;cases hg
      refine⟨by rw[←hx];exact look_given g1,g2,fun q hq=>?_,g4,g5,fp::fps,g6.cons (.u (.one ((hr.vmono F.le hvm).chK rfl Kc))),?_,?_⟩
      ·obtain⟨z1,z2,z3,z4⟩:=g3 q hq
       exact⟨z1,z2,by omega,z4⟩
      ·rw[List.flatten_cons]
       refine List.nodup_append.2 ⟨n1,g7,fun g hg g' hg' e=>?_⟩
       subst e
       obtain⟨t,e,ht⟩:=hgv g hg
       rcases g8 g hg' with ⟨t',e',ht'⟩ | ⟨r'',hr'',e'⟩
       ·rw[e] at e';cases e'
        exact not_given hr2 t ht ht'
       ·rw[e] at e';cases e'
      ·intro g hg
       rw[List.flatten_cons] at hg
       rcases List.mem_append.1 hg with hg | hg
       ·obtain⟨t,e,ht⟩:=hgv g hg
        exact .inl ⟨t,e,by simp only[List.map_append,List.mem_append];exact .inl ht⟩
       ·rcases g8 g hg with ⟨t,e,ht⟩ | ⟨r',hr',e⟩
        ·exact .inl ⟨t,e,by simp only[List.map_append,List.mem_append];exact .inr ht⟩
        ·exact .inr ⟨r',hr',e⟩
     ·rename_i hx
      simp only[Option.some.injEq] at h
      subst h
      obtain⟨g1,g2,g3,g4,g5,fps,g6,g7,g8⟩:=ih (i+1) p' hp' hks hmt
      rw[hx] at r1
      obtain⟨e,rfl⟩:=inv_nil r1
      exact⟨g1,g2,fun q hq=>(by obtain⟨z1,z2,z3,z4⟩:=g3 q hq;exact⟨z1,z2,by omega,z4⟩),g4,g5,[]::fps,g6.cons (by rw[e];exact .u (.one (.nl .nil))),by simpa using g7,by simpa using g8⟩
     ·rename_i u hx
      simp only[Option.some.injEq] at h
      subst h
      obtain⟨g1,g2,g3,g4,g5,fps,g6,g7,g8⟩:=ih (i+1) p' hp' hks hmt
      rw[hx] at r1
      obtain⟨e,rfl,hp⟩:=inv_lit r1
      exact⟨g1,g2,fun q hq=>(by obtain⟨z1,z2,z3,z4⟩:=g3 q hq;exact⟨z1,z2,by omega,z4⟩),g4,g5,[]::fps,g6.cons (by rw[e];exact .litX hp),by simpa using g7,by simpa using g8⟩
     ·cases h
    · -- a look
     split at h
     ·rename_i y hy
      simp only[Option.ite_none_left_eq_some,Option.some.injEq] at h
      obtain⟨hno,rfl⟩:=h
      obtain⟨g1,g2,g3,g4,g5,fps,g6,g7,g8⟩:=ih (i+1) p' hp' (fun k hk=>hks k (by simp only[List.mem_append] at hk ⊢;rcases hk with hk | hk;exact .inl (.inr hk);exact .inr hk)) hmt
      refine⟨g1,g2,?_,g4,g5,[]::fps,g6.cons (ro_rep (Kc:=Kc) R F r1 hvm hy (fun k hk=>hks k (by simp only[List.mem_append];exact .inl (.inl hk)))),by simpa using g7,by simpa using g8⟩
      intro q hq
      obtain⟨z1,z2,z3,z4⟩:=g3 q hq
      refine⟨?_,z2,by omega,z4⟩
      simp only[List.mem_append,not_or]
      refine⟨fun hl=>hno ?_,z1⟩
      rw[List.any_eq_true]
      exact⟨q.2,hl,by simp only[decide_eq_true_eq];exact .inr (List.mem_map_of_mem hq)⟩
     ·cases h
end Evl
namespace Evl
open Go
variable {P:Program}{H:Hints}{fid:FuncId}{N:Nat}{w0 w w':World}{M:Nat→Prop}{V0 V V' V1 Vc:Nat→Nat}{K K' K2 Kc:Nat→Nat×Nat}{O O' O1 Oc:Nat→Option Loc}{s:S}{a:Act}{fp:List Nat}{v:Value}{KS:List Nat}
def un (O:Nat→Option Loc)(set:List (Nat×AV))(kl:List Nat)(mts:List (Nat×Nat))(g:Nat):Bool :=
 match O g with
 | some (true,t)=>!(set.map (·.1)).contains t
 | some (false,b)=>!kl.contains b&&!(mts.map (·.2)).contains b
 | none=>false
theorem lookup_none{α:Type}{t:Nat}{l:List (Nat×α)}:lookup t l=none↔t∉l.map (·.1):=by
 induction l with
 | nil=>simp[lookup]
 | cons q l ih =>
  obtain⟨k,x⟩:=q
  simp only[lookup,List.map_cons,List.mem_cons,not_or]
  by_cases e:k=t
  ·simp[e]
  ·rw[if_neg e,ih];exact⟨fun h=>⟨fun e'=>e e'.symm,h⟩,fun h=>h.2⟩
def bk:List (Nat×Nat)→Nat→Option Nat
 | [],_=>none
 | (i,b)::l,k=>if k=1000+i then some b else bk l k
theorem bk_of{l:List (Nat×Nat)}(hn:(l.map (·.1)).Nodup){i b:Nat}(h:(i,b)∈l):bk l (1000+i)=some b:=by
 induction l with
 | nil=>cases h
 | cons q l ih =>
  obtain⟨j,c⟩:=q
  simp only[List.map_cons,List.nodup_cons] at hn
  simp only[bk]
  rcases List.mem_cons.1 h with e | h'
  ·cases e;simp
  ·rw[if_neg ?_];exact ih hn.2 h'
   intro e
   have e':j=i:=by omega
   exact hn.1 (List.mem_map.2 ⟨(i,b),h',e'.symm⟩)
theorem Rep.lower{m:Bool}{us:List Value}{cs:List AV}(h:Rep V w K m fp us cs)(hs:hasShL cs=false)(ho:∀g∈fp,V' g=V g):Rep V' w K m fp us cs:=by
 induction h with
 | nil=>exact .nil
 | lit hp _ ih=>exact .lit hp (ih (by simpa [hasShL,hasSh] using hs) ho)
 | nl _ ih=>exact .nl (ih (by simpa [hasShL,hasSh] using hs) ho)
 | ns _ ih=>simp[hasShL,hasSh] at hs
 | on _ ih=>exact .on (ih (by simpa [hasShL,hasSh] using hs) ho)
 | sh a vs h1 h2 h3 hin _ ih1 ih2=>simp[hasShL,hasSh] at hs
 | ow g T arr fz vs h1 h2 h3 h4 h5 h6 h7 h8 hin _ ih1 ih2 =>
  simp only[hasShL,hasSh,Bool.or_eq_false_iff] at hs
  exact .ow g T arr fz vs h1 h2 h3 h4 h5 h6 h7 ((ho g (by simp)).trans h8) (ih1 hs.1.2 fun x hx=>ho x (by simp[hx])) (ih2 hs.2 fun x hx=>ho x (by simp[hx]))
 | ms b h0 h1 _ ih=>simp[hasShL,hasSh] at hs
 | mv b h0 _ ih=>simp[hasShL,hasSh] at hs
 | bd u hu _ ih=>simp[hasShL,hasSh] at hs
theorem RepU.lower{x:AV}(h:RepU V w K fp v x)(hs:hasSh x=false)(ho:∀g∈fp,V' g=V g):RepU V' w K fp v x:=by
 cases h with
 | one h=>exact .one (h.lower (by simp[hasShL,hs]) ho)
 | agg h=>exact .agg (h.lower (by simpa [hasSh] using hs) ho)
 | p h=>cases h <;> simp[hasSh] at hs
 | fnv h=>simp[hasSh] at hs
theorem RepT.lower{us xs}(h:RepT V w K fp us xs)(ho:∀g∈fp,V' g=V g):hasShL xs=false→RepT V' w K fp us xs:=by
 induction h with
 | nil=>intro _;exact .nil
 | cons a _ ih =>
  intro hs
  simp only[hasShL,Bool.or_eq_false_iff] at hs
  exact .cons (a.lower hs.1 fun g hg=>ho g (by simp[hg])) (ih (fun g hg=>ho g (by simp[hg])) hs.2)
structure Back(w:World)(Vc:Nat→Nat)(Kc:Nat→Nat×Nat)(Oc:Nat→Option Loc)(bx':Nat→Option Box)(w':World)(V1:Nat→Nat)(O1:Nat→Option Loc)(fp:List Nat):Prop where
 fr:Fr w (fun g=>Oc g≠none) w'
 nx:Next Vc V1 w w'
 vr:∀g,0<V1 g→g<w'.heap.size
 vo:∀g,g<w.heap.size→Oc g=none→V1 g=Vc g
 nd:fp.Nodup
 own:∀g∈fp,O1 g=some (true,0)
 bx:∀b x,bx' b=some x→∃fb arr T fz us,((Kc b).1::fb).Nodup∧(∀g∈(Kc b).1::fb,O1 g=some (false,b))∧BoxOk V1 w' Kc b x fb arr T fz us
 rg:∀g l,O1 g=some l→(w.heap.size≤g∨Oc g≠none)∧g<w'.heap.size
section
variable {set:List (Nat×AV)}{kl tmp:List Nat}{mts:List (Nat×Nat)}{bx':Nat→Option Box}
def v2 (O:Nat→Option Loc)(set:List (Nat×AV))(kl:List Nat)(mts:List (Nat×Nat))(V V1:Nat→Nat):Nat→Nat:=fun g=>if un O set kl mts g then V g else V1 g
theorem un_facts(R:RelG N w0 M V0 K V O s a w)(hOc:∀g,Oc g≠none→un O set kl mts g=false∧O g≠none)(B:Back w Vc Kc Oc bx' w' V1 O1 fp){g:Nat}(h:un O set kl mts g=true):g<w.heap.size∧Oc g=none∧O1 g=none:=by
 have h1:∃l,O g=some l:=by
  unfold un at h
  cases hO:O g with
  | none=>rw[hO] at h;cases h
  | some l=>exact⟨l,rfl⟩
 obtain⟨l,hl⟩:=h1
 have h2:=(R.rg g l hl).2
 have h3:Oc g=none:=by
  cases ho:Oc g with
  | none=>rfl
  | some l'=>have:=(hOc g (by rw[ho];simp)).1;rw[h] at this;cases this
 refine⟨h2,h3,?_⟩
 cases ho:O1 g with
 | none=>rfl
 | some l' =>
   rcases(B.rg g l' ho).1 with h | h
   ·omega
   ·exact absurd h3 h
theorem v2_own(R:RelG N w0 M V0 K V O s a w)(hOc:∀g,Oc g≠none→un O set kl mts g=false∧O g≠none)(B:Back w Vc Kc Oc bx' w' V1 O1 fp){g:Nat}(h:O1 g≠none):v2 O set kl mts V V1 g=V1 g:=by
 unfold v2
 split
 ·rename_i hu;exact absurd (un_facts R hOc B hu).2.2 h
 ·rfl
theorem v2_all(R:RelG N w0 M V0 K V O s a w)(F:Frz V K O s (tmp++kl) Vc)(hOc:∀g,Oc g≠none→un O set kl mts g=false∧O g≠none)(B:Back w Vc Kc Oc bx' w' V1 O1 fp)(h:tmp=[]):v2 O set kl mts V V1=V1:=by
 funext g
 unfold v2
 split
 ·rename_i hu
  obtain⟨h1,h2,h3⟩:=un_facts R hOc B hu
  rw[B.vo g h1 h2,F.other g ?_]
  intro r hr hO
  subst h
  simp only[List.nil_append] at hr
  unfold un at hu
  rw[hO] at hu
  simp[hr] at hu
 ·rfl
theorem v2_back(R:RelG N w0 M V0 K V O s a w)(F:Frz V K O s (tmp++kl) Vc)(hOc:∀g,Oc g≠none→un O set kl mts g=false∧O g≠none)(B:Back w Vc Kc Oc bx' w' V1 O1 fp){m us cs fq}(h:Rep V1 w' K' m fq us cs)(ho:∀g∈fq,O1 g≠none)(hs:tmp=[]∨hasShL cs=false):Rep (v2 O set kl mts V V1) w' K' m fq us cs:=by
 rcases hs with hs | hs
 ·rw[v2_all R F hOc B hs];exact h
 ·exact h.lower hs fun g hg=>v2_own R hOc B (ho g hg)
theorem call_apply(R:RelG N w0 M V0 K V O s a w)(F:Frz V K O s (tmp++kl) Vc)(hset:∀t z,lookup t set=some z→z=share (s.t t))(hmn:(mts.map (·.1)).Nodup)
  (hOc:∀g,Oc g≠none→un O set kl mts g=false∧O g≠none) (B:Back w Vc Kc Oc bx' w' V1 O1 fp) (e:Eff) (dst:Option Nat) (hd:∀d,dst=some d→d<N) (newl:Option Loc)
  (hK:∀b,b∉e.kl→K2 b=K b) (he1:e.set=set) (he2:∀b∈kl,b∈e.kl) (hput':∀q∈mts,lookup q.2 e.put≠none)
  (hput:∀b x,lookup b e.put=some x→(newl=some (false,b)∧∃fb arr T fz us,fp=(K2 b).1::fb∧BoxOk (v2 O set kl mts V V1) w' K2 b x fb arr T fz us)∨(∃i,(i,b)∈mts∧bx' (1000+i)=some x∧K2 b=Kc (1000+i)∧cleanL x.cs=true∧(tmp=[]∨hasShL x.cs=false))∨(x.sz≠0∧x.cs=[]∧(K2 b).2=0))
  (hval:∀d,dst=some d→∃fv,(fv=[]∨fv=fp∧newl=some (true,d))∧RepV (v2 O set kl mts V V1) w' K2 fv v e.val) :
  ∃O2,RelG N w0 M V0 K2 (v2 O set kl mts V V1) O2 (e.apply dst s) (a.put dst v) w':=by
 have hVle:∀g,V g≤v2 O set kl mts V V1 g:=by
  intro g;unfold v2;split
  ·exact Nat.le_refl _
  ·exact Nat.le_trans (F.le g) (B.nx.le g)
 have hn:Next V (v2 O set kl mts V V1) w w':=⟨fun g off ho=>B.nx.cell g off (Nat.lt_of_lt_of_le ho (F.le g)),hVle,B.nx.sz⟩
 refine⟨fun g=>if g∈fp then newl else match O1 g with | some (false,k)=>(match bk mts k with | some b=>some (false,b) | none=>none) | _=>if un O set kl mts g then O g else none,R.apply e dst v hd hn hK ?_ ?_ ?_ ?_ ?_ ?_ ?_ ?_⟩
 ·intro g l hl ht hb
  have hu:un O set kl mts g=true:=by
   unfold un;rw[hl]
   obtain⟨c,t⟩:=l
   cases c with
   | true =>
    have:=(ht t rfl).2
    rw[he1,lookup_none] at this
    simpa using this
   | false =>
    obtain⟨h1,h2⟩:=hb t rfl
    have h3:t∉kl:=fun h=>h2 (he2 t h)
    have h4:t∉mts.map (·.2):=fun h=>by
     obtain⟨q,hq,rfl⟩:=List.mem_map.1 h
     exact hput' q hq h1
    simp only[Bool.and_eq_true,Bool.not_eq_true',List.contains_eq_mem,decide_eq_false_iff_not]
    exact⟨h3,h4⟩
  obtain⟨h1,h2,h3⟩:=un_facts R hOc B hu
  refine⟨B.fr.old g h1 (by simp[h2]),by simp[v2,hu],?_⟩
  have hnf:g∉fp:=fun h=>by rw[B.own g h] at h3;cases h3
  simp[hnf,h3,hu,hl]
 ·intro t x hne hl
  rw[he1] at hl
  obtain rfl:=hset t x hl
  obtain⟨fq,h1,h2,h3⟩:=R.tm t
  exact⟨[],List.nodup_nil,by simp,h3.share.next hn (by simp) e.kl hK⟩
 ·intro d hdd
  obtain⟨fv,h1,h2⟩:=hval d hdd
  rcases h1 with rfl | ⟨rfl,h1⟩
  ·exact⟨[],List.nodup_nil,by simp,h2⟩
  ·exact⟨fv,B.nd,fun g hg=>by simp[hg,h1],h2⟩
 ·intro b x hl
  rcases hput b x hl with ⟨h1,fb,arr,T,fz,us,rfl,h2⟩ | ⟨i,h1,h2,h3,h4,h5⟩ | hv
  ·exact .inr ⟨fb,arr,T,fz,us,B.nd,fun g hg=>(if_pos hg).trans h1,h2⟩
  ·obtain⟨fb,arr,T,fz,us,q1,q2,q3⟩:=B.bx _ x h2
   have hnm:idsL x.cs=[]:=by
    have:∀cs:List AV,cleanL cs=true→idsL cs=[]:=by
     intro cs;induction cs with
     | nil=>intro _;rfl
     | cons c cs ih =>
      intro h
      simp only[cleanL,List.all_cons,Bool.and_eq_true] at h
      have hc:ids c=[]:=by cases c <;> simp_all [cleanC,ids]
      simp[idsL,hc,ih h.2]
    exact this _ h4
   refine .inr ⟨fb,arr,T,fz,us,by rw[h3];exact q1,fun g hg=>?_,?_⟩
   ·rw[h3] at hg
    have hO:=q2 g hg
    have hnf:g∉fp:=fun h=>by rw[B.own g h] at hO;cases hO
    refine(if_neg hnf).trans ?_
    rw[hO]
    simp[bk_of hmn h1]
   ·refine⟨by rw[h3];exact q3.hp,q3.th,q3.pre,?_,?_,q3.var,by rw[h3];exact q3.row⟩
    ·exact(v2_back R F hOc B q3.rep (fun g hg=>by rw[q2 g (by simp[hg])];simp) h5).chK hnm K2
    ·rw[h3,v2_own R hOc B (by rw[q2 _ List.mem_cons_self];simp),q3.vis]
  ·exact .inl hv
 ·intro g l hl
  have key:∀l',O1 g=some l'→(w0.heap.size≤g∨M g)∧g<w'.heap.size:=by
   intro l' h
   obtain⟨h1,h2⟩:=B.rg g l' h
   refine⟨?_,h2⟩
   rcases h1 with h1 | h1
   ·exact .inl (Nat.le_trans R.fr.sz h1)
   ·cases hO:O g with
    | none=>exact absurd hO (hOc g h1).2
    | some l''=>exact(R.rg g l'' hO).1
  split at hl
  ·rename_i hg;exact key _ (B.own g hg)
  ·split at hl
   ·rename_i k hk;exact key _ hk
   ·split at hl
    ·obtain⟨h1,h2⟩:=R.rg g l hl
     exact⟨h1,Nat.lt_of_lt_of_le h2 B.nx.sz⟩
    ·cases hl
 ·intro g hg
  unfold v2 at hg
  split at hg
  ·exact Nat.lt_of_lt_of_le (R.vr g hg) B.nx.sz
  ·exact B.vr g hg
 ·refine⟨B.fr.os.trans R.fr.os,B.fr.tape.trans R.fr.tape,B.fr.output.trans R.fr.output,Nat.le_trans R.fr.sz B.fr.sz,fun g h1 h2=>?_,Nat.le_trans R.fr.dr B.fr.dr⟩
  rw[B.fr.old g (Nat.lt_of_lt_of_le h1 R.fr.sz) ?_];exact R.fr.old g h1 h2
  intro h
  cases hO:O g with
  | none=>exact(hOc g h).2 hO
  | some l =>
    rcases(R.rg g l hO).1 with h' | h'
    ·omega
    ·exact h2 h'
 ·intro g h1 h2
  have hO:O g=none:=by
   cases hO:O g with
   | none=>rfl
   | some l =>
     rcases(R.rg g l hO).1 with h' | h'
     ·omega
     ·exact absurd h' h2
  have hu:un O set kl mts g=false:=by unfold un;rw[hO]
  have hoc:Oc g=none:=by
   cases h:Oc g with
   | none=>rfl
   | some l=>exact absurd hO (hOc g (by rw[h];simp)).2
  unfold v2
  rw[hu]
  simp only[Bool.false_eq_true,if_false]
  rw[B.vo g (Nat.lt_of_lt_of_le h1 R.fr.sz) hoc,F.other g (fun r _ e=>by rw[hO] at e;cases e)]
end
end Evl
namespace Evl
open Go
variable {P:Program}{H:Hints}{fid:FuncId}{b b':Nat→Option Box}{s u:S}
theorem freezeL_congr:∀{cs ys:List AV} {ks:List Nat},freezeL b cs=some (ys,ks)→(∀k∈ks,b' k=b k)→freezeL b' cs=some (ys,ks):=by
 intro cs
 induction cs with
 | nil=>intro ys ks h _;exact h
 | cons c cs ih =>
  intro ys ks h hb
  unfold freezeL at h
  split at h
  ·simp_all
  ·rename_i r n cs' e
   obtain⟨rfl,rfl⟩:=by simpa using e
   split at h
   ·rename_i x ys' ks' hx hf
    simp only[Option.ite_none_right_eq_some,Option.some.injEq,Prod.mk.injEq] at h
    obtain⟨hc,rfl,rfl⟩:=h
    have:=ih hf fun k hk=>hb k (by simp[hk])
    simp only[freezeL,hb r (by simp),hx,this]
    rw[if_pos hc]
   ·cases h
  ·cases h
  ·rename_i c' cs' h1 h2 e
   obtain⟨rfl,rfl⟩:=by simpa using e
   split at h
   ·rename_i ys' ks' hf
    cases h
    have:=ih hf hb
    cases c <;> first | (exact absurd rfl (h1 _ _)) | (exact absurd rfl h2) | (simp only[freezeL,this])
   ·cases h
theorem roCell_congr{c y:AV}(h:roCell b c=some y)(hb:∀k∈ids c,b' k=b k):roCell b' c=some y:=by
 cases c <;> try exact h
 rename_i r n
 simp only[roCell] at h ⊢
 rw[hb r (by simp[ids])];exact h
theorem roCells_congr:∀{cs ys:List AV},roCells b cs=some ys→(∀k∈idsL cs,b' k=b k)→roCells b' cs=some ys:=by
 intro cs
 induction cs with
 | nil=>intro ys h _;exact h
 | cons c cs ih =>
  intro ys h hb
  simp only[roCells] at h ⊢
  split at h
  ·rename_i y ys' h1 h2
   cases h
   rw[roCell_congr h1 fun k hk=>hb k (by simp[idsL,hk]),ih h2 fun k hk=>hb k (by simp[idsL,hk])]
  ·cases h
theorem idsL_drop(n:Nat):∀(l:List AV),∀k∈idsL (l.drop n),k∈idsL l:=by
 induction n with
 | zero=>intro l k h;simpa using h
 | succ n ih=>intro l k h;cases l with
  | nil=>simpa using h
  | cons c l=>simp only[List.drop_succ_cons] at h;simp only[idsL,List.mem_append];exact .inr (ih l k h)
theorem roPtr_congr{x y:AV}(h:roPtr b x=some y)(h1:∀k∈ids x,b' k=b k)(h2:∀k∈inside b x,b' k=b k):roPtr b' x=some y:=by
 cases x <;> try exact h
 rename_i r off
 simp only[roPtr] at h ⊢
 rw[h1 r (by simp[ids])]
 split at h
 ·rename_i z hz
  simp only[Option.ite_none_right_eq_some,Option.map_eq_some_iff] at h
  obtain⟨hl,ds,hd,rfl⟩:=h
  rw[if_pos hl,roCells_congr hd fun k hk=>h2 k (by simp only[inside,hz];exact idsL_drop off z.cs k hk)]
  rfl
 ·cases h
theorem roCaps_congr:∀{cs ys:List AV},roCaps b cs=some ys→(∀k∈idsL cs,b' k=b k)→(∀k∈cs.flatMap (inside b),b' k=b k)→roCaps b' cs=some ys:=by
 intro cs
 induction cs with
 | nil=>intro ys h _ _;exact h
 | cons c cs ih =>
  intro ys h h1 h2
  simp only[roCaps] at h ⊢
  split at h
  ·rename_i y ys' g1 g2
   cases h
   rw[roPtr_congr g1 (fun k hk=>h1 k (by simp[idsL,hk])) (fun k hk=>h2 k (by simp only[List.flatMap_cons,List.mem_append];exact .inl hk)),ih g2 (fun k hk=>h1 k (by simp[idsL,hk])) (fun k hk=>h2 k (by simp only[List.flatMap_cons,List.mem_append];exact .inr hk))]
  ·cases h
theorem inside_congr{x:AV}(h1:∀k∈ids x,b' k=b k):inside b' x=inside b x:=by
 cases x <;> try rfl
 rename_i r off
 simp only[inside];rw[h1 r (by simp[ids])]
theorem insides_congr:∀{cs:List AV},(∀k∈idsL cs,b' k=b k)→cs.flatMap (inside b')=cs.flatMap (inside b):=by
 intro cs
 induction cs with
 | nil=>intro _;rfl
 | cons c cs ih =>
  intro h
  simp only[List.flatMap_cons]
  rw[ih fun k hk=>h k (by simp[idsL,hk]),inside_congr fun k hk=>h k (by simp[idsL,hk])]
theorem leans_congr{x:AV}(h:∀k∈ids x,b' k=b k):leans b' x=leans b x:=by
 unfold leans
 congr 1
 cases x <;> first | rfl | exact inside_congr h | exact insides_congr (by simpa [ids] using h)
theorem ro_congr{x y:AV}(h:ro b x=some y)(hk:∀k∈leans b x,b' k=b k):ro b' x=some y:=by
 have h1:∀k∈ids x,b' k=b k:=fun k hk'=>hk k (by simp[leans,hk'])
 cases x with
 | agg cs =>
  simp only[ro,Option.map_eq_some_iff] at h ⊢
  obtain⟨ds,hd,rfl⟩:=h
  exact⟨ds,roCells_congr hd (by simpa [ids] using h1),rfl⟩
 | ptr r off=>exact roPtr_congr (x:=.ptr r off) h h1 fun k hk'=>hk k (by simp only[leans,List.mem_append];exact .inr hk')
 | fnv f cs =>
  simp only[ro,Option.map_eq_some_iff] at h ⊢
  obtain⟨ds,hd,rfl⟩:=h
  exact⟨ds,roCaps_congr hd (by simpa [ids] using h1) (fun k hk'=>hk k (by simp only[leans,List.mem_append];exact .inr hk')),rfl⟩
 | msl r n=>exact roCell_congr (c:=.msl r n) h h1
 | _=>exact h
theorem prep_congr{f:FuncId}:∀{xs:List Operand} {i:Nat} {p:Prep},prep H f s i xs=some p→(∀x∈xs,u.ev x=s.ev x)→(∀k∈p.tmp++p.kl++p.mts.map (·.2),u.b k=s.b k)→prep H f u i xs=some p:=by
 intro xs
 induction xs with
 | nil=>intro i p h _ _;exact h
 | cons x xs ih =>
  intro i p h hx hb
  simp only[prep] at h ⊢
  split at h
  ·cases h
  ·rename_i p' hp'
   have hxx:u.ev x=s.ev x:=hx x (by simp)
   rw[hxx]
   have ih':=fun hh=>ih hp' (fun y hy=>hx y (by simp[hy])) hh
   split at h
   ·rename_i hm
    split at h
    ·rename_i r hr
     split at h
     ·rename_i bx hbx
      simp only[Option.ite_none_right_eq_some,Option.some.injEq] at h
      obtain⟨hc,rfl⟩:=h
      rw[ih' (fun k hk=>hb k (by simp only[List.map_cons,List.mem_append,List.mem_cons] at hk ⊢;rcases hk with hk | hk;exact .inl hk;exact .inr (.inr hk)))]
      simp only[hm,if_true,hr]
      rw[hb r (by simp),hbx]
      simp only[if_pos hc]
     ·cases h
    ·cases h
   ·rename_i hm
    split at h
    ·rename_i ho
     split at h
     ·rename_i r n hr
      split at h
      ·rename_i y ks hf
       simp only[Option.ite_none_left_eq_some,Option.some.injEq] at h
       obtain⟨hc,rfl⟩:=h
       have hks:ks=[r]:=by
        simp only[freezeL] at hf
        split at hf
        ·rename_i z ys' ks' hb hf'
         cases hf'
         simp only[Option.ite_none_right_eq_some,Option.some.injEq,Prod.mk.injEq] at hf
         exact hf.2.2.symm
        ·cases hf
       rw[ih' (fun k hk=>hb k (by simp only[List.mem_append,List.mem_cons] at hk ⊢;rcases hk with (hk | hk) | hk;exact .inl (.inl hk);exact .inl (.inr (.inr hk));exact .inr hk))]
       simp only[hm,if_false,ho,if_true,hr,freezeL_congr hf (b':=u.b) (fun k hk=>hb k (by rw[hks] at hk;simp at hk;simp[hk]))]
       simp only[Bool.false_eq_true,if_false,if_neg hc]
      ·cases h
     ·rename_i cs hr
      split at h
      ·rename_i ys ks hf
       simp only[Option.ite_none_left_eq_some,Option.some.injEq] at h
       obtain⟨hc,rfl⟩:=h
       rw[ih' (fun k hk=>hb k (by simp only[List.mem_append] at hk ⊢;rcases hk with (hk | hk) | hk;exact .inl (.inl hk);exact .inl (.inr (.inr hk));exact .inr hk))]
       simp only[hm,Bool.false_eq_true,if_false,ho,if_true,hr,freezeL_congr hf (b':=u.b) (fun k hk=>hb k (by simp[hk]))]
       simp only[if_neg hc]
      ·cases h
     ·rename_i o z n cs hr
      simp only[Option.ite_none_left_eq_some,Option.some.injEq] at h
      obtain⟨hc,rfl⟩:=h
      rw[ih' (fun k hk=>hb k hk)]
      simp only[hm,Bool.false_eq_true,if_false,ho,if_true,hr]
      simp only[if_neg hc]
     ·rename_i hr
      cases h
      rw[ih' (fun k hk=>hb k hk)]
      simp only[hm,Bool.false_eq_true,if_false,ho,if_true,hr]
     ·rename_i v hr
      cases h
      rw[ih' (fun k hk=>hb k hk)]
      simp only[hm,Bool.false_eq_true,if_false,ho,if_true,hr]
     ·cases h
    ·rename_i ho
     split at h
     ·rename_i y hy
      simp only[Option.ite_none_left_eq_some,Option.some.injEq] at h
      obtain⟨hc,rfl⟩:=h
      rw[ih' (fun k hk=>hb k (by simp only[List.mem_append] at hk ⊢;rcases hk with (hk | hk) | hk;exact .inl (.inl (.inr hk));exact .inl (.inr hk);exact .inr hk))]
      have hl:∀k∈leans s.b (s.ev x),u.b k=s.b k:=fun k hk=>hb k (by simp only[List.mem_append];exact .inl (.inl (.inl hk)))
      have hl2:leans u.b (s.ev x)=leans s.b (s.ev x):=leans_congr fun k hk=>hl k (by simp[leans,hk])
      simp only[hm,Bool.false_eq_true,if_false,ho,ro_congr hy hl,hl2]
      simp only[if_neg hc]
     ·cases h
theorem bxOf_congr:∀{l:List (Nat×Nat)},(∀k∈l.map (·.2),u.b k=s.b k)→bxOf u l=bxOf s l:=by
 intro l
 induction l with
 | nil=>intro _;rfl
 | cons q l ih =>
  intro h
  obtain⟨i,r⟩:=q
  funext k
  simp only[bxOf]
  rw[ih fun k hk=>h k (by simp only[List.map_cons,List.mem_cons];exact .inr hk),h r (by simp)]
theorem partsOf_congr:∀{l:List (Nat×Operand)},(∀q∈l,u.ev q.2=s.ev q.2)→partsOf u l=partsOf s l∧partsGiven u l=partsGiven s l:=by
 intro l
 induction l with
 | nil=>intro _;exact⟨rfl,rfl⟩
 | cons q l ih =>
  intro h
  obtain⟨i,x⟩:=q
  obtain⟨h1,h2⟩:=ih fun q hq=>h q (by simp[hq])
  have:=h (i,x) (by simp)
  simp only at this
  simp only[partsOf,partsGiven,this,h1,h2,true_and]
theorem loadE_congr{d:Nat}{t:TypeId}{x:AV}{e:Eff}(h:loadE P H fid d t s x=some e)(hb:∀k∈e.rd,u.b k=s.b k):loadE P H fid d t u x=some e:=by
 cases x <;> try exact h
 rename_i r off
 have hr:u.b r=s.b r:=by
  apply hb
  simp only[loadE] at h
  split at h
  ·split at h
   ·split at h <;> cases h <;> simp
   ·cases h
  ·split at h <;> cases h <;> exact List.mem_singleton.2 rfl
  ·cases h
 simp only[loadE] at h ⊢
 rw[hr];exact h
theorem storeE_congr{t:TypeId}{xa:AV}{xo:Operand}{e:Eff}(h:storeE P t s xa xo=some e)(hx:u.ev xo=s.ev xo)(hb:∀k∈e.rd,u.b k=s.b k):storeE P t u xa xo=some e:=by
 unfold storeE at h ⊢
 rw[hx]
 split at h
 ·rename_i r off k cs h1 h2
  split at h
  ·rename_i x hxr
   split at h
   ·rename_i hc
    split at h
    ·rename_i hz
     cases h
     simp only[h1,h2,hb r (by simp),hxr,hz,if_true]
     simp only[if_pos hc]
    ·rename_i hz
     split at h
     ·rename_i ys ks hf
      simp only[Option.ite_none_left_eq_some,Option.some.injEq] at h
      obtain⟨hn,rfl⟩:=h
      simp only[h1,h2,hb r (by simp),hxr]
      simp only[if_pos hc,if_neg hz,freezeL_congr hf (b':=u.b) (fun k hk=>hb k (by simp[hk])),if_neg hn]
     ·cases h
   ·cases h
  ·cases h
 ·cases h
end Evl
namespace Evl
open Go
variable {P:Program}{H:Hints}{fid:FuncId}{s u:S}
theorem appArg_congr{kb:Bool}{sz:Nat}{y:AV}{ys:List AV}{ks rs:List Nat}(h:appArg kb s sz y=some (ys,ks,rs))(hb:∀k∈rs,u.b k=s.b k):appArg kb u sz y=some (ys,ks,rs):=by
 cases y <;> try exact h
 rename_i r n
 have hr:u.b r=s.b r:=by
  apply hb
  simp only[appArg] at h
  split at h
  ·simp only[Option.ite_none_right_eq_some] at h
   have h:=h.2
   split at h <;> cases h <;> exact List.mem_singleton.2 rfl
  ·cases h
 simp only[appArg,hr] at h ⊢;exact h
theorem appendE_congr{kb:Bool}{d:Nat}{t:TypeId}{x y:AV}{e:Eff}(h:appendE P kb d t s x y=some e)(hb:∀k∈e.rd,u.b k=s.b k):appendE P kb d t u x y=some e:=by
 unfold appendE at h ⊢
 split at h
 ·rename_i e' sz bytes ht
  split at h
  ·cases h
  ·rename_i hc
   split at h
   ·rename_i ys ks rs hy
    split at h
    ·cases h
    ·rename_i hdk
     split at h
     ·have hrs:e.rd=rs:=by
       simp only[Option.ite_none_right_eq_some] at h
       have h:=h.2
       split at h <;> cases h <;> rfl
      simp only[if_neg hc,appArg_congr hy fun k hk=>hb k (by rw[hrs];exact hk),if_neg hdk]
      exact h
     ·rename_i r n
      split at h
      ·rename_i bx hr
       have hrs:e.rd=r::rs:=by
        simp only[Option.ite_none_right_eq_some,Option.some.injEq] at h
        rw[←h.2]
       simp only[if_neg hc,appArg_congr hy fun k hk=>hb k (by rw[hrs];simp[hk]),if_neg hdk,hb r (by rw[hrs];simp),hr]
       exact h
      ·cases h
     ·cases h
   ·cases h
 ·cases h
theorem opE_congr{o:Oper}{e:Eff}(h:opE P H fid o s=some e)(hx:∀x∈o.op.operands,u.ev x=s.ev x)(hb:∀k∈e.rd,u.b k=s.b k):opE P H fid o u=some e:=by
 cases hop:o.op with
 | move x =>
  rw[hop] at hx;have h1:=hx x (by simp[Op.operands])
  simp only[opE,hop,h1] at h ⊢;exact h
 | assign x =>
  rw[hop] at hx;have h1:=hx x (by simp[Op.operands])
  simp only[opE,hop,h1] at h ⊢;exact h
 | pick c x y =>
  rw[hop] at hx;have h1:=hx c (by simp[Op.operands]);have h2:=hx x (by simp[Op.operands]);have h3:=hx y (by simp[Op.operands])
  simp only[opE,hop,h1,h2,h3] at h ⊢;exact h
 | alloc t=>simp only[opE,hop] at h ⊢;exact h
 | box t x =>
  rw[hop] at hx;have h1:=hx x (by simp[Op.operands])
  simp only[opE,hop,h1] at h ⊢;exact h
 | build t ps =>
  rw[hop] at hx
  obtain⟨h1,h2⟩:=partsOf_congr (u:=u) (s:=s) (l:=ps.toList) fun q hq=>hx q.2 (by simp only[Op.operands,List.mem_toArray,List.mem_map];exact⟨q,hq,rfl⟩)
  simp only[opE,hop,h1,h2] at h ⊢;exact h
 | buildSlice t n ps =>
  rw[hop] at hx
  obtain⟨h1,h2⟩:=partsOf_congr (u:=u) (s:=s) (l:=ps.toList) fun q hq=>hx q.2 (by simp only[Op.operands,List.mem_toArray,List.mem_map];exact⟨q,hq,rfl⟩)
  simp only[opE,hop,h1,h2] at h ⊢
  split at h
  ·rename_i d e' sz _ ps' g1 g2 g3
   split at h
   ·rename_i z hz
    simp only[Option.ite_none_right_eq_some] at h
    obtain⟨hc,h⟩:=h
    rw[if_pos hc]
    split at h
    ·rename_i cs hcs
     split at h
     ·rename_i ys ks hf
      cases h
      rw[freezeL_congr hf (b':=u.b) (fun k hk=>hb k hk)]
     ·cases h
    ·cases h
   ·cases h
  ·cases h
 | load t x =>
  rw[hop] at hx;have h1:=hx x (by simp[Op.operands])
  simp only[opE,hop,h1] at h ⊢
  split at h
  ·exact loadE_congr h hb
  ·cases h
 | store t x y =>
  rw[hop] at hx;have h1:=hx x (by simp[Op.operands]);have h2:=hx y (by simp[Op.operands])
  simp only[opE,hop,h1,Option.ite_none_right_eq_some] at h ⊢
  exact⟨h.1,storeE_congr h.2 h2 hb⟩
 | nilCheck x =>
  rw[hop] at hx;have h1:=hx x (by simp[Op.operands])
  simp only[opE,hop,h1] at h ⊢;exact h
 | binOp op t x y t' =>
  rw[hop] at hx;have h1:=hx x (by simp[Op.operands]);have h2:=hx y (by simp[Op.operands])
  simp only[opE,hop,h1,h2] at h ⊢;exact h
 | unOp op t x =>
  rw[hop] at hx;have h1:=hx x (by simp[Op.operands])
  simp only[opE,hop,h1] at h ⊢;exact h
 | convert t t' x =>
  rw[hop] at hx;have h1:=hx x (by simp[Op.operands])
  simp only[opE,hop,h1] at h ⊢
  split at h <;> try exact h
  rename_i r n _
  have hr:u.b r=s.b r:=by
   apply hb
   split at h
   ·split at h
    ·simp only[Option.ite_none_right_eq_some,Option.map_eq_some_iff] at h
     obtain⟨_,t,_,rfl⟩:=h;exact List.mem_singleton.2 rfl
    ·cases h
   ·split at h
    ·simp only[Option.ite_none_right_eq_some,Option.some.injEq] at h
     rw[←h.2];exact List.mem_singleton.2 rfl
    ·cases h
  rw[hr];exact h
 | fieldAddr t x f =>
  rw[hop] at hx;have h1:=hx x (by simp[Op.operands])
  simp only[opE,hop,h1] at h ⊢;exact h
 | indexAddr t x i =>
  rw[hop] at hx;have h1:=hx x (by simp[Op.operands]);have h2:=hx i (by simp[Op.operands])
  simp only[opE,hop,h1,h2] at h ⊢
  split at h
  ·split at h <;> try exact h
   rename_i r n e' z' _ _ _ _
   have hr:u.b r=s.b r:=by
    apply hb
    split at h
    ·simp only[Option.ite_none_right_eq_some,Option.some.injEq] at h
     rw[←h.2];simp
    ·cases h
   rw[hr];exact h
  ·cases h
 | index t x i =>
  rw[hop] at hx;have h1:=hx x (by simp[Op.operands]);have h2:=hx i (by simp[Op.operands])
  simp only[opE,hop,h1,h2] at h ⊢;exact h
 | field ty x f =>
  rw[hop] at hx;have h1:=hx x (by simp[Op.operands])
  simp only[opE,hop,h1] at h ⊢;exact h
 | extract x i =>
  rw[hop] at hx;have h1:=hx x (by simp[Op.operands])
  simp only[opE,hop,h1] at h ⊢;exact h
 | makeSlice t n c =>
  rw[hop] at hx;have h1:=hx n (by simp[Op.operands]);have h2:=hx c (by simp[Op.operands])
  simp only[opE,hop,h1,h2] at h ⊢;exact h
 | slice t x lo hi mx =>
  rw[hop] at hx;have h1:=hx x (by simp[Op.operands])
  have h2:∀z,bnd u z lo=bnd s z lo:=fun z=>by
   cases lo with
   | none=>rfl
   | some l=>simp only[bnd];rw[hx l (by simp[Op.operands])]
  have h3:∀z,bnd u z hi=bnd s z hi:=fun z=>by
   cases hi with
   | none=>rfl
   | some l=>simp only[bnd];rw[hx l (by simp[Op.operands])]
  simp only[opE,hop,h1,Option.ite_none_left_eq_some] at h ⊢
  refine⟨h.1,?_⟩
  have h:=h.2
  cases hs:s.ev x with
  | msl r n =>
   rw[hs] at h
   have hr:u.b r=s.b r:=by
    apply hb
    simp only[sliceE] at h
    split at h
    ·split at h
     ·simp only[Option.ite_none_right_eq_some,Option.some.injEq] at h
      rw[←h.2];exact List.mem_singleton.2 rfl
     ·cases h
    ·cases h
   simp only[sliceE,hr,h2,h3] at h ⊢;exact h
  | sl o z n cs=>rw[hs] at h;simp only[sliceE,h2,h3] at h ⊢;exact h
  | lit v=>rw[hs] at h;cases v <;> simp only[sliceE,h2,h3] at h ⊢ <;> exact h
  | _=>rw[hs] at h;exact h
 | makeFunc fn fs cs =>
  rw[hop] at hx
  have h1:cs.toList.map u.ev=cs.toList.map s.ev:=List.map_congr_left fun c hc=>hx c (by simp only[Op.operands,Array.mem_append];exact .inr (by simpa using hc))
  cases fn with
  | func f=>simp only[opE,hop,h1] at h ⊢;exact h
  | _=>simp[opE,hop] at h
 | call c =>
  obtain⟨cal,args,ts⟩:=c
  cases cal with
  | builtin b =>
   rw[hop] at hx
   have hargs:∀x∈args.toList,u.ev x=s.ev x:=fun x hx'=>hx x (by simp[Op.operands,Call.operands];simpa using hx')
   have hmap:args.toList.map u.ev=args.toList.map s.ev:=List.map_congr_left hargs
   cases b with
   | len =>
    simp only[opE,hop] at h ⊢
    split at h
    ·rename_i x t e1 e2
     rw[hargs x (by rw[e1];simp)];exact h
    ·cases h
   | max=>simp only[opE,hop,hmap] at h ⊢;exact h
   | min=>simp only[opE,hop,hmap] at h ⊢;exact h
   | append =>
    simp only[opE,hop] at h ⊢
    split at h
    ·rename_i d x y t t' e0 e1 e2
     rw[hargs x (by rw[e1];simp),hargs y (by rw[e1];simp)]
     simp only[Option.ite_none_right_eq_some] at h ⊢
     exact⟨h.1,appendE_congr h.2 hb⟩
    ·cases h
   | _=>simp[opE,hop] at h
  | value f=>simp[opE,hop] at h
  | invoke r m=>simp[opE,hop] at h
 | _=>simp[opE,hop] at h
end Evl
namespace Evl
open Go
variable {P:Program}{H:Hints}{fid:FuncId}{N:Nat}{w0 w w':World}{M:Nat→Prop}{V0 V V':Nat→Nat}{K K':Nat→Nat×Nat}{O O':Nat→Option Loc}{s:S}{a:Act}{fp:List Nat}{v:Value}
theorem row_step(R:RelG N w0 M V0 K V O s a w)(o:Oper){d:Nat}(hdst:o.dst=some d)(hd:d<N)(hk:d<1000)(set:List (Nat×AV))(hset:∀t z,lookup t set=some z→z=share (s.t t))(ks:List Nat)(hks:ks.all (·<1000)=true)(rd:List Nat)(n:Nat)(x:Box)(g0 cap:Nat)
  (hold:∀g,g<w.heap.size→g≠g0→w'.heap[g]?=w.heap[g]?) (hn:Next V V' w w') (ho:w'.os=w.os∧w'.tape=w.tape∧w'.output=w.output∧w.drawn≤w'.drawn) (hg0:g0<w'.heap.size)
  (hV:∀g,g≠g0→(∀r∈ks,O g=some (false,r)→g≠(K r).1)→V' g=V g) (hvr:∀g,0<V' g→g<w'.heap.size)
  {fb:List Nat} {arr:Array Value} {T:TypeId} {fz:Nat×Nat} {us:List Value} (hnd:(g0::fb).Nodup) (hg0':g0=w.heap.size∨∃r∈ks,O g0=some (false,r))
  (hfb:∀g∈fb,(∃t,O g=some (true,t)∧lookup t set≠none)∨∃r∈ks,O g=some (false,r))
  (hbox:∀K':Nat→Nat×Nat,K' d=(g0,cap+1)→BoxOk V' w' K' d x fb arr T fz us) (hnc:n≤cap) (hr:(execOp a.eval o).run P w=.ok (.value (.slice (some ⟨g0,0,none⟩) n cap)) w') :
  Step1 P N w0 M V0 K o (({ val:=.msl d n,set:=set,kl:=d::ks,put:=[(d,x)],rd:=rd }:Eff).apply o.dst s) a w:=by
 let K':Nat→Nat×Nat:=fun b=>if b=d then (g0,cap+1) else K b
 have hK:∀b,b∉d::ks→K' b=K b:=fun b hb=>by simp at hb;simp[K',hb.1]
 have hfr:∀g l,O g=some l→(∀t,l=(true,t)→some d≠some t∧lookup t set=none)→(∀b,l=(false,b)→lookup b [(d,x)]=none∧b∉d::ks)→g∉g0::fb:=by
  intro g l hl ht hb hm
  rcases List.mem_cons.1 hm with rfl | hm
  ·rcases hg0' with e | ⟨r,hr,e⟩
   ·have:=(R.rg g l hl).2;omega
   ·rw[hl] at e;cases e;exact(hb r rfl).2 (by simp[hr])
  ·rcases hfb g hm with ⟨t,e,h⟩ | ⟨r,hr,e⟩
   ·rw[hl] at e;cases e;exact h (ht t rfl).2
   ·rw[hl] at e;cases e;exact(hb r rfl).2 (by simp[hr])
 refine⟨_,w',K',V',fun g=>if g∈g0::fb then some (false,d) else if O g=some (true,d)∨O g=some (false,d) then none else O g,.inl hr,?_,fun b hb=>by simp only[K'];rw[if_neg (by omega)]⟩
 rw[hdst]
 refine R.apply _ (some d) _ (fun d' h=>by cases h;exact hd) hn hK ?_ ?_ ?_ ?_ ?_ hvr ?_ ?_
 ·intro g l hl ht hb
  have hnm:=hfr g l hl ht hb
  have hne:g≠g0:=fun e=>hnm (by simp[e])
  refine⟨hold g (R.rg g l hl).2 hne,hV g hne fun r hr e=>?_,?_⟩
  ·rw[hl] at e;cases e;exact absurd (List.mem_cons_of_mem _ hr) (hb r rfl).2
  ·rw[if_neg hnm,if_neg ?_];exact hl
   rw[hl];rintro(e | e)
   ·cases e;exact(ht d rfl).1 rfl
   ·cases e;exact(hb d rfl).2 (by simp)
 ·intro t z hne hl
  obtain rfl:=hset t z hl
  obtain⟨fq,h1,h2,h3⟩:=R.tm t
  exact⟨[],List.nodup_nil,by simp,h3.share.next hn (by simp) _ hK⟩
 ·intro d' e;cases e
  refine⟨[],List.nodup_nil,by simp,?_⟩
  have hKd:K' d=(g0,cap+1):=by simp[K']
  have:=Rep.ms (V:=V') (w:=w') (K:=K') (fp:=[]) (us:=[]) (cs:=[]) (n:=n) (cap:=cap) d (by rw[hKd]) hnc .nil
  rw[hKd] at this
  exact .u (.one this)
 ·intro b y hl
  simp only[lookup] at hl
  split at hl
  ·rename_i e;subst e;cases hl
   have hKd:K' d=(g0,cap+1):=by simp[K']
   exact .inr ⟨fb,arr,T,fz,us,by rw[hKd];exact hnd,by rw[hKd];intro g hg;exact if_pos hg,hbox K' hKd⟩
  ·cases hl
 ·intro g l hl
  split at hl
  ·rename_i hg
   rcases List.mem_cons.1 hg with rfl | hg
   ·refine⟨?_,hg0⟩
    rcases hg0' with e | ⟨r,hr,e⟩
    ·rw[e];exact .inl R.fr.sz
    ·exact(R.rg _ _ e).1
   ·rcases hfb g hg with ⟨t,e,h⟩ | ⟨r,hr,e⟩
    ·have:=R.rg _ _ e;exact⟨this.1,Nat.lt_of_lt_of_le this.2 hn.sz⟩
    ·have:=R.rg _ _ e;exact⟨this.1,Nat.lt_of_lt_of_le this.2 hn.sz⟩
  ·split at hl
   ·cases hl
   ·have:=R.rg _ _ hl;exact⟨this.1,Nat.lt_of_lt_of_le this.2 hn.sz⟩
 ·refine⟨ho.1.trans R.fr.os,ho.2.1.trans R.fr.tape,ho.2.2.1.trans R.fr.output,Nat.le_trans R.fr.sz hn.sz,fun g hg hm=>?_,Nat.le_trans R.fr.dr ho.2.2.2⟩
  rw[hold g (Nat.lt_of_lt_of_le hg R.fr.sz) ?_];exact R.fr.old g hg hm
  rintro rfl
  rcases hg0' with e | ⟨r,hr,e⟩
  ·have:=R.fr.sz;omega
  ·rcases(R.rg _ _ e).1 with h | h
   ·omega
   ·exact hm h
 ·intro g hg hm
  refine hV g ?_ fun r hr e=>?_
  ·rintro rfl
   rcases hg0' with e | ⟨r,hr,e⟩
   ·have:=R.fr.sz;omega
   ·rcases(R.rg _ _ e).1 with h | h
    ·omega
    ·exact hm h
  ·rcases(R.rg _ _ e).1 with h | h
   ·omega
   ·exact absurd h hm
theorem next_alloc(R:RelG N w0 M V0 K V O s a w)(V1:Nat→Nat)(hV:∀g,V g≤V1 g){w':World}(ob:Obj)(hw:w'.heap=w.heap.push ob):Next V V1 w w' :=
 ⟨fun g off ho=>by
   have hg:=R.vr g (by omega)
   simp only[World.cell?,hw,Array.getElem?_push];rw[if_neg (by omega)],hV,by rw[hw];simp⟩
theorem zeros_list(z:Array Value)(n:Nat):((Array.range (n*z.size)).map (z[· % z.size]!)).toList=(List.replicate n z.toList).flatten:=by
 have h0:(List.range z.size).map (fun j=>z[j]!)=z.toList:=by
  apply List.ext_getElem?
  intro j
  simp only[List.getElem?_map,Array.getElem?_toList]
  by_cases hj:j<z.size
  ·simp[hj]
  ·rw[List.getElem?_eq_none (by simpa using hj),Array.getElem?_eq_none (by omega)];rfl
 rw[Array.toList_map,Array.toList_range]
 induction n with
 | zero=>simp
 | succ n ih =>
  rw[List.replicate_succ',List.flatten_append,←ih,Nat.succ_mul,List.range_add,List.map_append]
  congr 1
  rw[List.map_map]
  simp only[List.flatten_cons,List.flatten_nil,List.append_nil]
  rw[←h0]
  apply List.map_congr_left
  intro j hj
  have:j<z.size:=by simpa using hj
  simp[Function.comp,Nat.mul_add_mod,Nat.mod_eq_of_lt this]
theorem sound_makeFunc(R:RelG N w0 M V0 K V O s a w)(o:Oper)(hd:∀d,o.dst=some d→d<N){e:Eff}(h:opE P H fid o s=some e){fn fs cs}(hop:o.op=.makeFunc fn fs cs) :
  Step1 P N w0 M V0 K o (e.apply o.dst s) a w:=by
 cases fn with
 | func f =>
  simp only[opE,hop,Option.ite_none_right_eq_some,Option.some.injEq] at h
  obtain⟨⟨rfl,hall⟩,rfl⟩:=h
  have hps:∀l:List Operand,(l.map s.ev).all isP=true→RepPs V w K (l.map a.eval) (l.map s.ev):=by
   intro l
   induction l with
   | nil=>intro _;exact .nil
   | cons x l ih =>
    intro h
    simp only[List.map_cons,List.all_cons,Bool.and_eq_true] at h
    obtain⟨fp,_,_,_,h1⟩:=R.ev x
    refine .cons ?_ (ih h.2)
    cases hx:s.ev x with
    | ptr b off=>rw[hx] at h1;rw[(inv_ptr h1).1];exact .ptr b off
    | cptr cs =>
     rw[hx] at h1
     obtain⟨ad,vs,e1,-,e2,e3,e4,e5,e6⟩:=inv_cptr h1
     rw[e1];exact .cptr ad vs e2 e3 e4 e5 e6
    | _=>rw[hx] at h;exact absurd h.1 (by simp[isP])
  refine step_pure R o hd (.func (.func f) #[] (cs.toList.map a.eval).toArray) _ [] ?_ (.u (.fnv (hps _ hall)))
  have e:(cs.toList.map a.eval).toArray=cs.map a.eval:=by apply Array.ext';simp
  simp[execOp,hop,Instr.makeFunc,e]
 | _=>simp[opE,hop] at h
theorem sound_buildSlice(R:RelG N w0 M V0 K V O s a w)(o:Oper)(hd:∀d,o.dst=some d→d<N){e:Eff}(h:opE P H fid o s=some e)(hk:e.kl.all (·<1000)=true){t n ps}(hop:o.op=.buildSlice t n ps) :
  Step1 P N w0 M V0 K o (e.apply o.dst s) a w:=by
 simp only[opE,hop] at h
 split at h
 ·rename_i d el sz by' qs hdst ht hqs
  split at h
  ·rename_i z hz
   simp only[Option.ite_none_right_eq_some] at h
   obtain⟨⟨hsz,hzl,hlim,hdup⟩,h⟩:=h
   split at h
   ·rename_i cs hcs
    split at h
    ·rename_i ys ks hf
     cases h
     simp only[List.all_cons,Bool.and_eq_true,decide_eq_true_eq] at hk
     obtain⟨i,zv,hi,hzv,rfl,hoc⟩:=tzero_of hz
     obtain⟨i',hu,hi',hs',-⟩:=tslice_of ht
     rw[hi] at hi';cases hi'
     have hzsz:zv.cells.size=sz:=by simpa using hzl
     let zs:Array Value:=(Array.range (n*sz)).map (zv.cells[· % zv.cells.size]!)
     have hzs:zs.toList=(List.replicate n zv.cells.toList).flatten:=by
      have:=zeros_list zv.cells n
      rw[hzsz] at this
      simpa [zs,hzsz] using this
     have hrep0:Rep V w K true [] zs.toList ((List.replicate n (zv.cells.toList.map ofValue)).flatten):=by
      rw[hzs]
      have:(List.replicate n (zv.cells.toList.map ofValue)).flatten=((List.replicate n zv.cells.toList).flatten).map ofValue:=by
       rw[List.map_flatten,List.map_replicate]
      rw[this]
      refine rep_of_values _ fun v hv=>?_
      obtain⟨l,hl,hv⟩:=List.mem_flatten.1 hv
      rw[(List.mem_replicate.1 hl).2] at hv;exact hoc v hv
     obtain⟨arr,fp,g1,g2,g3,g4⟩:=fill_both R (fun i=>some (i*sz,sz)) ps.toList qs _ cs zs [] [] hqs hcs (by simpa using noDup_iff hdup) hrep0 List.nodup_nil (by simp)
     have F:=frz R ks
     have hdis:∀g∈fp,∀r,O g≠some (false,r):=fun g hg r e=>by
      obtain⟨t,e',_⟩:=g4 g hg;rw[e] at e';cases e'
     obtain⟨fq,q1,q2,q3⟩:=freeze_rep R _ F.le ks F.other F.row cs ys arr.toList fp ks hf g2 (fun _ h=>h) g3 (fun g hg r _ e=>absurd e (hdis g hg r)) (fun g hg r _=>hdis g hg r)
     have hlt:∀g∈fq,g<w.heap.size:=fun g hg=>by
      rcases q3 g hg with h | ⟨r,_,e⟩
      ·obtain⟨t,e',_⟩:=g4 g h;exact(R.rg g _ e').2
      ·exact(R.rg g _ e).2
     have hlen:arr.size=n*sz:=by
      have h1:=g2.len
      have h2:∀(qs:List (Nat×List AV)) (cs cs':List AV),fillG (fun i=>some (i*sz,sz)) qs cs=some cs'→cs'.length=cs.length:=by
       intro qs;induction qs with
       | nil=>intro cs cs' h;cases h;rfl
       | cons q qs ih =>
        intro cs cs' h
        obtain⟨i,xs⟩:=q
        simp only[fillG,Option.ite_none_right_eq_some] at h
        rw[ih _ _ h.2];simp;omega
      rw[h2 _ _ _ hcs] at h1
      simp only[Array.length_toList] at h1
      rw[h1];simp[List.length_flatten,hzsz]
     have hsup:w.heap.size+0=w.heap.size:=rfl
     refine row_step (w':=w.alloc (.cells arr el)) (V':=vfz V K O s ks) (T:=el) (fz:=(0,0)) (us:=arr.toList) (fb:=fq) (arr:=arr) R o hdst (hd d hdst) hk.1 (partsGiven s ps.toList) (fun t z hl=>partsGiven_share hl) ks hk.2 ks n ⟨true,sz,ys⟩ w.heap.size n ?_ (next_alloc R _ F.le _ rfl) ⟨rfl,rfl,rfl,Nat.le_refl _⟩ (by simp) ?_ ?_ ?_ (.inl rfl) ?_ ?_ (Nat.le_refl _) ?_
     ·intro g hg _;simp only[World.alloc,Array.getElem?_push];rw[if_neg (by omega)]
     ·intro g _ h;exact F.other g h
     ·intro g hg;have:=vfz_vr R ks g hg;simp;omega
     ·exact List.nodup_cons.2 ⟨fun hm=>by have:=hlt _ hm;omega,q2⟩
     ·intro g hg
      rcases q3 g hg with h | h
      ·obtain⟨t,e',ht⟩:=g4 g h
       exact .inl ⟨t,e',lookup_mem.2 (by simpa using ht)⟩
      ·exact .inr h
     ·intro K' hK'
      have hsz0:(sz==0)=false:=by simp[hsz]
      refine⟨?_,.inl rfl,fun j v hj=>by simpa using hj,?_,?_,fun e=>absurd e hsz,fun _=>⟨n,by rw[hK'],Nat.le_of_eq hlen.symm,by simp,by simp[hlen]⟩⟩
      ·rw[hK'];show (w.heap.push _)[w.heap.size]?=_;simp
      ·show Rep _ _ _ (sz==0) _ _ _
       rw[hsz0]
       exact(q1.chK (q1.noIds rfl) K').mono (K:=K') (fun g off ho=>by
        have hg:=vfz_vr R ks g (by omega)
        simp only[World.cell?,World.alloc,Array.getElem?_push];rw[if_neg (by omega)]) (fun _=>Nat.le_refl _) (by simp) (fun g hg=>⟨by have:=hlt g hg;simp only[World.alloc,Array.getElem?_push];rw[if_neg (by omega)],rfl⟩) (fun _ _=>rfl)
      ·rw[hK',F.other w.heap.size (fun r _ e=>by have:=(R.rg _ _ e).2;omega)]
       simp only[if_true]
       exact Nat.eq_zero_of_not_pos fun hp=>by have:=R.vr _ hp;omega
     ·have hrun:(Instr.buildSlice t n (ps.map fun p=>(p.1,a.eval p.2))).run P w=.ok (.slice (some ⟨w.heap.size,0,none⟩) n n) (w.alloc (.cells arr el)):=by
       have hz0:n*sz=0→zs=#[]:=by intro e;simp[zs,e]
       have hlim':¬(n*sz>2 ^ 24):=by simp only[limCells] at hlim;omega
       simp only[Instr.buildSlice,underlying,Sem.run_bind,run_program,Result.andThen_ok,hu,Sem.run_pure,Go.sizeOf,Go.typeInfo,hi,hs',if_neg hlim']
       have g1':Instr.fill (fun i=>some (i*sz,sz)) ((Array.range (n*sz)).map (zv.cells[· % zv.cells.size]!)) (ps.map fun p=>(p.1,a.eval p.2)).toList=some arr:=by
        rw[Array.toList_map];exact g1
       by_cases h0:n*sz=0
       ·have e0:(Array.range (n*sz)).map (zv.cells[· % zv.cells.size]!)=(Array.range (n*sz)).map ((#[]:Array Value)[· % (#[]:Array Value).size]!):=by
         rw[h0];simp
        rw[e0] at g1'
        simp[h0] at g1' ⊢
        simp[g1',newRow]
       ·rw[if_neg h0]
        simp only[zeroValue,Go.typeInfo,Sem.run_bind,run_program,Result.andThen_ok,hi,hzv,Sem.run_pure,g1',newRow]
        simp
      have e0:(ps.map fun (x:Nat×Operand)=>(x.1,a.eval x.2))=ps.map fun p=>(p.1,a.eval p.2):=rfl
      simp only[execOp,hop,Sem.run_bind,hrun];rfl
    ·cases h
   ·cases h
  ·cases h
 ·cases h
end Evl
namespace Evl
open Go
variable {P:Program}{H:Hints}{fid:FuncId}{N:Nat}{w0 w w':World}{M:Nat→Prop}{V0 V V':Nat→Nat}{K K':Nat→Nat×Nat}{O O':Nat→Option Loc}{s:S}{a:Act}{fp:List Nat}{v:Value}
theorem store_row(R:RelG N w0 M V0 K V O s a w)(o:Oper)(hdst:o.dst=none){b off:Nat}{x:Box}(hb:s.b b=some x)(hst:x.st=true)(set:List (Nat×AV))(hset:∀t z,lookup t set=some z→z=share (s.t t))(ks:List Nat)(hbk:b∉ks)(F:Frz V K O s ks V')(hvr:∀g,0<V' g→g<w.heap.size)(vs:List Value)(cs:List AV)(hk:off+cs.length≤x.cs.length)(hk0:0<cs.length){fp:List Nat}(hn:fp.Nodup)
  (ho:∀g∈fp,(∃t,O g=some (true,t)∧lookup t set≠none)∨∃r∈ks,O g=some (false,r)) (h:Rep V' w K false fp vs cs) (hz:x.sz≠0) (rd:List Nat)
  (hr:∀arr T fz,w.heap[(K b).1]?=some (.cells arr T fz)→thawed arr fz→off+vs.length≤arr.size→(execOp a.eval o).run P w=.ok .skip (putRow w (K b).1 (splice arr off vs) T fz)) :
  Step1 P N w0 M V0 K o (({ val:=.bad,set:=set,kl:=ks,put:=[(b,{ x with cs:=x.cs.take off++cs++x.cs.drop (off+cs.length) })],rd:=rd }:Eff).apply o.dst s) a w:=by
 obtain⟨fb,arr,T,fz,us,h1,h2,h3⟩:=R.bxr b x hb (.inr (.inl fun e=>by rw[e] at hk;simp only[List.length_nil] at hk;omega))
 obtain⟨u1,u2,u3,f1,f2,f3,rfl,rfl,l1,l2,r1,r2,r3⟩:=h3.rep.seg off cs.length hk
 have hxz:(x.sz==0)=false:=by simp[hz]
 rw[hxz] at r1 r3
 have hn1:=List.nodup_cons.1 h1
 obtain⟨m1,m2,m3⟩:=nodup3 hn1.2
 obtain⟨rest,harr⟩:=pre_split h3.pre
 have hvl:vs.length=cs.length:=h.len
 have hsz:off+vs.length≤arr.size:=by
  have:=congrArg List.length harr
  simp at this;omega
 have hrun:=hr arr T fz h3.hp h3.th hsz
 have hV0:V (K b).1=0:=by rw[h3.vis,hst];rfl
 let w':=putRow w (K b).1 (splice arr off vs) T fz
 have hOb:O (K b).1=some (false,b):=h2 _ List.mem_cons_self
 have hVb:∀g,O g=some (false,b)→V' g=V g:=fun g hg=>F.other g fun r hr e=>by
  rw[hg] at e;cases e;exact absurd hr hbk
 have hnx:Next V V' w w':=⟨fun g off' hg=>by
   have:g≠(K b).1:=fun e=>by rw[e,hV0] at hg;omega
   simp only[World.cell?,w',putRow_other this],F.le,by simp[w',putRow_size]⟩
 have hoth:∀g,O g≠some (false,b)→w'.heap[g]?=w.heap[g]?:=fun g hg=>putRow_other (fun e=>hg (by rw[e];exact hOb)) _ _ _
 have hfO:∀g∈fp,O g≠some (false,b):=fun g hg=>by
  rcases ho g hg with ⟨t,e,_⟩ | ⟨r,hr,e⟩ <;> rw[e] <;> intro e <;> cases e
  exact hbk hr
 have hsl:=splice_toList u1 u2 (u3++rest) vs arr off l1 (by omega) (by rw[harr];simp)
 refine⟨undef,w',K,V',fun g=>if g∈fp then some (false,b) else O g,.inr ⟨hrun,rfl⟩,?_,fun _ _=>rfl⟩
 rw[hdst]
 refine R.apply _ none _ (fun d' e=>by cases e) hnx (fun _ _=>rfl) ?_ ?_ ?_ ?_ ?_ ?_ ?_ ?_
 ·intro g l hl ht hb'
  have hgb:l≠(false,b):=by
   rintro rfl
   have:=(hb' b rfl).1;simp[lookup] at this
  refine⟨hoth g (by rw[hl];intro e;cases e;exact hgb rfl),F.other g fun r hr e=>?_,?_⟩
  ·rw[hl] at e;cases e;exact absurd hr (hb' r rfl).2
  ·have hg:g∉fp:=by
    intro hg
    rcases ho g hg with ⟨t,e,h⟩ | ⟨r,hr,e⟩
    ·rw[hl] at e;cases e;exact h (ht t rfl).2
    ·rw[hl] at e;cases e;exact(hb' r rfl).2 hr
   rw[if_neg hg];exact hl
 ·intro t z hne hl
  obtain rfl:=hset t z hl
  obtain⟨fq,q1,q2,q3⟩:=R.tm t
  exact⟨[],List.nodup_nil,by simp,q3.share.next hnx (by simp) _ (fun _ _=>rfl)⟩
 ·intro d e;cases e
 ·intro b' y hl
  simp only[lookup] at hl
  split at hl
  ·rename_i e;subst e;cases hl
   refine .inr ⟨f1++(fp++f3),splice arr off vs,T,fz,u1++(vs++u3),?_,?_,?_⟩
   ·have n0:=List.nodup_append.1 m2
    refine List.nodup_cons.2 ⟨?_,List.nodup_append.2 ⟨n0.1,List.nodup_append.2 ⟨hn,n0.2.1,?_⟩,?_⟩⟩
    ·intro hm
     simp only[List.mem_append] at hm
     rcases hm with hm | hm | hm
     ·exact hn1.1 (by simp[hm])
     ·exact hfO _ hm hOb
     ·exact hn1.1 (by simp[hm])
    ·intro x hx y hy e;subst e;exact hfO x hx (h2 x (by simp[hy]))
    ·intro x hx y hy e;subst e
     rcases List.mem_append.1 hy with hy | hy
     ·exact hfO x hy (h2 x (by simp[hx]))
     ·exact n0.2.2 x hx x hy rfl
   ·intro g hg
    show (if g∈fp then some (false,b) else O g)=some (false,b)
    by_cases hgf:g∈fp
    ·simp[hgf]
    ·rw[if_neg hgf]
     rcases List.mem_cons.1 hg with rfl | hg
     ·exact hOb
     ·simp only[List.mem_append] at hg
      rcases hg with hg | hg | hg
      ·exact h2 g (by simp[hg])
      ·exact absurd hg hgf
      ·exact h2 g (by simp[hg])
   ·have hlen:(x.cs.take off++cs++x.cs.drop (off+cs.length)).length=x.cs.length:=by
     simp only[List.length_append,List.length_take,List.length_drop];omega
    have hu:∀m:Bool,∀{f u c},Rep V w K m f u c→(∀g∈f,O g=some (false,b)∧g≠(K b).1)→Rep V' w' K m f u c:=fun m f u c hr hf =>
     hr.mono hnx.cell hnx.le hnx.sz (fun g hg=>⟨putRow_other (hf g hg).2 _ _ _,hVb g (hf g hg).1⟩) (fun _ _=>rfl)
    refine⟨putRow_same h3.hp _ _ _,?_,?_,?_,?_,?_,?_⟩
    ·unfold thawed;rw[splice_size _ _ _ hsz];exact h3.th
    ·intro j v hj
     rw[←Array.getElem?_toList,hsl]
     have:u1++(vs++(u3++rest))=(u1++(vs++u3))++rest:=by simp
     rw[this,List.getElem?_append_left (by exact(List.getElem?_eq_some_iff.1 hj).1)];exact hj
    ·show Rep _ _ _ (x.sz==0) _ _ _
     rw[hxz]
     have hmid:Rep V' w' K false fp vs cs:=h.mono (fun g off' hg=>by
      have:g≠(K b).1:=fun e=>by rw[e,hVb _ hOb,hV0] at hg;omega
      simp only[World.cell?,w',putRow_other this]) (fun _=>Nat.le_refl _) hnx.sz (fun g hg=>⟨putRow_other (fun e=>hfO g hg (by rw[e];exact hOb)) _ _ _,rfl⟩) (fun _ _=>rfl)
     have:=(hu _ r1 (fun g hg=>⟨h2 g (by simp[hg]),fun e=>hn1.1 (by rw[←e];simp[hg])⟩)).app (hmid.app (hu _ r3 (fun g hg=>⟨h2 g (by simp[hg]),fun e=>hn1.1 (by rw[←e];simp[hg])⟩)))
     simpa [List.append_assoc] using this
    ·rw[hVb _ hOb,h3.vis];simp only[hst,if_true]
    ·intro hz';exact absurd hz' hz
    ·intro hz
     obtain⟨cap,hcap,this⟩:=h3.row hz
     refine⟨cap,hcap,by rw[splice_size _ _ _ hsz];exact this.1,?_,?_⟩
     ·rw[splice_size _ _ _ hsz];have:=this.2.1;simp at this ⊢;omega
     ·have h5:=this.2.2
      have e5:(u1++(vs++u3)).length=(u1++(u2++u3)).length:=by simp;omega
      rw[e5];exact h5
  ·cases hl
 ·intro g l hl
  split at hl
  ·rename_i hg
   rcases ho g hg with ⟨t,e,_⟩ | ⟨r,_,e⟩
   ·have:=R.rg g _ e;exact⟨this.1,by simp[w',putRow_size];exact this.2⟩
   ·have:=R.rg g _ e;exact⟨this.1,by simp[w',putRow_size];exact this.2⟩
  ·have:=R.rg g _ hl;exact⟨this.1,by simp[w',putRow_size];exact this.2⟩
 ·intro g hg;simp only[w',putRow_size];exact hvr g hg
 ·refine⟨R.fr.os,R.fr.tape,R.fr.output,by simp only[w',putRow_size];exact R.fr.sz,fun g hg hm=>?_,R.fr.dr⟩
  rw[hoth g ?_];exact R.fr.old g hg hm
  intro e
  rcases(R.rg _ _ e).1 with h | h
  ·omega
  ·exact hm h
 ·intro g hg hm
  refine F.other g fun r hr e=>?_
  rcases(R.rg _ _ e).1 with h | h
  ·omega
  ·exact absurd h hm
theorem sound_store(R:RelG N w0 M V0 K V O s a w)(o:Oper)(hd:∀d,o.dst=some d→d<N){e:Eff}(h:opE P H fid o s=some e){t x xo}(hop:o.op=.store t x xo) :
  Step1 P N w0 M V0 K o (e.apply o.dst s) a w:=by
 simp only[opE,hop,Option.ite_none_right_eq_some] at h
 obtain⟨hdst,h⟩:=h
 unfold storeE at h
 split at h
 ·rename_i b off k cs hx hs hc
  split at h
  ·rename_i bx hb
   split at h
   ·rename_i hh
    obtain⟨hst,hl,hoff,hk0⟩:=hh
    split at h
    ·rename_i hz
     cases h
     exact sound_store0 R o hop hdst hx hs hc hb hst hl hoff hz
    ·rename_i hz
     split at h
     ·rename_i ys ks hf
      simp only[Option.ite_none_left_eq_some,Option.some.injEq] at h
      obtain⟨hbk,rfl⟩:=h
      obtain⟨f1,_,_,_,h1⟩:=R.ev x
      rw[hx] at h1
      obtain⟨e1,-⟩:=inv_ptr h1
      obtain⟨fp,q1,q2,q3,q4⟩:=R.ev xo
      obtain⟨us,hv,hr,-⟩:=cells_rep q4 hc
      have F:=frz R ks
      have hno:∀g∈fp,∀r,O g≠some (false,r):=fun g hg r e=>by
       cases xo with
       | tmp t=>rw[q2 t rfl g hg] at e;cases e
       | _=>rw[q3 (by intro t e;cases e)] at hg;cases hg
      obtain⟨fq,g1,g2,g3⟩:=freeze_rep R _ F.le ks F.other F.row cs ys us fp ks hf hr (fun _ h=>h) q1 (fun g hg r _ e=>absurd e (hno g hg r)) (fun g hg r _=>hno g hg r)
      have hyl:ys.length=k:=by rw[←g1.len,hr.len,hl]
      subst hyl
      refine store_row (P:=P) R o hdst hb hst (given xo (s.ev xo)) (fun t z hl=>(lookup_given hl).2.1) ks hbk F (vfz_vr R ks) us ys hoff hk0 g2 ?_ g1 hz _ ?_
      ·intro g hg
       rcases g3 g hg with h | h
       ·by_cases hown:hasOwn (s.ev xo)=true
        ·cases xo with
         | tmp t=>exact .inl ⟨t,q2 t rfl g h,by simp[given,hown,lookup]⟩
         | _=>rw[q3 (by intro t e;cases e)] at h;cases h
        ·rw[ownless_v q4 (by simpa using hown)] at h;cases h
       ·exact .inr h
      ·intro arr T fz hg ht hsz
       have:=run_storeVar (P:=P) (w:=w) (t:=t) (g:=(K b).1) (o:=off) hs (a.eval xo) us hv g1.len hg ht hr.oc hsz
       simp[execOp,hop,e1,Instr.storeAt,Instr.sureAddr,this]
     ·cases h
   ·cases h
  ·cases h
 ·cases h
end Evl
namespace Evl
open Go
variable {P:Program}{H:Hints}{fid:FuncId}{N:Nat}{w0 w w':World}{M:Nat→Prop}{V0 V V':Nat→Nat}{K K':Nat→Nat×Nat}{O O':Nat→Option Loc}{s:S}{a:Act}{fp:List Nat}{v:Value}
theorem rep_share_row{b:Nat}{x:Box}{fb arr T fz us}(h3:BoxOk V w K b x fb arr T fz us)(hz:x.sz≠0):Rep V w K false [] us (shareL x.cs):=by
 have:=h3.rep
 have hxz:(x.sz==0)=false:=by simp[hz]
 rw[hxz] at this;exact this.share
theorem keep_step(R:RelG N w0 M V0 K V O s a w)(o:Oper)(hd:∀d,o.dst=some d→d<N){b:Nat}{x x':Box}(hb:s.b b=some x)(hcs:x'.cs=x.cs)(hsz:x'.sz=x.sz)(hz:x.sz≠0)(hre:(K b).2≠0)(y:AV)(v:Value)(hst:V (K b).1≤(if x'.st then 0 else x'.cs.length))
  (hw:∀g,g≠(K b).1→w'.heap[g]?=w.heap[g]?) (hs:w'.heap.size=w.heap.size) (ho:w'.os=w.os∧w'.tape=w.tape∧w'.output=w.output∧w.drawn≤w'.drawn) (hbk:∀arr T fz,w.heap[(K b).1]?=some (.cells arr T fz)→thawed arr fz→∃fz',w'.heap[(K b).1]?=some (.cells arr T fz')∧thawed arr fz')
  (hr:(execOp a.eval o).run P w=.ok (.value v) w') (hval:RepV (fun g=>if g=(K b).1 then (if x'.st then 0 else x'.cs.length) else V g) w' K [] v y) :
  Step1 P N w0 M V0 K o (({ val:=y,put:=[(b,x')],rd:=[b] }:Eff).apply o.dst s) a w:=by
 obtain⟨fb,arr,T,fz,us,h1,h2,h3⟩:=R.bxr b x hb (.inr (.inr hre))
 have hn1:=List.nodup_cons.1 h1
 obtain⟨fz',hb1,hb2⟩:=hbk arr T fz h3.hp h3.th
 have hcell:∀g off,w'.cell? ⟨g,off,none⟩=w.cell? ⟨g,off,none⟩:=fun g off=>by
  by_cases e:g=(K b).1
  ·subst e;rw[cell_of_heap hb1,cell_of_heap h3.hp]
  ·simp only[World.cell?,hw g e]
 have hOb:O (K b).1=some (false,b):=h2 _ List.mem_cons_self
 have hle:∀g,V g≤(if g=(K b).1 then (if x'.st then 0 else x'.cs.length) else V g):=fun g=>by
  by_cases e:g=(K b).1
  ·rw[if_pos e,e];exact hst
  ·rw[if_neg e];exact Nat.le_refl _
 have hnx:Next V (fun g=>if g=(K b).1 then (if x'.st then 0 else x'.cs.length) else V g) w w':=⟨fun g off _=>hcell g off,hle,Nat.le_of_eq hs.symm⟩
 refine⟨v,w',K,_,O,.inl hr,R.apply _ _ v hd hnx (fun _ _=>rfl) ?_ ?_ ?_ ?_ ?_ ?_ ?_ ?_,fun _ _=>rfl⟩
 ·intro g l hl ht hb'
  have hne:g≠(K b).1:=fun e=>by
   rw[e,hOb] at hl;cases hl
   have:=(hb' b rfl).1;simp[lookup] at this
  exact⟨hw g hne,by simp[hne],hl⟩
 ·intro t z _ hl;simp[lookup] at hl
 ·intro d hdd;exact⟨[],List.nodup_nil,by simp,hval⟩
 ·intro b' z hl
  simp only[lookup] at hl
  split at hl
  ·rename_i e;subst e;cases hl
   refine .inr ⟨fb,arr,T,fz',us,h1,h2,⟨hb1,hb2,h3.pre,?_,by simp,fun e=>absurd (hsz ▸ e) hz,fun _=>by rw[hsz];exact h3.row hz⟩⟩
   show Rep _ _ _ (x'.sz==0) _ _ x'.cs
   rw[hsz]
   have hrep:=h3.rep
   rw[←hcs] at hrep
   refine hrep.mono (fun g off _=>hcell g off) hle (Nat.le_of_eq hs.symm) (fun g hg=>?_) (fun _ _=>rfl)
   have hne:g≠(K b).1:=fun e=>hn1.1 (by rw[←e];exact hg)
   exact⟨hw g hne,by simp[hne]⟩
  ·cases hl
 ·intro g l hl;have:=R.rg g l hl;exact⟨this.1,by rw[hs];exact this.2⟩
 ·intro g hg
  rw[hs]
  by_cases e:g=(K b).1
  ·rw[e];exact lt_of_heap h3.hp
  ·rw[if_neg e] at hg;exact R.vr g hg
 ·refine⟨ho.1.trans R.fr.os,ho.2.1.trans R.fr.tape,ho.2.2.1.trans R.fr.output,by rw[hs];exact R.fr.sz,fun g hg hm=>?_,Nat.le_trans R.fr.dr ho.2.2.2⟩
  rw[hw g ?_];exact R.fr.old g hg hm
  rintro rfl
  rcases(R.rg _ _ hOb).1 with h | h
  ·omega
  ·exact hm h
 ·intro g hg hm
  rw[if_neg ?_]
  rintro rfl
  rcases(R.rg _ _ hOb).1 with h | h
  ·omega
  ·exact hm h
theorem keep_virt(R:RelG N w0 M V0 K V O s a w)(o:Oper)(hd:∀d,o.dst=some d→d<N){b:Nat}{x':Box}(hsz:x'.sz≠0)(hcs:x'.cs=[])(h0:(K b).2=0)(y:AV)(v:Value)
  (hr:(execOp a.eval o).run P w=.ok (.value v) w) (hval:RepV V w K [] v y) :
  Step1 P N w0 M V0 K o (({ val:=y,put:=[(b,x')],rd:=[b] }:Eff).apply o.dst s) a w:=by
 refine⟨v,w,K,V,O,.inl hr,R.apply _ _ v hd (Next.refl V w) (fun _ _=>rfl) ?_ ?_ ?_ ?_ R.rg R.vr R.fr (fun _ _ _=>rfl),fun _ _=>rfl⟩
 ·intro g l hl _ _;exact⟨rfl,rfl,hl⟩
 ·intro t z _ hl;simp[lookup] at hl
 ·intro d hdd;exact⟨[],List.nodup_nil,by simp,hval⟩
 ·intro b' z hl
  simp only[lookup] at hl
  split at hl
  ·rename_i e;subst e;cases hl
   exact .inl ⟨hsz,hcs,h0⟩
  ·cases hl
theorem virt_row(R:RelG N w0 M V0 K V O s a w)(o:Oper){d:Nat}(hdst:o.dst=some d)(hd:d<N)(hk:d<1000)(ks:List Nat)(hks:ks.all (·<1000)=true)(rd:List Nat){x:Box}(hsz:x.sz≠0)(hcs:x.cs=[])
  (hr:(execOp a.eval o).run P w=.ok (.value (.slice none 0 0)) w) :
  Step1 P N w0 M V0 K o (({ val:=.msl d 0,kl:=d::ks,put:=[(d,x)],rd:=rd }:Eff).apply o.dst s) a w:=by
 let K':Nat→Nat×Nat:=fun b=>if b=d then (0,0) else K b
 have hKd:(K' d).2=0:=by simp[K']
 have hK:∀b,b∉d::ks→K' b=K b:=fun b hb=>by simp at hb;simp[K',hb.1]
 refine⟨_,w,K',V,O,.inl hr,?_,fun b hb=>by simp only[K'];rw[if_neg (by omega)]⟩
 rw[hdst]
 refine R.apply _ (some d) _ (fun d' h=>by cases h;exact hd) (Next.refl V w) hK ?_ ?_ ?_ ?_ R.rg R.vr R.fr (fun _ _ _=>rfl)
 ·intro g l hl _ _;exact⟨rfl,rfl,hl⟩
 ·intro t z _ hl;simp[lookup] at hl
 ·intro d' e;cases e;exact⟨[],List.nodup_nil,by simp,.u (.one (.mv d hKd .nil))⟩
 ·intro b y hl
  simp only[lookup] at hl
  split at hl
  ·rename_i e;subst e;cases hl;exact .inl ⟨hsz,hcs,hKd⟩
  ·cases hl
theorem run_cut_none{t e z by':Nat}(ht:tslice P t=some (e,z,by'))(lo hi:Option Value)
  (hlo:(lo=none∧(0:Int)=0)∨∃k,lo=some (.int k 0)) (hhi:(hi=none∧(0:Int)=((0:Nat):Int))∨∃k,hi=some (.int k 0)) (w:World) :
  (Instr.sliceAt t (.slice none 0 0) lo hi none).run P w=.ok (.slice none 0 0) w:=by
 obtain⟨i,hu,hi',hs,-⟩:=tslice_of ht
 have hb:(Instr.sliceBounds true 0 0 lo hi none).run P w=.ok (0,0,0) w:=by
  rcases hlo with ⟨rfl,-⟩ | ⟨k,rfl⟩ <;> rcases hhi with ⟨rfl,-⟩ | ⟨k',rfl⟩ <;>
   simp[Instr.sliceBounds,Instr.sliceBound,asIntOf]
 simp only[Instr.sliceAt,underlying,Sem.run_bind,run_program,Result.andThen_ok,hu,Sem.run_pure,Instr.slice,hb,Go.sizeOf,Go.typeInfo,hi',hs]
 simp
theorem sound_slice(R:RelG N w0 M V0 K V O s a w)(o:Oper)(hd:∀d,o.dst=some d→d<N){e:Eff}(h:opE P H fid o s=some e){t x lo hi mx}(hop:o.op=.slice t x lo hi mx) :
  Step1 P N w0 M V0 K o (e.apply o.dst s) a w:=by
 simp only[opE,hop,Option.ite_none_left_eq_some] at h
 obtain⟨hmx,h⟩:=h
 obtain rfl:mx=none:=by cases mx with | none=>rfl | some m=>simp at hmx
 obtain⟨fp,_,_,_,h1⟩:=R.ev x
 cases hx:s.ev x with
 | lit v =>
  rw[hx] at h h1
  obtain⟨e1,-,-⟩:=inv_lit h1
  cases v with
  | string v =>
   simp only[sliceE] at h
   split at h
   ·rename_i l u hl hu
    simp only[Option.ite_none_right_eq_some,Option.some.injEq] at h
    obtain⟨⟨g1,g2,g3,g4⟩,rfl⟩:=h
    refine step_pure R o hd _ _ [] ?_ (.lit rfl)
    have:=run_cut_str (P:=P) g1 v _ _ l u g2 g3 g4 (bnd_run R hl) (bnd_run R hu) w
    simp only[execOp,hop,e1,Sem.run_bind,Option.map_none,this];rfl
   ·cases h
  | _=>simp[sliceE] at h
 | sl ow z n cs =>
  rw[hx] at h h1
  simp only[sliceE] at h
  split at h
  ·rename_i l u e' z' by' hl hu ht
   simp only[Option.ite_none_right_eq_some,Option.some.injEq] at h
   obtain⟨⟨rfl,g1,g2,g3,g4⟩,rfl⟩:=h
   obtain⟨ev,rfl,rfl⟩ | ⟨ad,cap,ev,rfl,rfl⟩ | ⟨ab,ao,cap,vs,ev,hn,i2,i3,i4,i5⟩:=inv_sl h1
   rotate_left
   ·have e1:l=0:=by omega
    have e2:u=0:=by omega
    subst e1;subst e2
    have:=run_cut_empty (P:=P) ht ad cap _ _ (bnd_run R hl) (bnd_run R hu) w
    refine step_pure R o hd _ _ [] (by simp only[execOp,hop,ev,Sem.run_bind,Option.map_none,this];rfl) ?_
    have e3:(if ow=true then shareL [] else ([]:List AV))=[]:=by cases ow <;> rfl
    simp only[e3,List.drop_nil,List.take_nil]
    exact .u (.one (.sh ad [] (Nat.zero_le _) (.inl ⟨rfl,rfl⟩) (by simp) .nil .nil))
   rotate_left
   ·have e1:l=0:=by omega
    have e2:u=0:=by omega
    subst e1;subst e2
    have:=run_cut_none (P:=P) ht _ _ (bnd_run R hl) (bnd_run R hu) w
    refine step_pure R o hd _ _ [] (by simp only[execOp,hop,ev,Sem.run_bind,Option.map_none,this];rfl) ?_
    have e3:(if ow=true then shareL [] else ([]:List AV))=[]:=by cases ow <;> rfl
    simp only[e3,List.drop_nil,List.take_nil]
    exact .u (.one (.ns .nil))
   have:=run_cut_sl (P:=P) ht ab ao n cap hn _ _ l u g2 g3 g4 (bnd_run R hl) (bnd_run R hu) w
   refine step_pure R o hd _ _ [] (by simp only[execOp,hop,ev,Sem.run_bind,Option.map_none,this];rfl) ?_
   have:=sub_sl (V:=V) (K:=K) (w:=w) hn (l:=l.toNat) (u:=u.toNat) (by omega) (by omega) (by rw[show (if ow=true then shareL cs else cs).length=cs.length by cases ow <;> simp[shareL_length]];exact g1) i2 i3 i4 i5
   exact this
  ·cases h
 | msl b n =>
  rw[hx] at h h1
  obtain⟨-,hinv⟩:=inv_msl h1
  simp only[sliceE] at h
  split at h
  ·rename_i r hb
   split at h
   ·rename_i l u e' z' by' hl hu ht
    simp only[Option.ite_none_right_eq_some,Option.some.injEq] at h
    obtain⟨⟨rfl,g1,g0,g2,g3,g4⟩,rfl⟩:=h
    obtain⟨ev,rfl,hv0⟩ | ⟨cap,ev,hre,hn⟩:=hinv
    ·have e1:l=0:=by omega
     have e2:u=0:=by omega
     subst e1;subst e2
     have hcs:r.cs=[]:=List.eq_nil_of_length_eq_zero (by simpa using g1)
     have:=run_cut_none (P:=P) ht _ _ (bnd_run R hl) (bnd_run R hu) w
     refine keep_virt (P:=P) R o hd (x':={ r with st:=false }) g0 hcs hv0 _ _ (by simp only[execOp,hop,ev,Sem.run_bind,Option.map_none,this];rfl) ?_
     simp only[hcs,shareL,List.drop_nil,List.take_nil]
     exact .u (.one (.ns .nil))
    obtain⟨fb,arr,T,fz,us,q1,q2,q3⟩:=R.bxr b r hb (.inr (.inr (by omega)))
    have:=run_cut_sl (P:=P) ht (K b).1 0 n cap hn _ _ l u g2 g3 g4 (bnd_run R hl) (bnd_run R hu) w
    have hle:V (K b).1≤r.cs.length:=by rw[q3.vis];split <;> omega
    have hrep:=rep_share_row q3 g0
    refine keep_step (P:=P) (w':=w) R o hd hb (x':={ r with st:=false }) rfl rfl g0 (by omega) _ _ (by simpa using hle) (fun _ _=>rfl) rfl ⟨rfl,rfl,rfl,Nat.le_refl _⟩ (fun arr T fz h1 h2=>⟨fz,h1,h2⟩) (by simp only[execOp,hop,ev,Sem.run_bind,Option.map_none,this];rfl) ?_
    have hle2:∀g,V g≤(if g=(K b).1 then (if ({ r with st:=false }:Box).st=true then 0 else ({ r with st:=false }:Box).cs.length) else V g):=fun g=>by
     by_cases e:g=(K b).1
     ·rw[if_pos e,e];simpa using hle
     ·rw[if_neg e];exact Nat.le_refl _
    exact sub_sl (K:=K) (w:=w) hn (l:=l.toNat) (u:=u.toNat) (by omega) (by omega) (by rw[shareL_length];exact g1) (fun j v hj=>by rw[Nat.zero_add];exact q3.cell hj) (by simp[hrep.len,shareL_length]) (lt_of_heap q3.hp) (hrep.vmono hle2 (by simp))
   ·cases h
  ·cases h
 | _=>rw[hx] at h;cases h
theorem tu8s_of{t:TypeId}(h:tu8s P t=true):∃e,P.underlying t=some (.slice e)∧P.underlying e=some (.int .u8):=by
 unfold tu8s at h
 split at h
 ·rename_i e _ ht
  obtain⟨i,hu,-⟩:=tslice_of ht
  exact⟨e,hu,tint_of (of_decide_eq_true h)⟩
 ·cases h
theorem strE_of{cs:List AV}{n:Nat}{t:ByteArray}(h:strE cs n=some t):∃xs,bytesOf cs=some xs∧xs.length=n∧t=strOfNums xs:=by
 unfold strE at h
 split at h
 ·rename_i xs hx
  simp only[Option.ite_none_right_eq_some,Option.some.injEq] at h
  exact⟨xs,hx,h.1,h.2.symm⟩
 ·cases h
theorem rep_bytes{m:Bool}:∀{cs:List AV} {xs:List Int} {fp:List Nat} {vs:List Value},Rep V w K m fp vs cs→bytesOf cs=some xs→vs=xs.map (Value.int .u8):=by
 intro cs
 induction cs with
 | nil =>
  intro xs fp vs hr hb
  simp only[bytesOf,Option.some.injEq] at hb
  subst hb
  cases hr;rfl
 | cons c cs ih =>
  intro xs fp vs hr hb
  unfold bytesOf at hb
  split at hb
  ·cases ‹_::_=[]›
  ·rename_i x r he
   cases he
   obtain⟨ys,hy,rfl⟩:=Option.map_eq_some_iff.1 hb
   cases hr with
   | lit hp h=>rw[ih h hy];rfl
  ·cases hb
theorem run_convert_bytes_zero'(w:World)(src e:TypeId)(hs:P.underlying src=some (.slice e))(he:P.underlying e=some (.int .u8))(p:Option Addr)(c:Nat) :
  ∀dst,P.underlying dst=some .string→(convert src dst (.slice p 0 c)).run P w=.ok (.string (strOfNums [])) w:=by
 intro dst hd
 rw[run_convert_bytes_string w src dst e _ 0 c hs he hd]
 cases p with
 | none=>simp[Conv.bytesToString,strOfNums,ByteArray.empty,ByteArray.emptyWithCapacity];rfl
 | some a =>
  have:(convert src dst (.slice (some a) 0 c)).run P w=_:=run_convert_bytes_back (P:=P) w src dst e a c [] hs he hd (by simp)
  rw[run_convert_bytes_string w src dst e _ 0 c hs he hd] at this
  exact this
theorem sound_convert(R:RelG N w0 M V0 K V O s a w)(o:Oper)(hd:∀d,o.dst=some d→d<N){e:Eff}(h:opE P H fid o s=some e){t t' x}(hop:o.op=.convert t t' x) :
  Step1 P N w0 M V0 K o (e.apply o.dst s) a w:=by
 simp only[opE,hop] at h
 obtain⟨f1,_,_,_,h1⟩:=R.ev x
 split at h
 ·rename_i k n hx
  rw[hx] at h1
  obtain⟨e1,-,-⟩:=inv_lit h1
  split at h
  ·rename_i k' hk'
   simp only[Option.ite_none_right_eq_some,Option.some.injEq] at h
   obtain⟨hu,rfl⟩:=h
   obtain⟨ds,hds⟩:=tund_of hu
   refine step_pure R o hd _ _ [] ?_ (.lit rfl)
   have:=tint_of hk'
   simp only[execOp,hop,e1,convert,underlying,Sem.run_bind,run_program,Result.andThen_ok,hds,this,Sem.run_pure]
   simp[Conv.intToInt]
  ·cases h
 ·rename_i n cs hx
  rw[hx] at h1
  simp only[Option.ite_none_right_eq_some,Option.map_eq_some_iff] at h
  obtain⟨⟨hu,hs⟩,t2,ht2,rfl⟩:=h
  obtain⟨e',q1,q2⟩:=tu8s_of hu
  obtain⟨xs,b1,b2,rfl⟩:=strE_of ht2
  refine step_pure R o hd _ _ [] ?_ (.lit rfl)
  obtain⟨ev,rfl,rfl⟩ | ⟨ad,cap,ev,rfl,rfl⟩ | ⟨ab,ao,cap,vs,ev,hn,i2,i3,i4,i5⟩:=inv_sl h1
  ·have:xs=[]:=List.eq_nil_of_length_eq_zero b2
   subst this
   simp only[execOp,hop,ev,Sem.run_bind,run_convert_bytes_zero' w t e' q1 q2 none 0 t' (tstr_of hs)];rfl
  ·have:xs=[]:=List.eq_nil_of_length_eq_zero b2
   subst this
   obtain⟨ab,ao,sp⟩:=ad
   simp only[execOp,hop,ev,Sem.run_bind,run_convert_bytes_zero' w t e' q1 q2 (some ⟨ab,ao,sp⟩) cap t' (tstr_of hs)];rfl
  ·simp only[Bool.false_eq_true,if_false] at i5
   have hv:=rep_bytes i5 b1
   have:=run_convert_bytes_arg (w:=w) t e' q1 q2 ab ao n cap xs b2 (fun i hi=>i2 i _ (by rw[hv,List.getElem?_map,List.getElem?_eq_getElem (by omega)];simp[List.getD,List.getElem?_eq_getElem (show i<xs.length by omega)])) t' (tstr_of hs)
   simp only[execOp,hop,ev,Sem.run_bind,this];rfl
 ·rename_i b n hx
  rw[hx] at h1
  obtain⟨-,hinv⟩:=inv_msl h1
  split at h
  ·rename_i hs
   split at h
   ·rename_i r hb
    simp only[Option.ite_none_right_eq_some,Option.map_eq_some_iff] at h
    obtain⟨⟨hu,hz⟩,t2,ht2,rfl⟩:=h
    obtain⟨e',q1,q2⟩:=tu8s_of hu
    obtain⟨xs,b1,b2,rfl⟩:=strE_of ht2
    refine step_pure R o hd _ _ [b] ?_ (.lit rfl)
    obtain⟨ev,rfl,hv0⟩ | ⟨cap,ev,hre,hn⟩:=hinv
    ·have:xs=[]:=List.eq_nil_of_length_eq_zero b2
     subst this
     simp only[execOp,hop,ev,Sem.run_bind,run_convert_bytes_zero' w t e' q1 q2 none 0 t' (tstr_of hs)];rfl
    ·obtain⟨fb,arr,T,fz,us,g1,g2,g3⟩:=R.bxr b r hb (.inr (.inr (by omega)))
     have hv:=rep_bytes g3.rep b1
     have:=run_convert_bytes_arg (w:=w) t e' q1 q2 (K b).1 0 n cap xs b2 (fun i hi=>by
      rw[Nat.zero_add]
      exact g3.cell (by rw[hv,List.getElem?_map,List.getElem?_eq_getElem (by omega)];simp[List.getD,List.getElem?_eq_getElem (show i<xs.length by omega)])) t' (tstr_of hs)
     simp only[execOp,hop,ev,Sem.run_bind,this];rfl
   ·cases h
  rename_i hs0
  split at h
  ·rename_i r e' by' hb ht
   simp only[Option.ite_none_right_eq_some,Option.some.injEq] at h
   obtain⟨⟨rfl,he,hz,hne⟩,rfl⟩:=h
   have hne':r.cs≠[]:=by intro e;rw[e] at hne;cases hne
   obtain⟨cap,ev,hre,hn⟩:∃cap,a.eval x=.slice (some ⟨(K b).1,0,none⟩) n cap∧(K b).2=cap+1∧n≤cap:=by
    obtain⟨ev,rfl,hv0⟩ | h:=hinv
    ·rcases R.bx b r hb with ⟨_,h2,_⟩ | ⟨fb,arr,T,fz,us,q1,q2,q3⟩
     ·exact absurd h2 hne'
     ·obtain⟨cap,hc,_⟩:=q3.row (by omega);omega
    ·exact h
   obtain⟨i,hu,hi',hs,-⟩:=tslice_of ht
   have hu8:=tint_of he
   obtain⟨fb,arr,T,fz,us,q1,q2,q3⟩:=R.bxr b r hb (.inr (.inr (by omega)))
   have hst:(if r.st then 0 else r.cs.length)=V (K b).1:=q3.vis.symm
   let fz':Nat×Nat:=if fz.1==fz.2 then (arr.size,arr.size+1) else (min fz.1 arr.size,max fz.2 (arr.size+1))
   have hfz:thawed arr fz':=by
    rcases q3.th with h | h
    ·have:(fz.1==fz.2)=true:=by simpa using h
     simp only[fz',this,if_true];exact .inr (Nat.le_refl _)
    ·simp only[fz'];split
     ·exact .inr (Nat.le_refl _)
     ·exact .inr (by simp only;omega)
   let w':World:={ w with heap:=w.heap.setIfInBounds (K b).1 (.cells arr T fz') }
   have hg:=lt_of_heap q3.hp
   have hw:w.freeze ⟨(K b).1,arr.size,none⟩ 1=w':=by
    unfold World.freeze
    rw[if_neg (by decide)]
    simp only[w']
    congr 1
    apply Array.ext_getElem?
    intro j
    rw[Array.getElem?_modify,Array.getElem?_setIfInBounds]
    by_cases e:(K b).1=j
    ·subst e
     rw[if_pos rfl,if_pos rfl,if_pos hg,q3.hp]
     rfl
    ·rw[if_neg e,if_neg e]
   have hrun:(convert t t (.slice (some ⟨(K b).1,0,none⟩) n cap)).run P w=.ok (.slice (some ⟨(K b).1,0,none⟩) n cap) w':=by
    have hsh:w.shape? (K b).1=some (T,arr.size):=by unfold World.shape?;rw[q3.hp]
    simp[convert,run_underlying hu,run_underlying hu8,markStringish,hsh,hw]
   have hrz:r.sz≠0:=by omega
   refine keep_step (P:=P) (w':=w') R o hd hb (x':=r) rfl rfl hrz (by omega) _ _ (Nat.le_of_eq q3.vis) ?_ (by simp[w']) ⟨rfl,rfl,rfl,Nat.le_refl _⟩ ?_ (by simp only[execOp,hop,ev,Sem.run_bind,hrun];rfl) ?_
   ·intro g hne;simp only[w'];rw[Array.getElem?_setIfInBounds,if_neg (fun e=>hne e.symm)]
   ·intro arr' T' fz'' h1 h2
    rw[q3.hp] at h1;cases h1
    exact⟨fz',by simp only[w'];rw[Array.getElem?_setIfInBounds,if_pos rfl,if_pos hg],hfz⟩
   ·exact .u (.one (.ms b hre hn .nil))
  ·cases h
 ·cases h
theorem sound_makeSlice(R:RelG N w0 M V0 K V O s a w)(o:Oper)(hd:∀d,o.dst=some d→d<N){e:Eff}(h:opE P H fid o s=some e)(hk:e.kl.all (·<1000)=true){t x y}(hop:o.op=.makeSlice t x y) :
  Step1 P N w0 M V0 K o (e.apply o.dst s) a w:=by
 simp only[opE,hop] at h
 split at h
 ·rename_i d el sz by' k c hdst ht hx hy
  split at h
  ·rename_i z hz
   simp only[Option.ite_none_right_eq_some,Option.some.injEq] at h
   obtain⟨⟨hsz,hzl,rfl,h0,h63,hlim⟩,rfl⟩:=h
   simp only[List.all_cons,Bool.and_eq_true,decide_eq_true_eq] at hk
   obtain⟨f1,_,_,_,h1⟩:=R.ev x
   obtain⟨f2,_,_,_,h2⟩:=R.ev y
   rw[hx] at h1;rw[hy] at h2
   obtain⟨ex,-,-⟩:=inv_lit h1
   obtain⟨ey,-,-⟩:=inv_lit h2
   obtain⟨i,zv,hi,hzv,rfl,hoc⟩:=tzero_of hz
   obtain⟨i',hu,hi',hs',hb'⟩:=tslice_of ht
   rw[hi] at hi';cases hi'
   have hzsz:zv.cells.size=sz:=by simpa using hzl
   let n:=c.toNat
   let zs:Array Value:=(Array.range (n*sz)).map (zv.cells[· % zv.cells.size]!)
   have hzs:zs.toList=(List.replicate n zv.cells.toList).flatten:=by
    have:=zeros_list zv.cells n
    rw[hzsz] at this
    simpa [zs,hzsz] using this
   have hrep0:Rep V w K false [] zs.toList ((List.replicate n (zv.cells.toList.map ofValue)).flatten):=by
    rw[hzs]
    have:(List.replicate n (zv.cells.toList.map ofValue)).flatten=((List.replicate n zv.cells.toList).flatten).map ofValue:=by
     rw[List.map_flatten,List.map_replicate]
    rw[this]
    refine rep_of_values _ fun v hv=>?_
    obtain⟨l,hl,hv⟩:=List.mem_flatten.1 hv
    rw[(List.mem_replicate.1 hl).2] at hv;exact hoc v hv
   have hlen:zs.size=n*sz:=by simp[zs]
   have hrun:(Instr.makeSlice t (.int .i64 c) (.int .i64 c)).run P w=.ok (.slice (some ⟨w.heap.size,0,none⟩) n n) (w.alloc (.cells zs el)):=by
    have hwr:IntKind.i64.wrap c=c:=by rw[IntKind.wrap_i64];omega
    have hc:((c.toNat:Nat):Int)=c:=Int.toNat_of_nonneg h0
    have hbig:¬((i.bytes:Int)*c>281474976710656):=by
     have h':c.toNat*i.bytes≤140737488355328:=by rw[hb'];exact hlim
     have e:(i.bytes:Int)*c=((c.toNat*i.bytes:Nat):Int):=by rw[Int.natCast_mul,hc,Int.mul_comm]
     omega
    have hneg:¬(c<0):=by omega
    have h48:(2:Int) ^ 48=281474976710656:=by decide
    by_cases hn0:c.toNat*sz=0
    ·have e0:(Array.range (n*sz)).map (zv.cells[· % zv.cells.size]!)=#[]:=by
      have:n*sz=0:=hn0
      rw[this];simp
     have ez:zs=#[]:=e0
     simp[Instr.makeSlice,underlying,hu,asInt,asIntOf,Go.typeInfo,hi,hwr,h48,hbig,hneg,Go.sizeOf,hs',hn0,newRow,ez,n]
     congr 2
     simp
    ·simp[Instr.makeSlice,underlying,hu,asInt,asIntOf,Go.typeInfo,hi,hwr,h48,hbig,hneg,Go.sizeOf,hs',hn0,zeroValue,hzv,newRow,n,zs]
   refine row_step (w':=w.alloc (.cells zs el)) (V':=V) (T:=el) (fz:=(0,0)) (us:=zs.toList) (fb:=[]) (arr:=zs) R o hdst (hd d hdst) hk.1 [] (by simp[lookup]) [] rfl [] n ⟨true,sz,_⟩ w.heap.size n ?_ (next_alloc R V (fun _=>Nat.le_refl _) _ rfl) ⟨rfl,rfl,rfl,Nat.le_refl _⟩ (by simp) (fun _ _ _=>rfl) ?_ (by simp) (.inl rfl) (by simp) ?_ (Nat.le_refl _) ?_
   ·intro g hg _;simp only[World.alloc,Array.getElem?_push];rw[if_neg (by omega)]
   ·intro g hg;have:=R.vr g hg;simp;omega
   ·intro K' hK'
    have hsz0:(sz==0)=false:=by simp[hsz]
    refine⟨?_,.inl rfl,fun j v hj=>by simpa using hj,?_,?_,fun e=>absurd e hsz,fun _=>⟨n,by rw[hK'],Nat.le_of_eq hlen.symm,by simp,by simp[hlen]⟩⟩
    ·rw[hK'];show (w.heap.push _)[w.heap.size]?=_;simp
    ·show Rep _ _ _ (sz==0) _ _ _
     rw[hsz0]
     exact(hrep0.chK (hrep0.noIds rfl) K').mono (K:=K') (fun g off ho=>by
      have hg:=R.vr g (by omega)
      simp only[World.cell?,World.alloc,Array.getElem?_push];rw[if_neg (by omega)]) (fun _=>Nat.le_refl _) (by simp) (by simp) (fun _ _=>rfl)
    ·rw[hK']
     simp only[if_true]
     exact Nat.eq_zero_of_not_pos fun hp=>by have:=R.vr _ hp;omega
   ·simp only[execOp,hop,ex,ey,Sem.run_bind,hrun];rfl
  ·cases h
 ·cases h
end Evl
