
/- Texts that belong together,joined. No condition. -/
import Derived.Test.YtgaenniknmphcaaGreatJb
import Derived.Laws.Cover3
import Derived.KernelRfl
namespace Evl
open Go
variable {P:Program}{H:Hints}{fid:FuncId}{N:Nat}{w0 w w':World}{M:Nat→Prop}{V0 V V':Nat→Nat}{K K':Nat→Nat×Nat}{O O':Nat→Option Loc}{s:S}{a:Act}{fp:List Nat}{v:Value}
theorem appArg_ok(R:RelG N w0 M V0 K V O s a w){kb:Bool}{sz:Nat}{y:Operand}{ys:List AV}{ks rs:List Nat}(hsz:sz≠0)(h:appArg kb s sz (s.ev y)=some (ys,ks,rs)) :
  ∃(base:Option Addr) (m c:Nat) (news:List Value) (fq:List Nat),a.eval y=.slice base m c∧ys.length=m*sz∧(base=none→m=0)∧(∀ad,base=some ad→∀(j:Nat) (v:Value),news[j]?=some v→w.cell? (ad.add j)=some v) ∧
   Rep V w K false fq news ys∧fq.Nodup∧(∀g∈fq,∃r∈ks,O g=some (false,r)∧g≠(K r).1):=by
 obtain⟨fp,_,_,_,h1⟩:=R.ev y
 cases hy:s.ev y with
 | nil =>
  rw[hy] at h h1
  cases h
  exact⟨none,0,0,[],[],(inv_nil h1).1,by simp,fun _=>rfl,by simp,.nil,List.nodup_nil,by simp⟩
 | sl ow z n cs =>
  rw[hy] at h h1
  simp only[appArg,Option.ite_none_right_eq_some,Option.some.injEq,Prod.mk.injEq] at h
  obtain⟨⟨rfl,hl⟩,rfl,rfl,rfl⟩:=h
  obtain⟨ev,rfl,rfl⟩ | ⟨ad,cap,ev,rfl,rfl⟩ | ⟨ab,ao,cap,vs,ev,hn,i2,i3,i4,i5⟩:=inv_sl h1
  rotate_left
  ·have e3:(if ow=true then shareL [] else ([]:List AV))=[]:=by cases ow <;> rfl
   rw[e3]
   exact⟨some ad,0,cap,[],[],ev,by simp,by simp,by simp,.nil,List.nodup_nil,by simp⟩
  rotate_left
  ·have e3:(if ow=true then shareL [] else ([]:List AV))=[]:=by cases ow <;> rfl
   rw[e3]
   exact⟨none,0,0,[],[],ev,by simp,fun _=>rfl,by simp,.nil,List.nodup_nil,by simp⟩
  refine⟨some ⟨ab,ao,none⟩,n,cap,vs,[],ev,?_,by simp,fun ad e j v hj=>?_,i5,List.nodup_nil,by simp⟩
  ·cases ow <;> simp[shareL_length,hl]
  ·cases e;rw[Addr.add_lit];exact i2 j v hj
 | msl b n =>
  rw[hy] at h h1
  obtain⟨-,hinv⟩:=inv_msl h1
  simp only[appArg] at h
  split at h
  ·rename_i r hb
   simp only[Option.ite_none_right_eq_some] at h
   obtain⟨⟨hz,hl⟩,h⟩:=h
   obtain⟨ev,rfl,hv0⟩ | ⟨cap,ev,hre,hn⟩:=hinv
   ·have hcs:r.cs=[]:=List.eq_nil_of_length_eq_zero (by simpa using hl)
    have hys:ys=[]:=by
     split at h <;> cases h <;> exact hcs
    rw[hys]
    exact⟨none,0,0,[],[],ev,by simp,fun _=>rfl,by simp,.nil,List.nodup_nil,by simp⟩
   obtain⟨fb,arr,T,fz,us,q1,q2,q3⟩:=R.bxr b r hb (.inr (.inr (by omega)))
   have hxz:(r.sz==0)=false:=by simp[hz,hsz]
   have hrep:=q3.rep
   rw[hxz] at hrep
   have hc:∀ad,some (⟨(K b).1,0,none⟩:Addr)=some ad→∀(j:Nat) (v:Value),us[j]?=some v→w.cell? (ad.add j)=some v:=fun ad e j v hj=>by
    cases e;rw[Addr.add_lit,Nat.zero_add];exact q3.cell hj
   split at h
   ·simp only[Option.some.injEq,Prod.mk.injEq] at h
    obtain⟨rfl,rfl,rfl⟩:=h
    exact⟨_,n,_,us,fb,ev,hl,by simp,hc,hrep,(List.nodup_cons.1 q1).2,fun g hg=>⟨b,by simp,q2 g (by simp[hg]),fun e=>(List.nodup_cons.1 q1).1 (by rw[←e];exact hg)⟩⟩
   ·rename_i ho
    simp only[Option.some.injEq,Prod.mk.injEq] at h
    obtain⟨rfl,rfl,rfl⟩:=h
    obtain rfl:=ownless_rep hrep (by
     cases hh:hasOwnL r.cs with
     | false=>rfl
     | true=>rw[hh,Bool.or_true] at ho;exact absurd rfl ho)
    exact⟨_,n,_,us,[],ev,hl,by simp,hc,hrep,List.nodup_nil,by simp⟩
  ·cases h
 | _=>rw[hy] at h;cases h
theorem exec_append{o:Oper}{x y:Operand}{args:Array Operand}{ts:Array TypeId}{t:TypeId}(hop:o.op=.call { callee:=.builtin .append,args:=args,argTypes:=ts })(hargs:args.toList=[x,y])(hts:ts.toList=[t,t]){v:Value}(h:(Builtin.append_ #[t,t] o.type #[a.eval x,a.eval y]).run P w=.ok v w') :
  (execOp a.eval o).run P w=.ok (.value v) w':=by
 have e1:args=#[x,y]:=by apply Array.ext';simpa using hargs
 have e2:ts=#[t,t]:=by apply Array.ext';simpa using hts
 subst e1;subst e2
 simp[execOp,hop,resolve,invoke,builtin,h]
theorem grown_row(R:RelG N w0 M V0 K V O s a w)(o:Oper){d:Nat}(hdst:o.dst=some d)(hd:d<N)(hk:d<1000)(ks:List Nat)(hks:ks.all (·<1000)=true)(rd:List Nat)(el:TypeId)(st:Bool)(sz n cap:Nat)(hsz:sz≠0)(us:List Value)(cs:List AV)(arr:Array Value)(fb:List Nat)
  (hr:Rep V w K false fb us cs) (hnd:fb.Nodup) (hfb:∀g∈fb,∃r∈ks,O g=some (false,r)) (hl:us.length=n*sz) (hc:n≤cap) (ha:arr.size=cap*sz) (hpre:∀(j:Nat) (v:Value),us[j]?=some v→arr[j]?=some v)
  (hrun:(execOp a.eval o).run P w=.ok (.value (.slice (some ⟨w.heap.size,0,none⟩) n cap)) (w.drew.alloc (.cells arr el))) :
  Step1 P N w0 M V0 K o (({ val:=.msl d n,kl:=d::ks,put:=[(d,⟨st,sz,cs⟩)],rd:=rd }:Eff).apply o.dst s) a w:=by
 have hdr:w.drew.heap=w.heap:=rfl
 have hVn:V w.heap.size=0:=Nat.eq_zero_of_not_pos fun hp=>by have:=R.vr _ hp;omega
 let V1:Nat→Nat:=fun g=>if g=w.heap.size then (if st then 0 else cs.length) else V g
 have hle:∀g,V g≤V1 g:=fun g=>by
  by_cases e:g=w.heap.size
  ·rw[e,hVn];exact Nat.zero_le _
  ·simp only[V1,if_neg e];exact Nat.le_refl _
 have hlt:∀g∈fb,g<w.heap.size:=fun g hg=>by
  obtain⟨r,_,e⟩:=hfb g hg;exact(R.rg g _ e).2
 refine row_step (w':=w.drew.alloc (.cells arr el)) (V':=V1) (T:=el) (fz:=(0,0)) (us:=us) (fb:=fb) (arr:=arr) R o hdst hd hk [] (by simp[lookup]) ks hks rd n ⟨st,sz,cs⟩ w.heap.size cap ?_ (next_alloc R V1 hle _ rfl) ⟨rfl,rfl,rfl,Nat.le_succ _⟩ (by simp[hdr]) ?_ ?_ ?_ (.inl rfl) (fun g hg=>.inr (hfb g hg)) ?_ hc hrun
 ·intro g hg _;simp only[World.alloc,hdr,Array.getElem?_push];rw[if_neg (by omega)]
 ·intro g hg _;simp only[V1,if_neg hg]
 ·intro g hg
  by_cases e:g=w.heap.size
  ·simp[e,hdr]
  ·simp only[V1,if_neg e] at hg;have:=R.vr g hg;simp[hdr];omega
 ·exact List.nodup_cons.2 ⟨fun hm=>by have:=hlt _ hm;omega,hnd⟩
 ·intro K' hK'
  have hsz0:(sz==0)=false:=by simp[hsz]
  refine⟨?_,.inl rfl,hpre,?_,?_,fun e=>absurd e hsz,fun _=>⟨cap,by rw[hK'],Nat.le_of_eq ha.symm,?_,by rw[hl];exact Nat.mul_mod_left _ _⟩⟩
  ·rw[hK'];show (w.heap.push _)[w.heap.size]?=_;simp
  ·show Rep _ _ _ (sz==0) _ _ _
   rw[hsz0]
   refine(hr.chK (hr.noIds rfl) K').mono (K:=K') (fun g off ho=>by
    have hg:=R.vr g (by omega)
    simp only[World.cell?,World.alloc,hdr,Array.getElem?_push];rw[if_neg (by omega)]) hle (by simp[hdr]) (fun g hg=>⟨by have:=hlt g hg;simp only[World.alloc,hdr,Array.getElem?_push];rw[if_neg (by omega)],?_⟩) (fun _ _=>rfl)
   have:=hlt g hg
   simp only[V1];rw[if_neg (by omega)]
  ·rw[hK'];simp[V1]
  ·show us.length≤arr.size
   rw[hl,ha];exact Nat.mul_le_mul_right _ hc
theorem append_to_nil(R:RelG N w0 M V0 K V O s a w)(o:Oper){d:Nat}{x y:Operand}{args:Array Operand}{ts:Array TypeId}{t el:TypeId}(hop:o.op=.call { callee:=.builtin .append,args:=args,argTypes:=ts })(hargs:args.toList=[x,y])(hts:ts.toList=[t,t])(hdst:o.dst=some d)(hd:d<N)(hk:d<1000)
  {base:Option Addr} {m c sz bytes:Nat} {news:List Value} {ys:List AV} {fq:List Nat} (ex:a.eval x=.slice none 0 0) (ey:a.eval y=.slice base m c) (hyl:ys.length=m*sz) (hb0:base=none→m=0) (hcell:∀ad,base=some ad→∀(j:Nat) (v:Value),news[j]?=some v→w.cell? (ad.add j)=some v) (hrep:Rep V w K false fq news ys) (hnd:fq.Nodup)
  (ks:List Nat) (hks:ks.all (·<1000)=true) (hfq:∀g∈fq,∃r∈ks,O g=some (false,r)) (rd:List Nat) (st:Bool) (hsz:sz≠0) {i:TypeInfo} {zv:Value} (hu:P.underlying t=some (.slice el)) (hi:P.info? el=some i) (hzv:i.zero=some zv) (hs':i.size=sz) (hb':i.bytes=bytes) (hzsz:zv.cells.size=sz) (hys:ys≠[]) (hl1:ys.length*bytes≤limBytes*sz) (hl2:ys.length≤9223372036854775807*sz) :
  Step1 P N w0 M V0 K o (({ val:=.msl d (ys.length / sz),kl:=d::ks,put:=[(d,⟨st,sz,ys⟩)],rd:=rd }:Eff).apply o.dst s) a w:=by
 have hspos:0<sz:=Nat.pos_of_ne_zero hsz
 have hnl:news.length=m*sz:=hrep.len.trans hyl
 have hm:0<m:=by
  rcases Nat.eq_zero_or_pos m with e | e
  ·rw[e] at hyl;simp at hyl;exact absurd hyl hys
  ·exact e
 have hms:ys.length / sz=m:=by rw[hyl];exact Nat.mul_div_cancel _ hspos
 obtain⟨ad,rfl⟩:∃ad,base=some ad:=by
  cases base with
  | none=>exact absurd (hb0 rfl) (by omega)
  | some ad=>exact⟨ad,rfl⟩
 have hbnd:m*bytes≤limBytes:=by
  rw[hyl] at hl1
  have:m*bytes*sz≤limBytes*sz:=by rw[Nat.mul_right_comm];exact hl1
  exact Nat.le_of_mul_le_mul_right this hspos
 have h63:m≤9223372036854775807:=by
  rw[hyl] at hl2;exact Nat.le_of_mul_le_mul_right hl2 hspos
 have hrun:=run_append_nil (P:=P) w t o.type el i zv hu hi hzv ad m c news (by rw[hs'];exact hnl) (hcell ad rfl) hm (by omega) (by rw[hb'];simp only[limBytes] at hbnd;omega)
 have hge:=grownCap_ge w m 0 el
 rw[hms]
 refine grown_row (P:=P) R o hdst hd hk ks hks rd el st sz m (grownCap w m 0 el) hsz news ys _ fq hrep hnd hfq hnl hge ?_ ?_ (exec_append hop hargs hts (by rw[ex,ey];exact hrun))
 ·rw[Array.size_append,size_zeroCells,hzsz];simp only[List.size_toArray,hnl];rw[←Nat.add_mul];congr 1;omega
 ·intro j v hj
  rw[Array.getElem?_append_left (by have:=(List.getElem?_eq_some_iff.1 hj).1;simpa using this)];simpa using hj
theorem run_append_none{t el ty:TypeId}{i:TypeInfo}{base:Option Addr}{c:Nat}(hu:P.underlying t=some (.slice el))(hi:P.info? el=some i)(w:World):(Builtin.append_ #[t,t] ty #[.slice none 0 0,.slice base 0 c]).run P w=.ok (.slice none 0 0) w:=by
 have hfc:(Builtin.firstCells i.size 0 (.slice base 0 c)).run P w=.ok #[] w:=by
  cases base with
  | none=>exact run_firstCells_none w _ _ _ _
  | some ad=>exact run_firstCells_some w _ 0 ad 0 c [] (by simp) (by simp)
 simp[Builtin.append_,run_underlying hu,Go.sizeOf,Go.typeInfo,hi,Builtin.lenOf,hfc]
theorem sound_append(R:RelG N w0 M V0 K V O s a w)(o:Oper)(hd:∀d,o.dst=some d→d<N){e:Eff}(h:opE P H fid o s=some e)(hk:e.kl.all (·<1000)=true){args ts}(hop:o.op=.call { callee:=.builtin .append,args:=args,argTypes:=ts }) :
  Step1 P N w0 M V0 K o (e.apply o.dst s) a w:=by
 simp only[opE,hop] at h
 split at h
 ·rename_i d x y t u hdst hargs hts
  simp only[Option.ite_none_right_eq_some] at h
  obtain⟨rfl,h⟩:=h
  unfold appendE at h
  split at h
  ·rename_i el sz bytes ht
   simp only[Option.ite_none_left_eq_some,not_or,Decidable.not_not] at h
   obtain⟨⟨hsz,hzl⟩,h⟩:=h
   obtain⟨z,hz,hzl⟩:=Option.map_eq_some_iff.1 hzl
   obtain⟨i,zv,hi,hzv,rfl,hoc⟩:=tzero_of hz
   obtain⟨i',hu,hi',hs',hb'⟩:=tslice_of ht
   rw[hi] at hi';cases hi'
   have hzsz:zv.cells.size=sz:=by simpa using hzl
   split at h
   ·rename_i ys ks rs hy
    simp only[Option.ite_none_left_eq_some] at h
    obtain⟨hdk,h⟩:=h
    obtain⟨base,m,c,news,fq,ey,hyl,hb0,hcell,hrep,hnd,hfq⟩:=appArg_ok R hsz hy
    have hnl:news.length=m*sz:=hrep.len.trans hyl
    have hspos:0<sz:=Nat.pos_of_ne_zero hsz
    obtain⟨fx,_,_,_,h1⟩:=R.ev x
    split at h
    ·rename_i hx
     rw[hx] at h1
     obtain⟨ex,-⟩:=inv_nil h1
     simp only[Option.ite_none_right_eq_some] at h
     obtain⟨⟨hl1,hl2⟩,h⟩:=h
     split at h
     ·rename_i hys
      cases h
      have hm:m=0:=by
       rw[hys] at hyl
       rcases Nat.eq_zero_or_pos m with e | e
       ·exact e
       ·have:=Nat.mul_pos e hspos
        simp only[List.length_nil] at hyl;omega
      subst hm
      refine step_pure R o hd (.slice none 0 0) _ rs (exec_append hop hargs hts ?_) (.u (.one (.nl .nil)))
      rw[ex,ey]
      exact run_append_none hu hi w
     ·rename_i hys
      cases h
      simp only[List.all_cons,Bool.and_eq_true,decide_eq_true_eq] at hk
      have:=append_to_nil (P:=P) R o hop hargs hts hdst (hd d hdst) hk.1 ex ey hyl hb0 hcell hrep hnd ks hk.2 (fun g hg=>by obtain⟨r,h1,h2,_⟩:=hfq g hg;exact⟨r,h1,h2⟩) rs true hsz hu hi hzv hs' hb' hzsz hys hl1 hl2
      exact this
    ·rename_i b n hx
     rw[hx] at h1
     obtain⟨-,hinv⟩:=inv_msl h1
     split at h
     ·rename_i r hb
      simp only[Option.ite_none_right_eq_some,Option.some.injEq] at h
      obtain⟨⟨hrz,hrl,hbk,hl1,hl2⟩,rfl⟩:=h
      simp only[List.all_cons,Bool.and_eq_true,decide_eq_true_eq] at hk
      obtain⟨ex,rfl,hv0⟩ | ⟨cap,ex,hre,hn⟩:=hinv
      ·have hcs:r.cs=[]:=List.eq_nil_of_length_eq_zero (by simpa using hrl)
       simp only[hcs,List.length_nil,Nat.zero_add,List.nil_append] at hl1 hl2 ⊢
       have hbks:(b::ks).all (·<1000)=true:=by simp only[List.all_cons,Bool.and_eq_true,decide_eq_true_eq];exact hk.2
       by_cases hys:ys=[]
       ·have hm:m=0:=by
         rw[hys] at hyl
         rcases Nat.eq_zero_or_pos m with e | e
         ·exact e
         ·have:=Nat.mul_pos e hspos
          simp only[List.length_nil] at hyl;omega
        subst hm
        have e0:ys.length / sz=0:=by rw[hys];simp
        rw[e0]
        exact virt_row (P:=P) R o hdst (hd d hdst) hk.1 (b::ks) hbks (b::rs) (x:=⟨r.st,sz,ys⟩) hsz hys (exec_append hop hargs hts (by rw[ex,ey];exact run_append_none hu hi w))
       ·exact append_to_nil (P:=P) R o hop hargs hts hdst (hd d hdst) hk.1 ex ey hyl hb0 hcell hrep hnd (b::ks) hbks (fun g hg=>by obtain⟨r,h1,h2,_⟩:=hfq g hg;exact⟨r,by simp[h1],h2⟩) (b::rs) r.st hsz hu hi hzv hs' hb' hzsz hys hl1 hl2
      obtain⟨fb,arr,T,fz,us,q1,q2,q3⟩:=R.bxr b r hb (.inr (.inr (by omega)))
      have hn1:=List.nodup_cons.1 q1
      have hxz:(r.sz==0)=false:=by simp[hrz,hsz]
      have hrb:=q3.rep
      rw[hxz] at hrb
      have hul:us.length=n*sz:=hrb.len.trans hrl
      have hms:ys.length / sz=m:=by rw[hyl];exact Nat.mul_div_cancel _ hspos
      obtain⟨cap',hce,hrow⟩:=q3.row (by omega)
      obtain rfl:cap'=cap:=by omega
      rw[hrz] at hrow
      have hdis:∀g∈fb,g∉fq:=fun g hg hm=>by
       obtain⟨r',hr',e,_⟩:=hfq g hm
       rw[q2 g (by simp[hg])] at e;cases e;exact hbk hr'
      have hnd2:(fb++fq).Nodup:=List.nodup_append.2 ⟨hn1.2,hnd,fun x hx y hy e=>hdis x hx (by rw[e];exact hy)⟩
      have hown:∀g∈fb++fq,∃r∈b::ks,O g=some (false,r):=fun g hg=>by
       rcases List.mem_append.1 hg with hg | hg
       ·exact⟨b,by simp,q2 g (by simp[hg])⟩
       ·obtain⟨r,h1,h2,_⟩:=hfq g hg;exact⟨r,by simp[h1],h2⟩
      have hbnd:(n+m)*bytes≤limBytes:=by
       rw[hyl,hrl] at hl1
       have:(n+m)*bytes*sz≤limBytes*sz:=by rw[Nat.mul_right_comm,Nat.add_mul];exact hl1
       exact Nat.le_of_mul_le_mul_right this hspos
      have h63:n+m≤9223372036854775807:=by
       rw[hyl,hrl,←Nat.add_mul] at hl2;exact Nat.le_of_mul_le_mul_right hl2 hspos
      have hcu:∀(j:Nat) (v:Value),us[j]?=some v→w.cell? ((⟨(K b).1,0,none⟩:Addr).add j)=some v:=fun j v hj=>by
       rw[Addr.add_lit,Nat.zero_add];exact q3.cell hj
      rw[hms]
      by_cases hroom:n+m≤cap'
      ·have hsz2:n*sz+news.length≤arr.size:=Nat.le_trans (by rw[hnl,←Nat.add_mul];exact Nat.mul_le_mul_right _ hroom) hrow.1
       have hVle:V (K b).1≤(if r.st then 0 else (r.cs++ys).length):=by
        rw[q3.vis];split
        ·exact Nat.le_refl _
        ·simp
       let V1:Nat→Nat:=fun g=>if g=(K b).1 then (if r.st then 0 else (r.cs++ys).length) else V g
       have hle:∀g,V g≤V1 g:=fun g=>by
        by_cases e:g=(K b).1
        ·simp only[V1,if_pos e];rw[e];exact hVle
        ·simp only[V1,if_neg e];exact Nat.le_refl _
       let w':=putRow w (K b).1 (splice arr (n*sz) news) T fz
       have hOb:O (K b).1=some (false,b):=q2 _ List.mem_cons_self
       have hspl:∀(j:Nat),j<n*sz→(splice arr (n*sz) news)[j]?=arr[j]?:=fun j hj=>by
        rw[←Array.getElem?_toList,←Array.getElem?_toList]
        simp only[splice]
        rw[List.getElem?_append_left (by simp only[List.length_append,List.length_take,Array.length_toList];omega),List.getElem?_append_left (by simp only[List.length_take,Array.length_toList];omega),List.getElem?_take,if_pos hj]
       have hnx:Next V V1 w w':=⟨fun g off ho=>by
         by_cases e:g=(K b).1
         ·subst e
          rw[cell_of_heap (putRow_same q3.hp _ _ _),cell_of_heap q3.hp]
          refine hspl off ?_
          rw[q3.vis] at ho
          split at ho
          ·omega
          ·rw[hrl] at ho;exact ho
         ·simp only[World.cell?,w',putRow_other e],hle,by simp[w',putRow_size]⟩
       have hrun:(Builtin.append_ #[t,t] o.type #[.slice (some ⟨(K b).1,0,none⟩) n cap',.slice base m c]).run P w=.ok (.slice (some ⟨(K b).1,0,none⟩) (n+m) cap') w':=by
        have hfc:(Builtin.firstCells i.size m (.slice base m c)).run P w=.ok news.toArray w:=by
         cases base with
         | none =>
          have:m=0:=hb0 rfl
          have e:news=[]:=List.eq_nil_of_length_eq_zero (by rw[hnl,this];simp)
          rw[e];exact run_firstCells_none w _ _ _ _
         | some ad=>exact run_firstCells_some w _ m ad m c news (by rw[hs'];exact hnl) (hcell ad rfl)
        have hst:=run_storeCells (P:=P) news (n*sz) 0 arr w q3.hp q3.th hrep.oc (by simpa using hsz2)
        simp only[Nat.add_zero] at hst
        have hst':(storeCells ⟨(K b).1,n*sz,none⟩ news).run P w=.ok () w':=hst
        rw[←hs'] at hst'
        simp[Builtin.append_,run_underlying hu,Go.sizeOf,Go.typeInfo,hi,Builtin.lenOf,hroom,hfc,Addr.add_lit,hst']
       refine row_step (w':=w') (V':=V1) (T:=T) (fz:=fz) (us:=us++news) (fb:=fb++fq) (arr:=splice arr (n*sz) news) R o hdst (hd d hdst) hk.1 [] (by simp[lookup]) (b::ks) (by simp only[List.all_cons,Bool.and_eq_true,decide_eq_true_eq];exact hk.2) (b::rs) (n+m) ⟨r.st,sz,r.cs++ys⟩ (K b).1 cap' ?_ hnx ⟨rfl,rfl,rfl,Nat.le_refl _⟩ (by simp only[w',putRow_size];exact lt_of_heap q3.hp) ?_ ?_ ?_ (.inr ⟨b,by simp,hOb⟩) (fun g hg=>.inr (hown g hg)) ?_ hroom (exec_append hop hargs hts (by rw[ex,ey];exact hrun))
       ·intro g _ hne;exact putRow_other hne _ _ _
       ·intro g hne _;simp only[V1,if_neg hne]
       ·intro g hg
        simp only[w',putRow_size]
        by_cases e:g=(K b).1
        ·rw[e];exact lt_of_heap q3.hp
        ·simp only[V1,if_neg e] at hg;exact R.vr g hg
       ·refine List.nodup_cons.2 ⟨fun hm=>?_,hnd2⟩
        rcases List.mem_append.1 hm with hm | hm
        ·exact hn1.1 hm
        ·obtain⟨r',hr',e,_⟩:=hfq _ hm
         rw[hOb] at e;cases e;exact hbk hr'
       ·intro K' hK'
        have hne:∀g∈fb++fq,g≠(K b).1:=fun g hg e=>by
         rcases List.mem_append.1 hg with hg | hg
         ·exact hn1.1 (by rw[←e];exact hg)
         ·obtain⟨r',hr',e',_⟩:=hfq _ hg
          rw[e,hOb] at e';cases e';exact hbk hr'
        have hsz0:(sz==0)=false:=by simp[hsz]
        have hboth:=hrb.app hrep
        refine⟨by rw[hK'];exact putRow_same q3.hp _ _ _,?_,?_,?_,?_,fun e=>absurd e hsz,fun _=>⟨cap',by rw[hK'],?_,?_,?_⟩⟩
        ·unfold thawed;rw[splice_size _ _ _ hsz2];exact q3.th
        ·intro j v hj
         by_cases hjl:j<n*sz
         ·rw[hspl j hjl]
          rw[List.getElem?_append_left (by rw[hul];exact hjl)] at hj
          exact q3.pre j v hj
         ·rw[List.getElem?_append_right (by rw[hul];omega),hul] at hj
          have hjn:=(List.getElem?_eq_some_iff.1 hj).1
          rw[←Array.getElem?_toList]
          simp only[splice]
          rw[List.getElem?_append_left (by simp only[List.length_append,List.length_take,Array.length_toList];omega),List.getElem?_append_right (by simp only[List.length_take,Array.length_toList];omega)]
          rw[List.length_take,Array.length_toList,Nat.min_eq_left (by omega)];exact hj
        ·show Rep _ _ _ (sz==0) _ _ _
         rw[hsz0]
         refine(hboth.chK (hboth.noIds rfl) K').mono (K:=K') hnx.cell hnx.le hnx.sz (fun g hg=>⟨putRow_other (hne g hg) _ _ _,?_⟩) (fun _ _=>rfl)
         simp only[V1,if_neg (hne g hg)]
        ·rw[hK'];simp only[V1,if_true]
        ·rw[splice_size _ _ _ hsz2];exact hrow.1
        ·show (us++news).length≤_
         rw[splice_size _ _ _ hsz2,List.length_append,hul];exact hsz2
        ·show (us++news).length % sz=0
         rw[List.length_append,hul,hnl,←Nat.add_mul];exact Nat.mul_mod_left _ _
      ·have hm:0<m:=by omega
       obtain⟨ad,rfl⟩:∃ad,base=some ad:=by
        cases base with
        | none=>exact absurd (hb0 rfl) (by omega)
        | some ad=>exact⟨ad,rfl⟩
       have hrun:=run_append_grow (P:=P) w t o.type el i zv hu hi hzv ⟨(K b).1,0,none⟩ n cap' us (by rw[hs'];exact hul) hcu ad m c news (by rw[hs'];exact hnl) (hcell ad rfl) (by omega) (by omega) (growslice_fits (by omega) (by rw[hb'];exact hbnd))
       have hge:=grownCap_ge w (n+m) cap' el
       refine grown_row (P:=P) R o hdst (hd d hdst) hk.1 (b::ks) (by simp only[List.all_cons,Bool.and_eq_true,decide_eq_true_eq];exact hk.2) (b::rs) el r.st sz (n+m) (grownCap w (n+m) cap' el) hsz (us++news) (r.cs++ys) _ (fb++fq) (hrb.app hrep) hnd2 hown (by rw[List.length_append,hul,hnl,Nat.add_mul]) hge ?_ ?_ (exec_append hop hargs hts (by rw[ex,ey];exact hrun))
       ·rw[Array.size_append,Array.size_append,size_zeroCells,hzsz];simp only[List.size_toArray,hnl,hul];rw[←Nat.add_mul,←Nat.add_mul];congr 1;omega
       ·intro j v hj
        have hlt:=(List.getElem?_eq_some_iff.1 hj).1
        rw[Array.getElem?_append_left (by simpa using hlt)]
        rw[List.append_toArray];simpa using hj
     ·cases h
    ·cases h
   ·cases h
  ·cases h
 ·cases h
end Evl
namespace Evl
open Go
variable {P:Program}{H:Hints}{fid:FuncId}{N:Nat}{w0 w w':World}{M:Nat→Prop}{V0 V V':Nat→Nat}{K K':Nat→Nat×Nat}{O O':Nat→Option Loc}{s u:S}{a:Act}{fp:List Nat}{v:Value}
theorem op_sound(hE:EqtOk P H)(R:RelG N w0 M V0 K V O s a w)(o:Oper)(hd:∀d,o.dst=some d→d<N){e:Eff}(h:opE P H fid o s=some e)(hk:e.kl.all (·<1000)=true) :
  Step1 P N w0 M V0 K o (e.apply o.dst s) a w:=by
 cases hop:o.op with
 | move x =>
  simp only[opE,hop] at h
  split at h
  ·cases h
  ·cases h;exact sound_move R o hd x (.inl hop)
 | assign x =>
  simp only[opE,hop] at h
  split at h
  ·cases h
  ·cases h;exact sound_move R o hd x (.inr hop)
 | pick c x y=>exact sound_pick R o hd h hop
 | alloc t=>exact sound_alloc R o hd h hk hop
 | box t x=>exact sound_box R o hd h hk hop
 | build t ps=>exact sound_build R o hd h hop
 | buildSlice t n ps=>exact sound_buildSlice R o hd h hk hop
 | load t x=>exact sound_load R o hd h hop
 | store t x y=>exact sound_store R o hd h hop
 | nilCheck x=>exact sound_nilCheck R o hd h hop
 | binOp op t x y t'=>exact sound_binOp hE R o hd h hop
 | unOp op t x=>exact sound_unOp R o hd h hop
 | convert t t' x=>exact sound_convert R o hd h hop
 | fieldAddr t x f=>exact sound_fieldAddr R o hd h hop
 | indexAddr t x i=>exact sound_indexAddr R o hd h hop
 | index t x i=>exact sound_index R o hd h hop
 | field ty x f=>exact sound_field R o hd h hk hop
 | extract x i=>exact sound_extract R o hd h hk hop
 | makeSlice t n c=>exact sound_makeSlice R o hd h hk hop
 | slice t x lo hi mx=>exact sound_slice R o hd h hop
 | makeFunc fn fs cs=>exact sound_makeFunc R o hd h hop
 | call c =>
  obtain⟨cal,args,ts⟩:=c
  cases cal with
  | builtin b =>
   cases b with
   | len=>exact sound_len R o hd h hop
   | max=>exact sound_max R o hd h hop
   | min=>exact sound_min R o hd h hop
   | append=>exact sound_append R o hd h hk hop
   | _=>simp[opE,hop] at h
  | value f=>simp[opE,hop] at h
  | invoke r m=>simp[opE,hop] at h
 | _=>simp[opE,hop] at h
theorem mem_looks{ops:Array Oper}{o:Oper}{t:Nat}(h:Operand.tmp t∈o.op.operands):t∈o.looksAt ops:=by
 unfold Oper.looksAt
 refine List.mem_append.2 (.inl ?_)
 rw[List.mem_filterMap]
 exact⟨.tmp t,by simpa using h,rfl⟩
theorem ev_looks{ops:Array Oper}{o:Oper}(h:∀t∈o.looksAt ops,u.t t=s.t t):∀x∈o.op.operands,u.ev x=s.ev x:=by
 intro x hx
 cases x with
 | tmp t=>exact h t (mem_looks hx)
 | _=>rfl
theorem gd_looks{ops:Array Oper}{o:Oper}(h:∀t∈o.looksAt ops,u.t t=s.t t):gd ops o u=gd ops o s:=by
 unfold gd
 cases hg:o.guard with
 | none=>rfl
 | some q =>
  obtain⟨j,want⟩:=q
  simp only
  cases hd:(ops[j]?).bind (·.dst) with
  | none=>rfl
  | some d =>
   have:u.t d=s.t d:=h d (by
    unfold Oper.looksAt
    refine List.mem_append.2 (.inr ?_)
    simp[hg,hd])
   simp only[this]
theorem RepV.undef{V:Nat→Nat}{w:World}{K:Nat→Nat×Nat}:RepV V w K [] Go.undef (.tup []):=RepV.tup (us:=[]) .nil
theorem gd_wanted{ops:Array Oper}{o:Oper}{b:Bool}(R:RelG N w0 M V0 K V O s a w)(h:gd ops o s=some b):Region.wanted o (yielded ops a.tmps)=b:=by
 unfold gd at h
 unfold Region.wanted
 split at h
 ·rename_i hg;rw[hg];simpa using h
 ·rename_i j want hg
  rw[hg]
  split at h
  ·rename_i d hd
   split at h
   ·rename_i c hc
    obtain⟨fp,_,_,h3⟩:=R.tm d
    rw[hc] at h3
    obtain⟨e,-,-⟩:=inv_lit h3
    have hy:yielded ops a.tmps j=some c:=by
     unfold yielded
     rw[hd]
     simp only[Option.bind_some]
     rw[Array.getD_eq_getD_getElem?] at e
     cases ht:a.tmps[d]? with
     | none=>rw[ht] at e;simp[undef] at e
     | some z=>rw[ht] at e;simp only[Option.getD_some] at e;rw[e]
    simp only[hy]
    simpa using h
   ·rename_i hc
    obtain⟨fp,_,_,h3⟩:=R.tm d
    rw[hc] at h3
    obtain⟨us,e,hus⟩:=inv_tup h3
    cases hus
    have hy:yielded ops a.tmps j=none:=by
     unfold yielded
     rw[hd]
     simp only[Option.bind_some]
     rw[Array.getD_eq_getD_getElem?] at e
     cases ht:a.tmps[d]? with
     | none=>rfl
     | some z=>rw[ht] at e;simp only[Option.getD_some] at e;rw[e]
    simp only[hy]
    cases h
    simp
   ·cases h
  ·cases h
theorem entry_skip{G:GP}{ops:Array Oper}{i:Nat}{o:Oper}(ho:ops[i]?=some o)(hg:gd ops o s=some false):EntryOk P G ops (mkLog ops i o s skipE) s:=by
 intro N w0 M V0 V K O u a w _ R hag hd Q C hC
 have hgu:gd ops o u=some false:=(gd_looks hag.1).trans hg
 have hw:=gd_wanted R hgu
 show wpOp P ops Q i C a w
 unfold wpOp
 rw[ho]
 simp only[hw]
 obtain⟨O',h⟩:=R.pure o.dst undef (.tup []) [] hd RepV.undef
 exact hC _ _ _ _ _ h fun _ _=>rfl
theorem entry_step{G:GP}(hE:EqtOk P H){ops:Array Oper}{i:Nat}{o:Oper}{e:Eff}(ho:ops[i]?=some o)(hg:gd ops o s=some true)(he:opE P H fid o s=some e)(hk:e.kl.all (·<1000)=true):EntryOk P G ops (mkLog ops i o s e) s:=by
 intro N w0 M V0 V K O u a w _ R hag hd Q C hC
 have hgu:gd ops o u=some true:=(gd_looks hag.1).trans hg
 have hw:=gd_wanted R hgu
 have heu:=opE_congr (u:=u) he (ev_looks hag.1) hag.2
 obtain⟨v,w1,K',V',O',hrun,R',hK⟩:=op_sound hE R o hd heu hk
 show wpOp P ops Q i C a w
 unfold wpOp
 rw[ho]
 simp only[hw,if_true]
 refine .inl ?_
 unfold Oper.wp
 rcases hrun with hrun | ⟨hrun,rfl⟩
 ·rw[hrun];exact hC _ _ _ _ _ R' hK
 ·rw[hrun];exact hC _ _ _ _ _ R' hK
end Evl
namespace Evl
open Go
variable {P:Program}{H:Hints}{fid:FuncId}{N:Nat}{w0 w w':World}{M:Nat→Prop}{V0 V V' V1 Vc:Nat→Nat}{K K' K2 Kc:Nat→Nat×Nat}{O O' O1 Oc:Nat→Option Loc}{s u:S}{a:Act}{fp:List Nat}{v:Value}
def idxIn:List (List Nat)→Nat→Option Nat
 | [],_=>none
 | fq::rest,g=>if g∈fq then some 0 else (idxIn rest g).map (·+1)
theorem idxIn_some:∀{fps:List (List Nat)} {g i:Nat},idxIn fps g=some i→∃fq,fps[i]?=some fq∧g∈fq:=by
 intro fps
 induction fps with
 | nil=>intro g i h;cases h
 | cons fq fps ih =>
  intro g i h
  simp only[idxIn] at h
  split at h
  ·rename_i hg;cases h;exact⟨fq,rfl,hg⟩
  ·obtain⟨j,hj,rfl⟩:=Option.map_eq_some_iff.1 h
   obtain⟨q,h1,h2⟩:=ih hj
   exact⟨q,by simpa using h1,h2⟩
theorem idxIn_of:∀{fps:List (List Nat)} {g i:Nat} {fq:List Nat},fps.flatten.Nodup→fps[i]?=some fq→g∈fq→idxIn fps g=some i:=by
 intro fps
 induction fps with
 | nil=>intro g i fq _ h _;simp at h
 | cons f fps ih =>
  intro g i fq hn h hg
  rw[List.flatten_cons,List.nodup_append] at hn
  cases i with
  | zero =>
   simp only[List.getElem?_cons_zero,Option.some.injEq] at h;subst h
   simp[idxIn,hg]
  | succ i =>
   simp only[List.getElem?_cons_succ] at h
   have hm:g∈fps.flatten:=List.mem_flatten.2 ⟨fq,List.mem_of_getElem? h,hg⟩
   have:g∉f:=fun h=>hn.2.2 g h g hm rfl
   simp[idxIn,this,ih hn.2.1 h hg]
theorem idxIn_none{fps:List (List Nat)}{g:Nat}(h:g∉fps.flatten):idxIn fps g=none:=by
 cases hi:idxIn fps g with
 | none=>rfl
 | some i =>
  obtain⟨fq,h1,h2⟩:=idxIn_some hi
  exact absurd (List.mem_flatten.2 ⟨fq,List.mem_of_getElem? h1,h2⟩) h
theorem nodup_at{fps:List (List Nat)}{i:Nat}{fq:List Nat}(hn:fps.flatten.Nodup)(h:fps[i]?=some fq):fq.Nodup:=by
 induction fps generalizing i with
 | nil=>simp at h
 | cons f fps ih =>
  rw[List.flatten_cons,List.nodup_append] at hn
  cases i with
  | zero=>simp only[List.getElem?_cons_zero,Option.some.injEq] at h;subst h;exact hn.1
  | succ i=>exact ih hn.2.1 (by simpa using h)
def kb:List (Nat×Nat)→Nat→Option Nat
 | [],_=>none
 | (i,b)::l,r=>if b=r then some i else kb l r
theorem kb_of{l:List (Nat×Nat)}(hn:(l.map (·.2)).Nodup){i b:Nat}(h:(i,b)∈l):kb l b=some i:=by
 induction l with
 | nil=>cases h
 | cons q l ih =>
  obtain⟨j,c⟩:=q
  simp only[List.map_cons,List.nodup_cons] at hn
  simp only[kb]
  rcases List.mem_cons.1 h with e | h'
  ·cases e;simp
  ·rw[if_neg ?_];exact ih hn.2 h'
   intro e
   exact hn.1 (List.mem_map.2 ⟨(i,b),h',e.symm⟩)
theorem kb_some{l:List (Nat×Nat)}{i b:Nat}(h:kb l b=some i):(i,b)∈l:=by
 induction l with
 | nil=>cases h
 | cons q l ih =>
  obtain⟨j,c⟩:=q
  simp only[kb] at h
  split at h
  ·rename_i e;subst e;cases h;simp
  ·exact List.mem_cons_of_mem _ (ih h)
theorem bxOf_some{l:List (Nat×Nat)}{k:Nat}{x:Box}(h:bxOf s l k=some x):∃i b,(i,b)∈l∧k=1000+i∧s.b b=some x:=by
 induction l with
 | nil=>cases h
 | cons q l ih =>
  obtain⟨j,c⟩:=q
  simp only[bxOf] at h
  split at h
  ·rename_i e;exact⟨j,c,by simp,e,h⟩
  ·obtain⟨i,b,h1,h2,h3⟩:=ih h;exact⟨i,b,List.mem_cons_of_mem _ h1,h2,h3⟩
theorem backs_lookup{bx':Nat→Option Box}:∀{l:List (Nat×Nat)} {pb:List (Nat×Box)},backs bx' l=some pb→(∀b x,lookup b pb=some x→(b,x)∈pb∧∃i,(i,b)∈l∧bx' (1000+i)=some x)∧(∀q∈l,lookup q.2 pb≠none)∧pb.map (·.1)=l.map (·.2):=by
 intro l
 induction l with
 | nil=>intro pb h;cases h;exact⟨by simp[lookup],by simp,rfl⟩
 | cons q l ih =>
  obtain⟨i,b⟩:=q
  intro pb h
  simp only[backs] at h
  split at h
  ·rename_i x r hx hr
   cases h
   obtain⟨h1,h2,h3⟩:=ih hr
   refine⟨fun b' x' hl=>?_,fun q hq=>?_,by simp[h3]⟩
   ·simp only[lookup] at hl
    split at hl
    ·rename_i e;subst e;cases hl;exact⟨by simp,i,by simp,hx⟩
    ·obtain⟨g1,i',g2,g3⟩:=h1 b' x' hl
     exact⟨List.mem_cons_of_mem _ g1,i',List.mem_cons_of_mem _ g2,g3⟩
   ·simp only[lookup]
    split
    ·simp
    ·rename_i hne
     rcases List.mem_cons.1 hq with rfl | hq
     ·exact absurd rfl hne
     ·exact h2 q hq
  ·cases h
theorem prep_mts{f:FuncId}:∀{xs:List Operand} {i:Nat} {p:Prep},prep H f s i xs=some p→(∀q∈p.mts,i≤q.1)∧(p.mts.map (·.1)).Nodup:=by
 intro xs
 induction xs with
 | nil=>intro i p h;cases h;exact⟨by simp,List.nodup_nil⟩
 | cons x xs ih =>
  intro i p h
  simp only[prep] at h
  split at h
  ·cases h
  ·rename_i p' hp'
   obtain⟨h1,h2⟩:=ih hp'
   have key:p.mts=p'.mts→(∀q∈p.mts,i≤q.1)∧(p.mts.map (·.1)).Nodup:=fun e=>by
    rw[e];exact⟨fun q hq=>by have:=h1 q hq;omega,h2⟩
   split at h
   ·split at h
    ·split at h
     ·simp only[Option.ite_none_right_eq_some,Option.some.injEq] at h
      obtain⟨_,rfl⟩:=h
      refine⟨fun q hq=>?_,?_⟩
      ·rcases List.mem_cons.1 hq with rfl | hq
       ·exact Nat.le_refl _
       ·have:=h1 q hq;omega
      ·simp only[List.map_cons,List.nodup_cons]
       refine⟨fun hm=>?_,h2⟩
       obtain⟨q,hq,e⟩:=List.mem_map.1 hm
       have:=h1 q hq;omega
     ·cases h
    ·cases h
   ·split at h
    ·split at h
     ·split at h
      ·simp only[Option.ite_none_left_eq_some,Option.some.injEq] at h
       obtain⟨_,rfl⟩:=h;exact key rfl
      ·cases h
     ·split at h
      ·simp only[Option.ite_none_left_eq_some,Option.some.injEq] at h
       obtain⟨_,rfl⟩:=h;exact key rfl
      ·cases h
     ·simp only[Option.ite_none_left_eq_some,Option.some.injEq] at h
      obtain⟨_,rfl⟩:=h;exact key rfl
     ·cases h;exact key rfl
     ·cases h;exact key rfl
     ·cases h
    ·split at h
     ·simp only[Option.ite_none_left_eq_some,Option.some.injEq] at h
      obtain⟨_,rfl⟩:=h;exact key rfl
     ·cases h
theorem RepPs.at_{us:List Value}{xs:List AV}(h:RepPs V w K us xs):us.length=xs.length∧∀(i:Nat) (x:AV),xs[i]?=some x→∃v,us[i]?=some v∧RepP V w K v x:=by
 induction h with
 | nil=>exact⟨rfl,by simp⟩
 | cons a _ ih =>
  refine⟨by simp[ih.1],fun i x hx=>?_⟩
  cases i with
  | zero=>simp only[List.getElem?_cons_zero,Option.some.injEq] at hx;subst hx;exact⟨_,rfl,a⟩
  | succ i=>simpa using ih.2 i x (by simpa using hx)
theorem calleeOf_run (R : RelG N w0 M V0 K V O s a w) {o : Oper} {f : FuncId} {xs : List Operand} {caps : List AV} (h : calleeOf o s = some (f, xs, caps)) {fn : Func} {c : Code} (hf : P.funcs[f]? = some fn) (hb : fn.body = some c) (hn : (fn.name == "runtime.NumGoroutine") = false) :
  ∃cvs:List Value,RepPs V w K cvs caps∧(execOp a.eval o).run P w=.ok (.enter f (xs.map a.eval++cvs).toArray) w:=by
 unfold calleeOf at h
 split at h
 ·rename_i x args ats hop
  obtain⟨fp,_,_,_,h1⟩:=R.ev x
  have hrun:∀(fs cs:Array Value),a.eval x=.func (.func f) fs cs→fs=#[]→(execOp a.eval o).run P w=.ok (.enter f (args.toList.map a.eval++cs.toList).toArray) w:=by
   intro fs cs e efs
   subst efs
   have e2:(args.toList.map a.eval++cs.toList).toArray=args.map a.eval++cs:=by apply Array.ext';simp
   rw[e2]
   have hn' : fn.name ≠ "runtime.NumGoroutine" := by simpa using hn
   simp[execOp,hop,resolve,e,Deferred.ofValue,invoke,callFunc,hf,hn',hb]
  split at h
  ·rename_i g fs cs hx
   cases h
   rw[hx] at h1
   obtain⟨e1,-,hp⟩:=inv_lit h1
   simp only[plainX,plain,Bool.or_false,Bool.and_eq_true,Array.isEmpty_iff] at hp
   obtain⟨rfl,rfl⟩:=hp
   exact⟨[],.nil,by simpa using hrun _ _ e1 rfl⟩
  ·rename_i g cs hx
   cases h
   rw[hx] at h1
   obtain⟨vs,e1,-,hr⟩:=inv_fnv h1
   exact⟨vs,hr,by simpa using hrun _ _ e1 rfl⟩
  ·cases h
 ·cases h
theorem call_step{G:GP}{p:Prep}(hG:∀(M':Nat→Prop) (V':Nat→Nat),Next V0 V' w0 w→(callPlain s p=true→∀g,(w.heap.size≤g∨M' g)→V' g=0)→G M' V' w)(R:RelG N w0 M V0 K V O s a w)(o:Oper)(hd:∀d,o.dst=some d→d<N){f:FuncId}{xs:List Operand}{caps caps':List AV}{r:AV}{bx':Nat→Option Box}{e:Eff}{fn:Func}{c:Code}
  (hcal:calleeOf o s=some (f,xs,caps)) (hroc:roCaps s.b caps=some caps') (hp:prep H f s 0 xs=some p) (hcm:caps=[]∨p.mts=[]) (hC:CallOk P G f (p.args++caps') (bxOf s p.mts) r bx')
  (he : callE o.dst { p with tmp := leans s.b (.fnv f caps) ++ p.tmp } r bx' = some e) (hk : e.kl.all (· < 1000) = true) (hf : P.funcs[f]? = some fn) (hbody : fn.body = some c) (hname : (fn.name == "runtime.NumGoroutine") = false)
  (Q:Exit→Act→World→Prop) (C:Act→World→Prop) (hC':∀a' w' K' V' O',RelG N w0 M V0 K' V' O' (e.apply o.dst s) a' w'→(∀b,1000≤b→K' b=K b)→C a' w'):o.wp P a w C Q:=by
 obtain⟨cvs,hcv,hrun⟩:=calleeOf_run R hcal hf hbody hname
 obtain⟨hm1,hm2⟩:=prep_mts hp
 let tmp:=leans s.b (.fnv f caps)++p.tmp
 let KS:=tmp++p.kl
 let Vc:=vfz V K O s KS
 let Kc:Nat→Nat×Nat:=fun k=>match bk p.mts k with | some b=>K b | none=>(0,0)
 have F:Frz V K O s KS Vc:=frz R KS
 have hKc:∀q∈p.mts,Kc (1000+q.1)=K q.2:=fun q hq=>by
  obtain⟨i,b⟩:=q
  simp only[Kc,bk_of hm2 hq]
 obtain⟨g1,g2,g3,g4,g5,fps,g6,g7,g8⟩:=prep_ok (Kc:=Kc) R F f xs 0 p hp (fun k hk=>by simp only[KS,tmp,List.mem_append] at hk ⊢;rcases hk with hk | hk;exact .inl (.inr hk);exact .inr hk) hKc
 have hcaps:RepPs Vc w Kc cvs caps':=roCaps_rep (Kc:=Kc) R F hcv hroc (fun k hk=>by simp only[KS,tmp,leans,ids,List.mem_append];exact .inl (.inl (.inl hk))) (fun k hk=>by simp only[KS,tmp,leans,List.mem_append];exact .inl (.inl (.inr hk)))
 obtain⟨hcl,hcat⟩:=hcaps.at_
 let Oc:Nat→Option Loc:=fun g=>match idxIn fps g with
  | some i=>some (true,i)
  | none=>match O g with
   | some (false,b)=>(match kb p.mts b with | some i=>(if callPlain s p&&!(g==(K b).1) then none else some (false,1000+i)) | none=>none)
   | _=>none
 have hmtK:∀q∈p.mts,q.2∉KS:=fun q hq=>by
  obtain⟨z1,z2,_,_⟩:=g3 q hq
  have hc:caps=[]:=by
   rcases hcm with h | h
   ·exact h
   ·rw[h] at hq;cases hq
  simp only[KS,tmp,hc,leans,ids,idsL,List.flatMap_nil,List.nil_append,List.mem_append,not_or]
  exact⟨z1,z2⟩
 have hOc:∀g,Oc g≠none→un O p.set p.kl p.mts g=false∧O g≠none:=by
  intro g hg
  simp only[Oc] at hg
  cases hi:idxIn fps g with
  | some i =>
   obtain⟨fq,h1,h2⟩:=idxIn_some hi
   rcases g8 g (List.mem_flatten.2 ⟨fq,List.mem_of_getElem? h1,h2⟩) with ⟨t,e,ht⟩ | ⟨r,hr,e⟩
   ·refine⟨?_,by rw[e];simp⟩
    unfold un;rw[e];simpa using ht
   ·refine⟨?_,by rw[e];simp⟩
    unfold un;rw[e];simp[hr]
  | none =>
   rw[hi] at hg
   simp only at hg
   split at hg
   ·rename_i b hb
    split at hg
    ·rename_i i hkb
     refine⟨?_,by rw[hb];simp⟩
     have:b∈p.mts.map (·.2):=List.mem_map.2 ⟨_,kb_some hkb,rfl⟩
     unfold un;rw[hb];simp only[Bool.and_eq_false_iff,Bool.not_eq_false',List.contains_eq_mem,decide_eq_true_eq]
     exact .inr this
    ·exact absurd rfl hg
   ·exact absurd rfl hg
 have E:Entry w Vc Kc Oc (xs.map a.eval++cvs) (p.args++caps') (bxOf s p.mts):=by
  refine⟨by rw[List.length_append,List.length_append,g6.l1,hcl],fun i x hx=>?_,fun b x hb=>?_,fun g l hg=>?_,vfz_vr R KS⟩
  ·by_cases hi:i<p.args.length
   ·rw[List.getElem?_append_left hi] at hx
    obtain⟨v,fq,h1,h2,h3⟩:=g6.at_ i x hx
    refine⟨v,fq,by rw[List.getElem?_append_left (by rw[g6.l1];exact hi)];exact h1,nodup_at g7 h2,fun g hg=>?_,h3⟩
    simp only[Oc,idxIn_of g7 h2 hg]
   ·rw[List.getElem?_append_right (by omega)] at hx
    obtain⟨v,h1,h2⟩:=hcat _ x hx
    exact⟨v,[],by rw[List.getElem?_append_right (by rw[g6.l1];omega),g6.l1];exact h1,List.nodup_nil,by simp,.u (.p h2)⟩
  ·obtain⟨i,b0,hm,rfl,hb0⟩:=bxOf_some hb
   obtain⟨z1,z2,_,x',hx',hcl',hz,hst⟩:=g3 _ hm
   rw[hb0] at hx';cases hx'
   obtain⟨fb,arr,T,fz,us,q1,q2,q3⟩:=R.bxr b0 x hb0 (.inl hz)
   have hK:Kc (1000+i)=K b0:=hKc _ hm
   have hV:∀g∈(K b0).1::fb,Vc g=V g:=fun g hg=>F.other g fun r hr e=>by
    rw[q2 g hg] at e;cases e;exact absurd hr (hmtK _ hm)
   refine⟨by omega,fb,arr,T,fz,us,by rw[hK];exact q1,fun g hg=>?_,?_⟩
   ·rw[hK] at hg
    have hni:idxIn fps g=none:=idxIn_none fun hgf=>by
     rcases g8 g hgf with ⟨t,e,_⟩ | ⟨r,hr,e⟩ <;> rw[q2 g hg] at e <;> cases e
     exact z2 hr
    have hif:(callPlain s p&&!(g==(K b0).1))=false:=by
     cases hcp:callPlain s p with
     | false=>rfl
     | true =>
      unfold callPlain at hcp
      simp only[Bool.and_eq_true,List.all_eq_true] at hcp
      have h1:=hcp.2 _ hm
      simp only[hb0,Bool.not_eq_true'] at h1
      have h2:=ownless_rep q3.rep h1
      subst h2
      rw[List.mem_singleton.1 hg];simp
    simp only[Oc,hni,q2 g hg,kb_of g4 hm,hif,Bool.false_eq_true,if_false]
   ·have hdown:Rep V w K false fb us x.cs:=q3.rep.down (fun c hc b n e=>by
     have:=List.all_eq_true.1 hcl' c hc
     rw[e] at this;cases this)
    refine⟨by rw[hK];exact q3.hp,q3.th,q3.pre,?_,by rw[hK,hV _ List.mem_cons_self];exact q3.vis,q3.var,fun h=>absurd hz h⟩
    exact((hdown.vmono F.le fun g hg=>hV g (by simp[hg])).chK (hdown.noIds rfl) Kc).up _ (fun e=>by cases e)
  ·have:=(hOc g (by rw[hg];simp)).2
   cases hO:O g with
   | none=>exact absurd hO this
   | some l'=>exact(R.rg g l' hO).2
 have hpl:callPlain s p=true→∀g,(w.heap.size≤g∨Oc g≠none)→Vc g=0:=fun hcp g hg=>by
  rcases hg with hg | hg
  ·exact Nat.eq_zero_of_not_pos fun hp=>by have:=vfz_vr R KS g hp;omega
  ·have hcp':=hcp
   unfold callPlain at hcp'
   simp only[Bool.and_eq_true,List.isEmpty_iff,List.all_eq_true] at hcp'
   simp only[Oc] at hg
   cases hi:idxIn fps g with
   | some i =>
    obtain⟨fq,h1,h2⟩:=idxIn_some hi
    rcases g8 g (List.mem_flatten.2 ⟨fq,List.mem_of_getElem? h1,h2⟩) with ⟨t,e,ht⟩ | ⟨r,hr,e⟩
    ·rw[hcp'.1.1] at ht;simp at ht
    ·rw[hcp'.1.2] at hr;simp at hr
   | none =>
    rw[hi] at hg
    simp only at hg
    split at hg
    ·rename_i b hb
     split at hg
     ·rename_i i hkb
      have hm:=kb_some hkb
      obtain⟨z1,z2,_,x',hx',hcl',hz,hst⟩:=g3 _ hm
      obtain⟨fb,arr,T,fz,us,q1,q2,q3⟩:=R.bxr b x' hx' (.inl hz)
      split at hg
      ·exact absurd rfl hg
      ·rename_i hne
       rw[hcp,Bool.true_and,Bool.not_eq_true,Bool.not_eq_false'] at hne
       have hgk:g=(K b).1:=by simpa using hne
       have h1:Vc g=V g:=F.other g fun r hr e=>by
        rw[hb] at e;cases e;exact absurd hr (hmtK _ hm)
       rw[h1,hgk,q3.vis,hst];rfl
     ·exact absurd rfl hg
    ·exact absurd rfl hg
 have hcall:=hC w Vc Vc Kc Oc _ (hG _ _ ⟨R.nx.cell,fun g=>Nat.le_trans (R.nx.le g) (F.le g),R.nx.sz⟩ hpl) (fun _=>Nat.le_refl _) (fun _ _=>rfl) E
 unfold Oper.wp
 rw[hrun]
 simp only[Oper.upon]
 refine Calls.mono hcall fun en w' hen=>?_
 obtain⟨v,rfl,V1,O1,fp,b1,b2,b3,b4,b5,b6,hq,b7,b8⟩:=hen
 have B:Back w Vc Kc Oc bx' w' V1 O1 fp:=⟨b1,b2,b3,b4,b5,b6,b7,b8⟩
 show C (a.put o.dst v) w'
 unfold callE at he
 split at he
 ·cases he
 ·rename_i pb hpb
  simp only[Option.ite_none_left_eq_some,not_or,not_and,Bool.not_eq_false] at he
  obtain⟨⟨hsh,hclean⟩,he⟩:=he
  obtain⟨k1,k2,k3⟩:=backs_lookup hpb
  have hshc:tmp=[]∨(hasSh r=false∧∀q∈pb,hasShL q.2.cs=false):=by
   by_cases ht:tmp=[]
   ·exact .inl ht
   ·have:=hsh ht
    simp only[Bool.not_eq_true,Bool.or_eq_false_iff,List.any_eq_false] at this
    exact .inr ⟨this.1,fun q hq=>by simpa using this.2 q hq⟩
  have hboxes:∀(K2:Nat→Nat×Nat),(∀b,b∈p.mts.map (·.2)→K2 b=K b)→∀b x,lookup b pb=some x→∃i,(i,b)∈p.mts∧bx' (1000+i)=some x∧K2 b=Kc (1000+i)∧cleanL x.cs=true∧(tmp=[]∨hasShL x.cs=false):=by
   intro K2 hK2 b x hl
   obtain⟨g1,i,g2,g3⟩:=k1 b x hl
   refine⟨i,g2,g3,?_,?_,?_⟩
   ·rw[hKc _ g2];exact hK2 b (List.mem_map.2 ⟨_,g2,rfl⟩)
   ·have:=List.all_eq_true.1 hclean _ g1;exact this
   ·rcases hshc with h | h
    ·exact .inl h
    ·exact .inr (h.2 _ g1)
  have hlow:∀{m:Bool} {us:List Value} {cs:List AV} {fq:List Nat} {K':Nat→Nat×Nat},Rep V1 w' K' m fq us cs→(∀g∈fq,g∈fp)→(tmp=[]∨hasShL cs=false)→Rep (v2 O p.set p.kl p.mts V V1) w' K' m fq us cs:=fun h ho hs =>
   v2_back R F hOc B h (fun g hg=>by rw[b6 g (ho g hg)];simp) hs
  have plainly:∀e':Eff,e'={ val:=r,set:=p.set,kl:=p.kl,put:=pb,rd:=tmp++p.kl++p.mts.map (·.2) }→(∀d,o.dst=some d→isNbx r=false)→∃O2,RelG N w0 M V0 K (v2 O p.set p.kl p.mts V V1) O2 (e'.apply o.dst s) (a.put o.dst v) w':=by
   intro e' he' hnb
   subst he'
   refine call_apply R F g1 hm2 hOc B _ o.dst hd (o.dst.map fun d=>(true,d)) (fun _ _=>rfl) rfl (fun _ h=>h) (fun q hq=>k2 q hq) (fun b x hl=>.inr (.inl (hboxes K (fun _ _=>rfl) b x hl))) (fun d hdd=>⟨fp,.inr ⟨rfl,by rw[hdd];rfl⟩,?_⟩)
   have hs:tmp=[]∨hasSh r=false:=by
    rcases hshc with h | h
    ·exact .inl h
    ·exact .inr h.1
   cases hq with
   | one _ _ _ hr =>
    cases hr with
    | v K' _ _ _ hu hi =>
     refine .u ?_
     rcases hs with h | h
     ·rw[v2_all R F hOc B h];exact hu.chK hi K
     ·exact(hu.lower h fun g hg=>v2_own R hOc B (by rw[b6 g hg];simp)).chK hi K
    | nbx=>have:=hnb d hdd;simp[isNbx] at this
   | tup K' _ us rs ht hi =>
    refine .tup ?_
    rcases hs with h | h
    ·rw[v2_all R F hOc B h];exact ht.chK K hi
    ·exact(ht.lower (fun g hg=>v2_own R hOc B (by rw[b6 g hg];simp)) (by simpa [hasSh] using h)).chK K hi
  split at he
  · -- a tree comes back: a local row
   rename_i sz n cs d hdst
   simp only[Option.ite_none_right_eq_some,Option.some.injEq] at he
   obtain⟨⟨hsz,hdp⟩,rfl⟩:=he
   simp only[List.all_cons,Bool.and_eq_true,decide_eq_true_eq] at hk
   have hone:Rep V1 w' (fun _=>(0,0)) true fp [v] [.sl true sz n cs]:=by
    cases hq with
    | one _ _ _ hr =>
     cases hr with
     | v K' _ _ _ hu hi=>exact(inv_one (.u hu) (.inl ⟨_,_,_,_,rfl⟩)).chK (by simpa [idsL] using hi) _
   obtain⟨rfl,rfl,rfl,rfl⟩ | ⟨g,cap,T,arr,fz,us,fq,rfl,rfl,q1,q2,q3,q4,q5,q6,q7,q8,q9⟩:=rep_own hone
   ·let K2:Nat→Nat×Nat:=fun b=>if b=d then (0,0) else K b
    have hKd:(K2 d).2=0:=by simp[K2]
    have hd':∀b∈p.mts.map (·.2),K2 b=K b:=fun b hb=>by
     have:b≠d:=fun e=>hdp (by rw[k3,←e];exact hb)
     simp[K2,this]
    obtain⟨O2,hR⟩:=call_apply (K2:=K2) (v:=.slice none 0 0) R F g1 hm2 hOc B { val:=.msl d 0,set:=p.set,kl:=d::p.kl,put:=(d,⟨false,sz,[]⟩)::pb,rd:=tmp++p.kl++p.mts.map (·.2) } o.dst hd none (fun b hb=>by simp at hb;simp[K2,hb.1]) rfl (fun _ h=>List.mem_cons_of_mem _ h) (fun q hq=>by
      simp only[lookup];split
      ·simp
      ·exact k2 q hq) (fun b x hl=>by
      simp only[lookup] at hl
      split at hl
      ·rename_i e;subst e;cases hl
       exact .inr (.inr ⟨hsz,rfl,hKd⟩)
      ·exact .inr (.inl (hboxes K2 hd' b x hl))) (fun d' hdd=>⟨[],.inl rfl,.u (.one (.mv d hKd .nil))⟩)
    exact hC' _ _ _ _ _ hR fun b hb=>by show (if b=d then _ else K b)=K b;rw[if_neg (by omega)]
   let K2:Nat→Nat×Nat:=fun b=>if b=d then (g,cap+1) else K b
   have hKd:K2 d=(g,cap+1):=by simp[K2]
   have hd':∀b∈p.mts.map (·.2),K2 b=K b:=fun b hb=>by
    have:b≠d:=fun e=>hdp (by rw[k3,←e];exact hb)
    simp[K2,this]
   have hsr:tmp=[]∨hasShL cs=false:=by
    rcases hshc with h | h
    ·exact .inl h
    ·exact .inr (by simpa [hasSh] using h.1)
   have h9:=hlow q9 (fun g hg=>by simp[hg]) hsr
   have h9':=h9.chK (h9.noIds rfl) K2
   obtain⟨O2,hR⟩:=call_apply (K2:=K2) (v:=.slice (some ⟨g,0,none⟩) n cap) R F g1 hm2 hOc B { val:=.msl d n,set:=p.set,kl:=d::p.kl,put:=(d,⟨false,sz,cs⟩)::pb,rd:=tmp++p.kl++p.mts.map (·.2) } o.dst hd (some (false,d)) (fun b hb=>by simp at hb;simp[K2,hb.1]) rfl (fun _ h=>List.mem_cons_of_mem _ h) (fun q hq=>by
     simp only[lookup];split
     ·simp
     ·exact k2 q hq) (fun b x hl=>by
     simp only[lookup] at hl
     split at hl
     ·rename_i e;subst e;cases hl
      exact .inl ⟨rfl,fq,arr,T,fz,us,by rw[hKd],row_ok hKd q1 q2 q3 q4 q5 q6 q7 (by rw[v2_own R hOc B (by rw[b6 g (by simp)];simp)];exact q8) h9'⟩
     ·exact .inr (.inl (hboxes K2 hd' b x hl))) (fun d' hdd=>⟨[],.inl rfl,by
     have:=Rep.ms (V:=v2 O p.set p.kl p.mts V V1) (w:=w') (K:=K2) (fp:=[]) (us:=[]) (cs:=[]) (n:=n) (cap:=cap) d (by rw[hKd]) q1 .nil
     rw[hKd] at this
     exact .u (.one this)⟩)
   exact hC' _ _ _ _ _ hR fun b hb=>by show (if b=d then _ else K b)=K b;rw[if_neg (by omega)]
  · -- a box comes back
   rename_i cs d hdst
   simp only[Option.ite_none_right_eq_some,Option.some.injEq] at he
   obtain⟨hdp,rfl⟩:=he
   simp only[List.all_cons,Bool.and_eq_true,decide_eq_true_eq] at hk
   cases hq with
   | one _ _ _ hr =>
    cases hr with
    | v K' _ _ _ hu hi=>cases hu with
     | one h=>cases h
     | p h=>cases h
    | nbx K' g T arr fz us fq _ q1 q2 q3 q4 q5 q6 =>
     let K2:Nat→Nat×Nat:=fun b=>if b=d then (g,0) else K b
     have hKd:K2 d=(g,0):=by simp[K2]
     have hd':∀b∈p.mts.map (·.2),K2 b=K b:=fun b hb=>by
      have:b≠d:=fun e=>hdp (by rw[k3,←e];exact hb)
      simp[K2,this]
     have hsr:tmp=[]∨hasShL cs=false:=by
      rcases hshc with h | h
      ·exact .inl h
      ·exact .inr (by simpa [hasSh] using h.1)
     have h9:=hlow q6 (fun g hg=>by simp[hg]) hsr
     have h9':=h9.chK (h9.noIds rfl) K2
     obtain⟨O2,hR⟩:=call_apply (K2:=K2) (v:=.pointer (some ⟨g,0,none⟩)) R F g1 hm2 hOc B { val:=.ptr d 0,set:=p.set,kl:=d::p.kl,put:=(d,⟨true,0,cs⟩)::pb,rd:=tmp++p.kl++p.mts.map (·.2) } o.dst hd (some (false,d)) (fun b hb=>by simp at hb;simp[K2,hb.1]) rfl (fun _ h=>List.mem_cons_of_mem _ h) (fun q hq=>by
       simp only[lookup];split
       ·simp
       ·exact k2 q hq) (fun b x hl=>by
       simp only[lookup] at hl
       split at hl
       ·rename_i e;subst e;cases hl
        refine .inl ⟨rfl,fq,arr,T,fz,us,by rw[hKd],⟨by rw[hKd];exact q1,q2,q4,h9'.up _ (fun e=>by cases e),?_,fun _=>⟨q3,rfl⟩,fun h=>absurd rfl h⟩⟩
        rw[hKd,v2_own R hOc B (by rw[b6 g (by simp)];simp)];exact q5
       ·exact .inr (.inl (hboxes K2 hd' b x hl))) (fun d' hdd=>⟨[],.inl rfl,by
       have:=RepP.ptr (V:=v2 O p.set p.kl p.mts V V1) (w:=w') (K:=K2) d 0
       rw[hKd] at this
       exact .u (.p this)⟩)
     exact hC' _ _ _ _ _ hR fun b hb=>by show (if b=d then _ else K b)=K b;rw[if_neg (by omega)]
  ·cases he
  ·rename_i r0 _ _ hn1 hn2 hn3
   cases he
   obtain⟨O2,hR⟩:=plainly _ rfl (fun d hdd=>by
    cases hz:isNbx r0 with
    | false=>rfl
    | true=>cases r0 <;> simp[isNbx] at hz;exact absurd hdd (hn3 _ d rfl))
   exact hC' _ _ _ _ _ hR fun b _=>rfl
end Evl
namespace Evl
open Go
variable {P:Program}{H:Hints}{fid:FuncId}{s u:S}
mutual
theorem kill_id(d:Nat):∀v:AV,d∉ids v→kill d v=v
 | .lit _,_=>rfl
 | .nil,_=>rfl
 | .sl _ _ _ _,_=>rfl
 | .msl b n,h=>by simp only[kill];rw[if_neg (fun e=>h (by simp[ids,e]))]
 | .agg cs,h=>by simp only[kill];rw[killL_id d cs (by simpa [ids] using h)]
 | .tup cs,h=>by simp only[kill];rw[killL_id d cs (by simpa [ids] using h)]
 | .ptr b o,h=>by simp only[kill];rw[if_neg (fun e=>h (by simp[ids,e]))]
 | .cptr _,_=>rfl
 | .nbx _,_=>rfl
 | .fnv f cs,h=>by simp only[kill];rw[killL_id d cs (by simpa [ids] using h)]
 | .bad,_=>rfl
theorem killL_id(d:Nat):∀l:List AV,d∉idsL l→killL d l=l
 | [],_=>rfl
 | x::xs,h=>by
  simp only[idsL,List.mem_append,not_or] at h
  simp only[killL];rw[kill_id d x h.1,killL_id d xs h.2]
end
mutual
theorem ids_kill(d:Nat):∀v:AV,∀k∈ids (kill d v),k∈ids v
 | .lit _=>by simp[kill]
 | .nil=>by simp[kill]
 | .sl _ _ _ _=>by simp[kill]
 | .msl b n=>by
  intro k hk;simp only[kill] at hk;split at hk
  ·simp[ids] at hk
  ·exact hk
 | .agg cs=>by intro k hk;simp only[kill,ids] at hk ⊢;exact ids_killL d cs k hk
 | .tup cs=>by intro k hk;simp only[kill,ids] at hk ⊢;exact ids_killL d cs k hk
 | .ptr b o=>by
  intro k hk;simp only[kill] at hk;split at hk
  ·simp[ids] at hk
  ·exact hk
 | .cptr _=>by simp[kill]
 | .nbx _=>by simp[kill]
 | .fnv f cs=>by intro k hk;simp only[kill,ids] at hk ⊢;exact ids_killL d cs k hk
 | .bad=>by simp[kill]
theorem ids_killL(d:Nat):∀l:List AV,∀k∈idsL (killL d l),k∈idsL l
 | []=>by simp[killL]
 | x::xs=>by
  intro k hk
  simp only[killL,idsL,List.mem_append] at hk ⊢
  rcases hk with hk | hk
  ·exact .inl (ids_kill d x k hk)
  ·exact .inr (ids_killL d xs k hk)
end
mutual
theorem kill_comm(d e:Nat):∀v:AV,kill d (kill e v)=kill e (kill d v)
 | .lit _=>rfl
 | .nil=>rfl
 | .sl _ _ _ _=>rfl
 | .msl b n=>by
  simp only[kill]
  by_cases h1:b=e <;> by_cases h2:b=d <;> simp[kill,h1,h2]
  all_goals (try (split <;> simp_all [kill]))
 | .agg cs=>by simp only[kill];rw[killL_comm d e cs]
 | .tup cs=>by simp only[kill];rw[killL_comm d e cs]
 | .ptr b o=>by
  simp only[kill]
  by_cases h1:b=e <;> by_cases h2:b=d <;> simp[kill,h1,h2]
  all_goals (try (split <;> simp_all [kill]))
 | .cptr _=>rfl
 | .nbx _=>rfl
 | .fnv f cs=>by simp only[kill];rw[killL_comm d e cs]
 | .bad=>rfl
theorem killL_comm(d e:Nat):∀l:List AV,killL d (killL e l)=killL e (killL d l)
 | []=>rfl
 | x::xs=>by simp only[killL];rw[kill_comm d e x,killL_comm d e xs]
end
theorem killAll_id{v:AV}:∀{l:List Nat},(∀k∈ids v,k∉l)→killAll l v=v:=by
 intro l
 induction l with
 | nil=>intro _;rfl
 | cons d l ih =>
  intro h
  simp only[killAll]
  rw[kill_id d v (fun hd=>h d hd (by simp))]
  exact ih fun k hk hl=>h k hk (by simp[hl])
theorem killAllL_id{v:List AV}:∀{l:List Nat},(∀k∈idsL v,k∉l)→killAllL l v=v:=by
 intro l
 induction l with
 | nil=>intro _;rfl
 | cons d l ih =>
  intro h
  simp only[killAllL]
  rw[killL_id d v (fun hd=>h d hd (by simp))]
  exact ih fun k hk hl=>h k hk (by simp[hl])
theorem ids_killAll:∀(l:List Nat) (v:AV),∀k∈ids (killAll l v),k∈ids v:=by
 intro l
 induction l with
 | nil=>intro v k hk;exact hk
 | cons d l ih=>intro v k hk;simp only[killAll] at hk;exact ids_kill d v k (ih _ k hk)
theorem kill_killAll(d:Nat):∀(l:List Nat) (v:AV),kill d (killAll l v)=killAll l (kill d v):=by
 intro l
 induction l with
 | nil=>intro v;rfl
 | cons e l ih=>intro v;simp only[killAll];rw[ih,kill_comm]
theorem killAll_comm:∀(l m:List Nat) (v:AV),killAll l (killAll m v)=killAll m (killAll l v):=by
 intro l
 induction l with
 | nil=>intro m v;rfl
 | cons d l ih=>intro m v;simp only[killAll];rw[kill_killAll,ih]
theorem killL_killAllL(d:Nat):∀(l:List Nat) (v:List AV),killL d (killAllL l v)=killAllL l (killL d v):=by
 intro l
 induction l with
 | nil=>intro v;rfl
 | cons e l ih=>intro v;simp only[killAllL];rw[ih,killL_comm]
theorem killAllL_comm:∀(l m:List Nat) (v:List AV),killAllL l (killAllL m v)=killAllL m (killAllL l v):=by
 intro l
 induction l with
 | nil=>intro m v;rfl
 | cons d l ih=>intro m v;simp only[killAllL];rw[killL_killAllL,ih]
structure Fit(x:LogE)(s:S):Prop where
 lk:∀t∈x.looks,∀k∈ids (s.t t),k∈x.ment
 rd:∀b∈x.eff.rd,∀z,s.b b=some z→∀k∈idsB z,k∈x.ment
 vl:∀k∈ids x.eff.val,k∈x.ment
 pt:∀b z,lookup b x.eff.put=some z→∀k∈idsB z,k∈x.ment
 st:∀t z,lookup t x.eff.set=some z→∀k∈ids z,k∈x.ment
 n1:x.nb=true→∀t∈x.looks,noBad (s.t t)=true
 n2:x.nb=true→∀b∈x.eff.rd,∀z,s.b b=some z→z.sz=0→noBadL z.cs=true
mutual
theorem kill_noBad(d:Nat):∀v:AV,noBad (kill d v)=true→kill d v=v
 | .lit _,_=>rfl
 | .nil,_=>rfl
 | .sl _ _ _ _,_=>rfl
 | .msl b n,h=>by
  simp only[kill] at h ⊢
  split at h
  ·simp[noBad] at h
  ·rename_i e;rw[if_neg e]
 | .agg cs,h=>by simp only[kill,noBad] at h ⊢;rw[killL_noBad d cs h]
 | .tup cs,h=>by simp only[kill,noBad] at h ⊢;rw[killL_noBad d cs h]
 | .ptr b o,h=>by
  simp only[kill] at h ⊢
  split at h
  ·simp[noBad] at h
  ·rename_i e;rw[if_neg e]
 | .cptr _,_=>rfl
 | .nbx _,_=>rfl
 | .fnv f cs,h=>by simp only[kill,noBad] at h ⊢;rw[killL_noBad d cs h]
 | .bad,_=>rfl
theorem killL_noBad(d:Nat):∀l:List AV,noBadL (killL d l)=true→killL d l=l
 | [],_=>rfl
 | x::xs,h=>by
  simp only[killL,noBadL,Bool.and_eq_true] at h ⊢
  rw[kill_noBad d x h.1,killL_noBad d xs h.2]
end
theorem killAll_noBad:∀(l:List Nat) (v:AV),noBad (killAll l v)=true→killAll l v=v:=by
 intro l
 induction l with
 | nil=>intro v _;rfl
 | cons d l ih =>
  intro v h
  simp only[killAll] at h ⊢
  have e:=ih _ h
  rw[e] at h ⊢
  exact kill_noBad d v h
theorem killAllL_noBad:∀(l:List Nat) (v:List AV),noBadL (killAllL l v)=true→killAllL l v=v:=by
 intro l
 induction l with
 | nil=>intro v _;rfl
 | cons d l ih =>
  intro v h
  simp only[killAllL] at h ⊢
  have e:=ih _ h
  rw[e] at h ⊢
  exact killL_noBad d v h
theorem lookup_in{α:Type}{t:Nat}{z:α}:∀{l:List (Nat×α)},lookup t l=some z→(t,z)∈l:=by
 intro l
 induction l with
 | nil=>intro h;cases h
 | cons q l ih =>
  obtain⟨k,x⟩:=q
  intro h
  simp only[lookup] at h
  split at h
  ·rename_i e;subst e;cases h;simp
  ·exact List.mem_cons_of_mem _ (ih h)
theorem fit_mkLog{ops:Array Oper}{i:Nat}{o:Oper}{e:Eff}{b:Bool}(hg:gd ops o s=some b):Fit (mkLog ops i o s e) s:=by
 refine⟨fun t ht k hk=>?_,fun b hb z hz k hk=>?_,fun k hk=>?_,fun b z hl k hk=>?_,fun t z hl k hk=>?_,fun hn t ht=>?_,fun hn b hb z hz=>?_⟩
 ·simp only[mkLog] at ht ⊢
  unfold Oper.looksAt at ht
  rcases List.mem_append.1 ht with ht | ht
  ·rw[List.mem_filterMap] at ht
   obtain⟨x,hx,he⟩:=ht
   cases x with
   | tmp t' =>
    simp only[Option.some.injEq] at he;subst he
    simp only[List.mem_append]
    refine .inl (.inl (.inl (.inl ?_)))
    exact List.mem_flatMap.2 ⟨.tmp t',hx,hk⟩
   | _=>simp at he
  ·unfold gd at hg
   cases hgd:o.guard with
   | none=>rw[hgd] at ht;cases ht
   | some q =>
    obtain⟨j,want⟩:=q
    rw[hgd] at ht hg
    simp only at ht hg
    split at hg
    ·rename_i d hd
     rw[hd] at ht
     simp at ht;subst ht
     split at hg
     ·rename_i c hc;rw[hc] at hk;simp[ids] at hk
     ·rename_i hc;rw[hc] at hk;simp[ids,idsL] at hk
     ·cases hg
    ·cases hg
 ·simp only[mkLog,List.mem_append]
  refine .inl (.inl (.inl (.inr ?_)))
  unfold boxIds
  exact List.mem_flatMap.2 ⟨b,hb,by rw[hz];exact hk⟩
 ·simp only[mkLog,List.mem_append];exact .inl (.inl (.inr hk))
 ·simp only[mkLog,List.mem_append];exact .inl (.inr (List.mem_flatMap.2 ⟨_,lookup_in hl,hk⟩))
 ·simp only[mkLog,List.mem_append];exact .inr (List.mem_flatMap.2 ⟨_,lookup_in hl,hk⟩)
 ·simp only[mkLog,Bool.and_eq_true,List.all_eq_true] at hn
  exact hn.1 t ht
 ·simp only[mkLog,Bool.and_eq_true,List.all_eq_true] at hn
  have:=hn.2 b hb
  rw[hz] at this
  intro h0
  simpa [h0] using this
theorem agree_entry{G:GP}{ops:Array Oper}{x:LogE}(h:EntryOk P G ops x s)(ha:agree x.looks x.eff.rd s u):EntryOk P G ops x u:=by
 intro N w0 M V0 V K O z a w hg R hz
 exact h N w0 M V0 V K O z a w hg R ⟨fun t ht=>(hz.1 t ht).trans (ha.1 t ht),fun b hb=>(hz.2 b hb).trans (ha.2 b hb)⟩
theorem agree_fit{x:LogE}(h:Fit x s)(ha:agree x.looks x.eff.rd s u):Fit x u :=
 ⟨fun t ht=>by rw[ha.1 t ht];exact h.lk t ht,fun b hb=>by rw[ha.2 b hb];exact h.rd b hb,h.vl,h.pt,h.st,fun hn t ht=>by rw[ha.1 t ht];exact h.n1 hn t ht,fun hn b hb=>by rw[ha.2 b hb];exact h.n2 hn b hb⟩
structure One(x y:LogE):Prop where
 d1:∀d,x.dst=some d→d∉y.looks∧y.dst≠some d∧lookup d y.eff.set=none
 s1:∀t,lookup t x.eff.set≠none→t∉y.looks∧lookup t y.eff.set=none
 p1:∀b,lookup b x.eff.put≠none→b∉y.eff.rd∧lookup b y.eff.put=none
 k1:∀k∈x.eff.kl,k∉y.ment∧k∉y.eff.rd∧lookup k y.eff.put=none∧k∉y.eff.kl
theorem one_of{x y:LogE}(h:oneWay x y=true):One x y:=by
 unfold oneWay at h
 simp only[Bool.and_eq_true] at h
 obtain⟨⟨⟨h1,h2⟩,h3⟩,h4⟩:=h
 refine⟨fun d hd=>?_,fun t ht=>?_,fun b hb=>?_,fun k hk=>?_⟩
 ·rw[hd] at h1
  simp only[Bool.and_eq_true,Bool.not_eq_true',List.contains_eq_mem,decide_eq_false_iff_not,bne_iff_ne] at h1
  exact⟨h1.1.1,h1.1.2,lookup_none.2 h1.2⟩
 ·have:=disj_spec h2 t (lookup_mem.1 ht)
  simp only[List.mem_append,not_or] at this
  exact⟨this.1,lookup_none.2 this.2⟩
 ·have:=disj_spec h3 b (lookup_mem.1 hb)
  simp only[List.mem_append,not_or] at this
  exact⟨this.1,lookup_none.2 this.2⟩
 ·have:=disj_spec h4 k hk
  simp only[List.mem_append,not_or] at this
  exact⟨this.1.1.1,this.1.1.2,lookup_none.2 this.1.2,this.2⟩
theorem killBox_id{l:List Nat}{z:Box}(h:z.sz=0→killAllL l z.cs=z.cs):killBox l z=z:=by
 unfold killBox
 by_cases hz:z.sz=0
 ·rw[if_pos hz,h hz]
 ·rw[if_neg hz]
theorem idsB_of{z:Box}{k:Nat}(h0:z.sz=0)(h:k∈idsL z.cs):k∈idsB z:=by unfold idsB;rw[if_pos h0];exact h
theorem apply_agree{x y:LogE}(h:One x y)(hy:Fit y s):agree y.looks y.eff.rd s (x.eff.apply x.dst s):=by
 refine⟨fun t ht=>?_,fun b hb=>?_⟩
 ·simp only[Eff.apply]
  rw[if_neg (fun e=>(h.d1 t e).1 ht)]
  have:lookup t x.eff.set=none:=by
   cases hl:lookup t x.eff.set with
   | none=>rfl
   | some z=>exact absurd ht (h.s1 t (by rw[hl];simp)).1
  rw[this]
  exact killAll_id fun k hk hk'=>(h.k1 k hk').1 (hy.lk t ht k hk)
 ·simp only[Eff.apply]
  have:lookup b x.eff.put=none:=by
   cases hl:lookup b x.eff.put with
   | none=>rfl
   | some z=>exact absurd hb (h.p1 b (by rw[hl];simp)).1
  rw[this]
  simp only
  rw[if_neg (fun hk=>(h.k1 b hk).2.1 hb)]
  cases hs:s.b b with
  | none=>rfl
  | some z =>
   simp only[Option.map_some,Option.some.injEq]
   rw[killBox_id fun h0=>killAllL_id fun k hk hk'=>(h.k1 k hk').1 (hy.rd b hb z hs k (idsB_of h0 hk))]
theorem apply_comm{x y:LogE}(h1:One x y)(h2:One y x)(hx:Fit x s)(hy:Fit y s):x.eff.apply x.dst (y.eff.apply y.dst s)=y.eff.apply y.dst (x.eff.apply x.dst s):=by
 have ht:∀i,(x.eff.apply x.dst (y.eff.apply y.dst s)).t i=(y.eff.apply y.dst (x.eff.apply x.dst s)).t i:=by
  intro i
  simp only[Eff.apply]
  by_cases hxi:x.dst=some i
  ·obtain⟨g1,g2,g3⟩:=h1.d1 i hxi
   rw[if_pos hxi,if_neg g2,g3]
   simp only[hxi,if_true]
   exact(killAll_id fun k hk hk'=>(h2.k1 k hk').1 (hx.vl k hk)).symm
  ·rw[if_neg hxi]
   by_cases hyi:y.dst=some i
   ·obtain⟨g1,g2,g3⟩:=h2.d1 i hyi
    rw[if_pos hyi,g3]
    simp only[hyi,if_true]
    exact killAll_id fun k hk hk'=>(h1.k1 k hk').1 (hy.vl k hk)
   ·rw[if_neg hyi]
    cases hlx:lookup i x.eff.set with
    | some z =>
     have:=(h1.s1 i (by rw[hlx];simp)).2
     rw[this]
     simp only[hxi,hyi,if_false]
     exact(killAll_id fun k hk hk'=>(h2.k1 k hk').1 (hx.st i z hlx k (ids_killAll _ _ k hk))).symm
    | none =>
     cases hly:lookup i y.eff.set with
     | some z =>
      simp only[hxi,hyi,if_false]
      exact killAll_id fun k hk hk'=>(h1.k1 k hk').1 (hy.st i z hly k (ids_killAll _ _ k hk))
     | none =>
      simp only[hxi,hyi,if_false]
      exact killAll_comm _ _ _
 have hb:∀i,(x.eff.apply x.dst (y.eff.apply y.dst s)).b i=(y.eff.apply y.dst (x.eff.apply x.dst s)).b i:=by
  intro i
  simp only[Eff.apply]
  cases hlx:lookup i x.eff.put with
  | some z =>
   have g:=(h1.p1 i (by rw[hlx];simp)).2
   rw[g]
   have gk:i∉y.eff.kl:=fun hk=>by have:=(h2.k1 i hk).2.2.1;rw[hlx] at this;cases this
   simp only[gk,if_false,Option.map_some,Option.some.injEq]
   rw[killBox_id fun h0=>killAllL_id fun k hk hk'=>(h2.k1 k hk').1 (hx.pt i z hlx k (idsB_of h0 hk))]
  | none =>
   cases hly:lookup i y.eff.put with
   | some z =>
    have gk:i∉x.eff.kl:=fun hk=>by have:=(h1.k1 i hk).2.2.1;rw[hly] at this;cases this
    simp only[gk,if_false,Option.map_some,Option.some.injEq]
    rw[killBox_id fun h0=>killAllL_id fun k hk hk'=>(h1.k1 k hk').1 (hy.pt i z hly k (idsB_of h0 hk))]
   | none =>
    simp only
    by_cases hkx:i∈x.eff.kl <;> by_cases hky:i∈y.eff.kl
    ·simp[hkx,hky]
    ·simp[hkx,hky]
    ·simp[hkx,hky]
    ·simp only[hkx,hky,if_false,Option.map_map]
     congr 1
     funext z
     simp only[Function.comp,killBox]
     by_cases h0:z.sz=0
     ·simp only[h0,if_true];rw[killAllL_comm]
     ·simp only[h0,if_false]
 cases h3:x.eff.apply x.dst (y.eff.apply y.dst s) with
 | mk t b =>
  cases h4:y.eff.apply y.dst (x.eff.apply x.dst s) with
  | mk t' b' =>
   have e1:t=t':=funext fun i=>by have:=ht i;rw[h3,h4] at this;exact this
   have e2:b=b':=funext fun i=>by have:=hb i;rw[h3,h4] at this;exact this
   rw[e1,e2]
inductive Link(P:Program)(G:GP)(ops:Array Oper):S→List LogE→S→Prop
 | nil (s1:S):Link P G ops s1 [] s1
 | cons (s1:S) (x:LogE) (lg:List LogE) (s2:S):EntryOk P G ops x s1→Fit x s1→Link P G ops (x.eff.apply x.dst s1) lg s2→Link P G ops s1 (x::lg) s2
theorem Link.chain{G:GP}{ops:Array Oper}{lg:List LogE}{s s':S}(h:Link P G ops s lg s'):Chain P G ops s lg s':=by
 induction h with
 | nil s1=>exact .nil s1
 | cons s1 x lg s2 h1 _ _ ih=>exact .cons s1 x lg s2 h1 ih
theorem Link.first{G:GP}{ops:Array Oper}{x:LogE}{post:List LogE}:∀{pre:List LogE} {s s':S},Link P G ops s (pre++x::post) s'→(∀y∈pre,One x y∧One y x∧(x.nb=true∨y.eff.kl=[]))→EntryOk P G ops x s∧Fit x s∧Link P G ops (x.eff.apply x.dst s) (pre++post) s':=by
 intro pre
 induction pre with
 | nil =>
  intro s s' h _
  cases h with
  | cons _ _ _ _ h1 h2 h3=>exact⟨h1,h2,h3⟩
 | cons y pre ih =>
  intro s s' h hall
  cases h with
  | cons _ _ _ _ h1 h2 h3 =>
   obtain⟨g1,g2,g3⟩:=ih h3 fun z hz=>hall z (by simp[hz])
   obtain⟨o1,o2,hnb⟩:=hall y (by simp)
   have hag:agree x.looks x.eff.rd (y.eff.apply y.dst s) s:=by
    refine⟨fun t ht=>?_,fun b hb=>?_⟩
    ·simp only[Eff.apply]
     rw[if_neg (fun e=>(o2.d1 t e).1 ht)]
     have:lookup t y.eff.set=none:=by
      cases hl:lookup t y.eff.set with
      | none=>rfl
      | some z=>exact absurd ht (o2.s1 t (by rw[hl];simp)).1
     rw[this]
     rcases hnb with hnb | hkl
     ·have hb:=g2.n1 hnb t ht
      simp only[Eff.apply,if_neg (fun e=>(o2.d1 t e).1 ht:¬y.dst=some t),this] at hb
      exact(killAll_noBad _ _ hb).symm
     ·rw[hkl];rfl
    ·have hp:lookup b y.eff.put=none:=by
      cases hl:lookup b y.eff.put with
      | none=>rfl
      | some z=>exact absurd hb (o2.p1 b (by rw[hl];simp)).1
     have hkk:b∉y.eff.kl:=fun hk=>(o2.k1 b hk).2.1 hb
     simp only[Eff.apply,hp,hkk,if_false]
     cases hs:s.b b with
     | none=>rfl
     | some z =>
      rcases hnb with hnb | hkl
      case inr=>rw[hkl,Option.map_some,killBox_id (l:=[]) (fun _=>rfl)]
      have hn:=g2.n2 hnb b hb (killBox y.eff.kl z) (by simp only[Eff.apply,hp,hkk,if_false,hs,Option.map_some])
      simp only[Option.map_some,Option.some.injEq]
      refine(killBox_id fun h0=>?_).symm
      have hn:=hn h0
      simp only[killBox,if_pos h0] at hn
      exact killAllL_noBad _ _ hn
   have hfx:Fit x s:=agree_fit g2 hag
   refine⟨agree_entry g1 hag,hfx,?_⟩
   simp only[List.cons_append]
   refine .cons _ y _ _ (agree_entry h1 (apply_agree o1 h2)) (agree_fit h2 (apply_agree o1 h2)) ?_
   rw[←apply_comm o1 o2 hfx h2];exact g3
end Evl
namespace Evl
open Go
variable {P:Program}{H:Hints}{fid:FuncId}{s u:S}{N:Nat}{w0 w w':World}{M:Nat→Prop}{V0 V V':Nat→Nat}{K K':Nat→Nat×Nat}{O O':Nat→Option Loc}{a:Act}
theorem before_bit(ops:Array Oper):(Region.before ops).size=ops.size∧∀(j:Nat) (o:Oper),ops[j]?=some o→∀i,((Region.before ops).getD j 0).testBit i=true→∃e∈o.after,Region.binds .any e=true∧(e.on=i∨(e.on<j∧((Region.before ops).getD e.on 0).testBit i=true)):=by
 let step:Array Nat→Oper→Array Nat:=fun acc o=>acc.push (o.after.foldl (fun s e=>if Region.binds .any e then s ||| 2 ^ e.on ||| acc.getD e.on 0 else s) 0)
 have key:∀(r l:List Oper),l=r.reverse→(l.foldl step #[]).size=l.length∧∀(j:Nat) (o:Oper),l[j]?=some o→∀i,((l.foldl step #[]).getD j 0).testBit i=true→∃e∈o.after,Region.binds .any e=true∧(e.on=i∨(e.on<j∧((l.foldl step #[]).getD e.on 0).testBit i=true)):=by
  intro r
  induction r with
  | nil=>intro l hl;subst hl;exact⟨rfl,by simp⟩
  | cons o r ih =>
   intro l0 hl0
   rw[List.reverse_cons] at hl0
   subst hl0
   have ih:=ih r.reverse rfl
   generalize r.reverse=l at ih ⊢
   rw[List.foldl_append]
   simp only[List.foldl_cons,List.foldl_nil]
   generalize hB:l.foldl step #[]=B at ih ⊢
   obtain⟨ih1,ih2⟩:=ih
   have hget:∀k,k<l.length→(step B o).getD k 0=B.getD k 0:=fun k hk=>by
    simp only[step,Array.getD_eq_getD_getElem?,Array.getElem?_push]
    rw[if_neg (by omega)]
   refine⟨by simp[step,ih1],fun j o' hj i hb=>?_⟩
   by_cases hjl:j<l.length
   ·rw[List.getElem?_append_left hjl] at hj
    rw[hget j hjl] at hb
    obtain⟨e,h1,h2,h3⟩:=ih2 j o' hj i hb
    refine⟨e,h1,h2,h3.imp id fun h=>⟨h.1,?_⟩⟩
    rw[hget e.on (by omega)];exact h.2
   ·have hj':j=l.length:=by
     have:=(List.getElem?_eq_some_iff.1 hj).1
     simp at this;omega
    subst hj'
    rw[List.getElem?_append_right (Nat.le_refl _)] at hj
    simp at hj;subst hj
    have hb':(o.after.foldl (fun s e=>if Region.binds .any e then s ||| 2 ^ e.on ||| B.getD e.on 0 else s) 0).testBit i=true:=by
     simp only[step,Array.getD_eq_getD_getElem?,Array.getElem?_push,ih1,if_true,Option.getD_some] at hb ⊢
     exact hb
    have fold:∀(es:List Edge) (n:Nat),(es.foldl (fun s e=>if Region.binds .any e then s ||| 2 ^ e.on ||| B.getD e.on 0 else s) n).testBit i=true→n.testBit i=true∨∃e∈es,Region.binds .any e=true∧(e.on=i∨(B.getD e.on 0).testBit i=true):=by
     intro es
     induction es with
     | nil=>intro n h;exact .inl h
     | cons e es ih =>
      intro n h
      simp only[List.foldl_cons] at h
      rcases ih _ h with h | ⟨e',h1,h2,h3⟩
      ·split at h
       ·rename_i hbd
        simp only[Nat.testBit_or,Bool.or_eq_true] at h
        rcases h with (h | h) | h
        ·exact .inl h
        ·refine .inr ⟨e,by simp,hbd,.inl ?_⟩
         rw[Nat.testBit_two_pow] at h;simpa using h
        ·exact .inr ⟨e,by simp,hbd,.inr h⟩
       ·exact .inl h
      ·exact .inr ⟨e',by simp[h1],h2,h3⟩
    rw[←Array.foldl_toList] at hb'
    rcases fold _ _ hb' with h | ⟨e,h1,h2,h3⟩
    ·simp at h
    ·refine⟨e,by simpa using h1,h2,?_⟩
     rcases h3 with h3 | h3
     ·exact .inl h3
     ·by_cases he:e.on<l.length
      ·exact .inr ⟨he,by rw[hget _ he];exact h3⟩
      ·rw[Array.getD_eq_getD_getElem?,Array.getElem?_eq_none (by omega)] at h3;simp at h3
 have:=key ops.toList.reverse ops.toList (by simp)
 have e:ops.toList.foldl step #[]=Region.before ops:=by
  unfold Region.before
  rw[←Array.foldl_toList]
 rw[e] at this
 exact⟨by simpa using this.1,fun j o hj=>this.2 j o (by simpa using hj)⟩
def Closed(ops:Array Oper)(listed:Array Bool):Prop:=∀k,listed.getD k false=true→∀o,ops[k]?=some o→∀e∈o.after,Region.binds .any e=true→listed.getD e.on false=true
theorem before_listed{ops:Array Oper}{listed:Array Bool}(hc:Closed ops listed):∀(j:Nat) (o:Oper),ops[j]?=some o→(∀e∈o.after,Region.binds .any e=true→listed.getD e.on false=true)→∀i,((Region.before ops).getD j 0).testBit i=true→listed.getD i false=true:=by
 intro j
 induction j using Nat.strongRecOn with
 | ind j ih =>
  intro o ho hr i hb
  obtain⟨e,h1,h2,h3⟩:=(before_bit ops).2 j o ho i hb
  have hl:=hr e h1 h2
  rcases h3 with rfl | ⟨h3,h4⟩
  ·exact hl
  ·cases hoe:ops[e.on]? with
   | none =>
    rw[Array.getD_eq_getD_getElem?,Array.getElem?_eq_none (by rw[(before_bit ops).1];exact Array.getElem?_eq_none_iff.1 hoe)] at h4
    simp at h4
   | some o'=>exact ih e.on h3 o' hoe (fun e' h1 h2=>hc e.on hl o' hoe e' h1 h2) i h4
theorem first_of{α:Type}(p:α→Prop):∀l:List α,(∃x∈l,p x)→∃pre x post,l=pre++x::post∧p x∧∀y∈pre,¬p y:=by
 intro l
 induction l with
 | nil=>rintro⟨x,hx,-⟩;cases hx
 | cons z l ih =>
  rintro⟨x,hx,hp⟩
  by_cases hz:p z
  ·exact⟨[],z,l,rfl,hz,by simp⟩
  ·rcases List.mem_cons.1 hx with rfl | hx
   ·exact absurd hp hz
   ·obtain⟨pre,y,post,rfl,h1,h2⟩:=ih ⟨x,hx,hp⟩
    refine⟨z::pre,y,post,rfl,h1,fun u hu=>?_⟩
    rcases List.mem_cons.1 hu with rfl | hu
    ·exact hz
    ·exact h2 u hu
theorem part_run{ops:Array Oper}{i:Nat}{C:Act→World→Prop}(hp:partOk ops i=true)(h:wpOp P ops (fun _ _ _=>False) i C a w) :
  ∃o d v,ops[i]?=some o∧o.dst=some d∧Yields P ops o v a∧C (a.put o.dst v) w:=by
 unfold partOk at hp
 simp only[Bool.and_eq_true] at hp
 obtain⟨-,hp⟩:=hp
 split at hp
 ·rename_i o ho
  simp only[Bool.and_eq_true] at hp
  obtain⟨hp,-⟩:=hp
  split at hp
  ·rename_i t k d h1 h2 h3
   have hw:Region.wanted o (yielded ops a.tmps)=true:=by unfold Region.wanted;rw[h2]
   unfold wpOp at h
   simp only[ho,hw,if_true] at h
   rcases h with h | ⟨-,x,y,hf⟩
   ·unfold Oper.wp at h
    have run:∀w,(execOp a.eval o).run P w=(do let v ←Instr.extract (a.eval (.tmp t)) k;pure (.value v):Sem Go.Next).run P w:=fun w=>by simp only[execOp,h1]
    have cases_:(∃v,∀w,(execOp a.eval o).run P w=.ok (.value v) w)∨∃e,∀w,(execOp a.eval o).run P w=.halt e w∧∀v,e≠.panic v:=by
     simp only[run,Instr.extract]
     split
     ·split
      ·exact .inl ⟨_,fun w=>rfl⟩
      ·exact .inr ⟨_,fun w=>⟨rfl,fun v e=>by cases e⟩⟩
     ·exact .inr ⟨_,fun w=>⟨rfl,fun v e=>by cases e⟩⟩
    rcases cases_ with ⟨v,hv⟩ | ⟨e,he⟩
    ·rw[hv w] at h
     exact⟨o,d,v,ho,h3,.inl ⟨hw,hv⟩,h⟩
    ·rw[(he w).1] at h
     cases e <;> first | exact h.elim | exact absurd rfl ((he w).2 _)
   ·exact hf.elim
  ·cases hp
 ·cases hp
theorem any_wp{G:GP}{ops:Array Oper}{lg0:List LogE}(hok:drawOk ops lg0=true)(hdst:∀x∈lg0,∀d,x.dst=some d→d<N):∀(L:List LogE) (s s':S) (listed:Array Bool),Link P G ops s L s'→(∀x∈L,x∈lg0)→(L.map (·.i)).Pairwise (·<·)→listed.size=ops.size→(∀k,k<ops.size→(listed.getD k false=false↔k∈L.map (·.i)))→(∀x∈L,x.i<ops.size)→Closed ops listed →
  ∀{w0 M V0 V K O a w},G M V0 w0→RelG N w0 M V0 K V O s a w→∀(Q:Exit→Act→World→Prop),(∀c a w,¬Q (.panic c) a w)→(∀a' w' K' V' O',RelG N w0 M V0 K' V' O' s' a' w'→(∀b,1000≤b→K' b=K b)→Q .normal a' w')→wpAny P .any ops Q L.length listed a w:=by
 unfold drawOk at hok
 simp only[Bool.and_eq_true] at hok
 obtain⟨hedge,hpair⟩:=hok
 rw[List.all_eq_true] at hedge hpair
 have hlt:∀(j:Nat) (o:Oper),ops[j]?=some o→∀e∈o.after,Region.binds .any e=true→e.on<j:=by
  intro j o ho e he hb
  have:=hedge j (by simpa using (Array.getElem?_eq_some_iff.1 ho).1)
  rw[ho] at this
  simp only[Array.all_eq_true_iff_forall_mem,Bool.or_eq_true,Bool.not_eq_true',decide_eq_true_eq] at this
  rcases this e he with h | h
  ·rw[hb] at h;cases h
  ·exact h
 intro L
 induction hn:L.length generalizing L with
 | zero =>
  intro s s' listed hL hsub hord hsz hlist hin hcl w0 M V0 V K O a w hG R Q hQp hQ
  obtain rfl:=List.eq_nil_of_length_eq_zero hn
  cases hL
  refine⟨?_,hQ _ _ _ _ _ R fun _ _=>rfl⟩
  rw[List.eq_nil_iff_forall_not_mem]
  intro j hj
  obtain⟨h1,o,h2,h3⟩:=mem_ready.1 hj
  have hjl:=(Array.getElem?_eq_some_iff.1 h2).1
  have:listed.getD j false=false:=by
   rw[Array.getD_eq_getD_getElem?] at h1 ⊢
   rw[Array.getElem?_eq_getElem (by omega)] at h1 ⊢;simpa using h1
  have:=(hlist j hjl).1 this
  simp at this
 | succ n ih =>
  intro s s' listed hL hsub hord hsz hlist hin hcl w0 M V0 V K O a w hG R Q hQp hQ
  have hfalse:∀k,k<ops.size→listed.getD k true=listed.getD k false:=fun k hk=>by
   rw[Array.getD_eq_getD_getElem?,Array.getD_eq_getD_getElem?,Array.getElem?_eq_getElem (by omega)];rfl
  have step:∀(pre:List LogE) (x:LogE) (post:List LogE),L=pre++x::post→x.i∈Region.ready .any ops listed→(∀y∈pre,One x y∧One y x∧(x.nb=true∨y.eff.kl=[])) →
    ∀(Q1:Exit→Act→World→Prop),wpOp P ops Q1 x.i (wpAny P .any ops Q n (listed.setIfInBounds x.i true)) a w:=by
   intro pre x post hLe hi hind Q1
   subst hLe
   obtain⟨h1,o,ho,h3⟩:=mem_ready.1 hi
   have hil:=(Array.getElem?_eq_some_iff.1 ho).1
   rw[List.map_append,List.map_cons,List.pairwise_append] at hord
   obtain⟨hord1,hord2,hord3⟩:=hord
   obtain⟨g1,g2,g3⟩:=hL.first hind
   refine g1 N w0 M V0 V K O s a w hG R ⟨fun _ _=>rfl,fun _ _=>rfl⟩ (hdst x (hsub x (by simp))) Q1 _ ?_
   intro a' w' K' V' O' R' hK
   have hlen:(pre++post).length=n:=by simp at hn ⊢;omega
   refine ih (pre++post) hlen _ s' (listed.setIfInBounds x.i true) g3 (fun y hy=>hsub y ?_) ?_ (by simp[hsz]) ?_ (fun y hy=>hin y ?_) ?_ hG R' Q hQp (fun a'' w'' K'' V'' O'' R'' hK''=>hQ _ _ _ _ _ R'' fun b hb=>(hK'' b hb).trans (hK b hb))
   ·rcases List.mem_append.1 hy with h | h <;> simp[h]
   ·rw[List.map_append,List.pairwise_append]
    exact⟨hord1,(List.pairwise_cons.1 hord2).2,fun p hp q hq=>hord3 p hp q (by simp[hq])⟩
   ·intro k hk
    by_cases e:x.i=k
    ·subst e
     rw[Array.getD_eq_getD_getElem?,Array.getElem?_setIfInBounds_self_of_lt (by omega)]
     simp only[Option.getD_some,Bool.true_eq_false,false_iff,List.map_append,List.mem_append,not_or]
     constructor
     ·intro h;have:=hord3 _ h x.i (by simp);omega
     ·intro h;have:=List.rel_of_pairwise_cons hord2 h;omega
    ·rw[getD_set_ne _ e,hlist k hk]
     simp only[List.map_append,List.map_cons,List.mem_append,List.mem_cons]
     constructor
     ·rintro(h | h | h)
      ·exact .inl h
      ·exact absurd h.symm e
      ·exact .inr h
     ·rintro(h | h)
      ·exact .inl h
      ·exact .inr (.inr h)
   ·rcases List.mem_append.1 hy with h | h <;> simp[h]
   ·intro k hk o' ho' e he hb
    by_cases hek:x.i=e.on
    ·rw[←hek,Array.getD_eq_getD_getElem?,Array.getElem?_setIfInBounds_self_of_lt (by omega)];rfl
    ·rw[getD_set_ne _ hek]
     by_cases e':x.i=k
     ·subst e'
      rw[ho] at ho';cases ho'
      exact h3 e he hb
     ·rw[getD_set_ne _ e'] at hk
      exact hcl k hk o' ho' e he hb
  have ind:∀(pre:List LogE) (x:LogE) (post:List LogE),L=pre++x::post→x.i∈Region.ready .any ops listed→(∀y∈pre,y.i∈Region.ready .any ops listed→partOk ops y.i=true→partOk ops x.i=true→False)→∀y∈pre,One x y∧One y x∧(x.nb=true∨y.eff.kl=[]):=by
   intro pre x post hLe hi hno y hy
   subst hLe
   obtain⟨h1,o,ho,h3⟩:=mem_ready.1 hi
   rw[List.map_append,List.map_cons,List.pairwise_append] at hord
   obtain⟨hord1,hord2,hord3⟩:=hord
   have hyx:y.i<x.i:=hord3 y.i (List.mem_map_of_mem hy) x.i (by simp)
   have hyu:listed.getD y.i false=false:=(hlist y.i (hin y (by simp[hy]))).2 (by simp only[List.map_append,List.mem_append];exact .inl (List.mem_map_of_mem hy))
   have hp:=hpair y (hsub y (by simp[hy]))
   rw[List.all_eq_true] at hp
   have:=hp x (hsub x (by simp))
   simp only[Bool.or_eq_true,Bool.and_eq_true,Bool.not_eq_true',decide_eq_false_iff_not] at this
   rcases this with ((h | h) | h) | ⟨⟨h,hpy⟩,hpx⟩
   ·exact absurd hyx h
   ·exfalso
    rw[before_listed hcl x.i o ho h3 y.i h] at hyu;cases hyu
   ·simp only[indep,Bool.and_eq_true,List.isEmpty_iff] at h
    exact⟨one_of h.1.2,one_of h.1.1,h.2⟩
   ·exfalso
    refine hno y hy ?_ hpy hpx
    unfold afterSub at h
    rw[ho] at h
    split at h
    ·rename_i oy ox hoy hox
     cases hox
     rw[mem_ready]
     refine⟨by rw[hfalse y.i (hin y (by simp[hy]))];exact hyu,oy,hoy,fun e he hb=>?_⟩
     simp only[Array.all_eq_true_iff_forall_mem,Bool.or_eq_true,Bool.not_eq_true'] at h
     rcases h e he with h | h
     ·rw[hb] at h;cases h
     ·obtain⟨e',he',hb'⟩:=Array.any_eq_true'.1 h
      simp only[Bool.and_eq_true,beq_iff_eq] at hb'
      rw[←hb'.2];exact h3 e' he' hb'.1
    ·cases h
  by_cases hpart:∃x∈L,x.i∈Region.ready .any ops listed∧partOk ops x.i=true
  · -- a part of a tuple: it goes first
   obtain⟨pre,x,post,hLe,⟨hi,hpx⟩,hno⟩:=first_of _ L hpart
   have hw:=step pre x post hLe hi (ind pre x post hLe hi fun y hy h1 h2 _=>hno y hy ⟨h1,h2⟩) (fun _ _ _=>False)
   obtain⟨o,d,v,ho,hd,hy,hc⟩:=part_run hpx hw
   obtain⟨h1,o',ho',h3⟩:=mem_ready.1 hi
   rw[ho] at ho';cases ho'
   unfold partOk at hpx
   rw[ho] at hpx
   simp only[Bool.and_eq_true] at hpx
   obtain⟨hsel,-,hap⟩:=hpx
   refine wpAny_first (oi:=o) (v:=v) ho (Region.noSelect_spec hsel) (fun c a w h=>absurd h (hQp c _ _)) n listed a w (fun j oj hj hne hun hnb=>?_) hi hy hc
   have:=(List.all_eq_true.1 hap) j (by simpa using (Array.getElem?_eq_some_iff.1 hj).1)
   simp only[hj,Bool.or_eq_true,beq_iff_eq,hne,false_or] at this
   rcases this with (h | h) | h
   ·obtain⟨e,he,hb⟩:=Array.any_eq_true'.1 h
    simp only[Bool.and_eq_true,beq_iff_eq] at hb
    have hl:=h3 e he hb.1
    rw[hb.2,←hfalse j (Array.getElem?_eq_some_iff.1 hj).1,hun] at hl;cases hl
   ·obtain⟨e,he,hb⟩:=Array.any_eq_true'.1 h
    simp only[Bool.and_eq_true,beq_iff_eq] at hb
    exact absurd hb.2 (hnb e he hb.1)
   ·exact h
  refine⟨fun hempty=>?_,fun i hi=>?_⟩
  · -- the first of them is ready
   exfalso
   match L,hn with
   | x::L,hn =>
    have hx:=hin x (by simp)
    have hmem:x.i∈Region.ready .any ops listed:=by
     rw[mem_ready]
     refine⟨by rw[hfalse x.i hx];exact(hlist x.i hx).2 (by simp),ops[x.i],by simp[hx],fun e he hb=>?_⟩
     have hel:=hlt x.i ops[x.i] (by simp[hx]) e he hb
     cases hg:listed.getD e.on false with
     | true=>rfl
     | false =>
      have:=(hlist e.on (by omega)).1 hg
      simp only[List.map_cons,List.mem_cons] at this
      rcases this with h | h
      ·omega
      ·have h':x.i<e.on:=List.rel_of_pairwise_cons hord h
       omega
    rw[hempty] at hmem;cases hmem
  ·have hi':=hi
   obtain⟨h1,o,ho,h3⟩:=mem_ready.1 hi
   have hil:=(Array.getElem?_eq_some_iff.1 ho).1
   rw[hfalse i hil] at h1
   have hm:=(hlist i hil).1 h1
   obtain⟨x,hx,rfl⟩:=List.mem_map.1 hm
   obtain⟨pre,post,hLe⟩:=List.append_of_mem hx
   exact step pre x post hLe hi' (ind pre x post hLe hi' fun y hy h1 h2 _=>hpart ⟨y,by rw[hLe];simp[hy],h1,h2⟩) Q
theorem mc_draw{G:GP}(hmix:P.follows .mixedOrders=true){id:Nat}{ops:Array Oper}{s s':S}{lg:List LogE}(h:Link P G ops s lg s')(hl:lg.map (·.i)=List.range ops.size)(hdst:∀x∈lg,x.dst=(ops[x.i]?).bind (·.dst))(hok:drawOk ops lg=true):MC P G (.region id ops true) s .nor s':=by
 intro N w0 M V0 V K O a w hg hcok R Q hQ
 refine wp_mono (Q:=fun e a w=>e=.normal∧Q .normal a w) ?_ (fun e a w h=>by rw[h.1];exact h.2)
 refine wp_region_any hmix ?_
 have hlen:ops.size=lg.length:=by have:=congrArg List.length hl;simpa using this.symm
 rw[hlen]
 have hd:∀x∈lg,∀d,x.dst=some d→d<N:=fun x hx d hd=>by
  rw[hdst x hx] at hd
  simp only[codeOk,opsOk,Array.all_eq_true_iff_forall_mem] at hcok
  cases ho:ops[x.i]? with
  | none=>rw[ho] at hd;cases hd
  | some o =>
   rw[ho] at hd
   have:=hcok o (Array.mem_of_getElem? ho)
   simp only[Option.bind_some] at hd
   rw[hd] at this;simpa using this
 have R':RelG N w0 M V0 K V O s a { w with drawn:=w.drawn+1 }:=by
  have h:=R.apply (w':={ w with drawn:=w.drawn+1 }) (V':=V) (K':=K) (O':=O) ({ val:=.bad }:Eff) none undef (fun d e=>by cases e) ⟨fun _ _ _=>rfl,fun _=>Nat.le_refl _,Nat.le_refl _⟩ (fun _ _=>rfl) (fun g l hl _ _=>⟨rfl,rfl,hl⟩) (fun t x _ hl=>by simp[lookup] at hl) (fun d e=>by cases e) (fun b x hl=>by simp[lookup] at hl) R.rg R.vr ⟨R.fr.os,R.fr.tape,R.fr.output,R.fr.sz,R.fr.old,Nat.le_succ_of_le R.fr.dr⟩ (fun _ _ _=>rfl)
  have e1:({ val:=.bad }:Eff).apply none s=s:=by
   have ht:∀i,(({ val:=.bad }:Eff).apply none s).t i=s.t i:=fun i=>by simp[Eff.apply,lookup,killAll]
   have hb:∀i,(({ val:=.bad }:Eff).apply none s).b i=s.b i:=fun i=>by
    simp only[Eff.apply,lookup,List.not_mem_nil,if_false]
    cases s.b i with
    | none=>rfl
    | some z =>
     simp only[Option.map_some,killBox,killAllL]
     congr 1
     cases z
     congr 1
     split <;> rfl
   cases h1:({ val:=.bad }:Eff).apply none s with
   | mk t b =>
    cases s with
    | mk t' b' =>
     have e1:t=t':=funext fun i=>by have:=ht i;rw[h1] at this;exact this
     have e2:b=b':=funext fun i=>by have:=hb i;rw[h1] at this;exact this
     rw[e1,e2]
  rw[e1] at h;exact h
 refine any_wp hok hd lg s s' _ h (fun _ h=>h) (by rw[hl];exact List.pairwise_lt_range) (by simp[hlen]) (fun k hk=>?_) (fun x hx=>?_) ?_ hg R' _ (fun c a w h=>by cases h.1) (fun a' w' K' V' O' R' hK=>⟨rfl,hQ a' w' K' V' O' R' hK⟩)
 ·rw[hl];simp[hk,←hlen]
 ·have:x.i∈lg.map (·.i):=List.mem_map_of_mem hx
  rw[hl] at this;simpa using this
 ·intro k hk
  rw[Array.getD_eq_getD_getElem?,Array.getElem?_replicate] at hk
  split at hk <;> simp at hk
end Evl
namespace Evl
open Go
variable {P:Program}{N:Nat}{w0 w w':World}{M:Nat→Prop}{V0 V V':Nat→Nat}{K K':Nat→Nat×Nat}{O O':Nat→Option Loc}{s:S}{a:Act}{fp:List Nat}{v:Value}
theorem renI_renI(b d k:Nat):renI b d (renI b d k)=k:=by
 unfold renI
 by_cases h1:k=b
 ·subst h1;simp only[if_true]
  by_cases h2:d=k
  ·subst h2;simp
  ·simp[h2]
 ·by_cases h2:k=d
  ·subst h2;simp[h1]
  ·simp[h1,h2]
def renK (b d:Nat)(K:Nat→Nat×Nat):Nat→Nat×Nat:=fun k=>K (renI b d k)
theorem renK_at(b d k:Nat)(K:Nat→Nat×Nat):renK b d K (renI b d k)=K k:=by unfold renK;rw[renI_renI]
def renO (b d:Nat)(O:Nat→Option Loc):Nat→Option Loc:=fun g=>(O g).map fun q=>if q.1 then q else (false,renI b d q.2)
theorem Rep.ren(b d:Nat){m:Bool}{us:List Value}{cs:List AV}(h:Rep V w K m fp us cs):Rep V w (renK b d K) m fp us (renL b d cs):=by
 induction h with
 | nil=>exact .nil
 | lit hp _ ih=>exact .lit hp ih
 | nl _ ih=>exact .nl ih
 | ns _ ih=>exact .ns ih
 | on _ ih=>exact .on ih
 | sh a vs h1 h2 h3 hin _ _ ih2=>exact .sh a vs h1 h2 h3 (hin.chK (hin.noIds rfl) _) ih2
 | ow g T arr fz vs h1 h2 h3 h4 h5 h6 h7 h8 hin _ _ ih2=>exact .ow g T arr fz vs h1 h2 h3 h4 h5 h6 h7 h8 (hin.chK (hin.noIds rfl) _) ih2
 | ms c h0 h1 _ ih =>
  have:=Rep.ms (V:=V) (w:=w) (K:=renK b d K) (renI b d c) (by rw[renK_at];exact h0) h1 ih
  rw[renK_at] at this;exact this
 | mv c h0 _ ih=>exact .mv (renI b d c) (by rw[renK_at];exact h0) ih
 | bd u hu _ ih=>exact .bd u hu ih
theorem RepP.ren(b d:Nat){x:AV}(h:RepP V w K v x):RepP V w (renK b d K) v (Evl.ren b d x):=by
 cases h with
 | ptr c off =>
  have:=RepP.ptr (V:=V) (w:=w) (K:=renK b d K) (renI b d c) off
  rw[renK_at] at this;exact this
 | cptr a vs h1 h2 h3 h4 h5=>exact .cptr a vs h1 h2 h3 h4 (h5.chK (h5.noIds rfl) _)
 | bad v=>exact .bad v
theorem RepPs.ren(b d:Nat){us xs}(h:RepPs V w K us xs):RepPs V w (renK b d K) us (renL b d xs):=by
 induction h with
 | nil=>exact .nil
 | cons a _ ih=>exact .cons (a.ren b d) ih
theorem RepU.ren(b d:Nat){x:AV}(h:RepU V w K fp v x):RepU V w (renK b d K) fp v (Evl.ren b d x):=by
 cases h with
 | one h=>exact .one (by simpa [renL] using h.ren b d)
 | agg h=>exact .agg (h.ren b d)
 | p h=>exact .p (h.ren b d)
 | fnv h=>exact .fnv (h.ren b d)
theorem RepT.ren(b d:Nat){us xs}(h:RepT V w K fp us xs):RepT V w (renK b d K) fp us (renL b d xs):=by
 induction h with
 | nil=>exact .nil
 | cons a _ ih=>exact .cons (a.ren b d) ih
theorem RepV.ren(b d:Nat){x:AV}(h:RepV V w K fp v x):RepV V w (renK b d K) fp v (Evl.ren b d x):=by
 cases h with
 | u h=>exact .u (h.ren b d)
 | tup h=>exact .tup (h.ren b d)
theorem renL_len(b d:Nat):∀l:List AV,(renL b d l).length=l.length
 | []=>rfl
 | _::l=>by simp only[renL,List.length_cons,renL_len b d l]
theorem ren_rel(R:RelG N w0 M V0 K V O s a w){b d:Nat}(hb:b<1000)(hd:d<1000):RelG N w0 M V0 (renK b d K) V (renO b d O) (renS b d s) a w∧∀k,1000≤k→renK b d K k=K k:=by
 refine⟨⟨R.df,R.n,fun t=>?_,fun c y hc=>?_,fun g l hg=>?_,R.vr,R.fr,R.nx,R.vo⟩,fun k hk=>?_⟩
 ·obtain⟨fp,h1,h2,h3⟩:=R.tm t
  exact⟨fp,h1,fun g hg=>by unfold renO;rw[h2 g hg];rfl,h3.ren b d⟩
 ·simp only[renS,Option.map_eq_some_iff] at hc
  obtain⟨x,hx,rfl⟩:=hc
  have eK:renK b d K c=K (renI b d c):=rfl
  have hO:∀g,O g=some (false,renI b d c)→renO b d O g=some (false,c):=fun g hg=>by
   unfold renO;rw[hg]
   simp only[Option.map_some,Bool.false_eq_true,if_false,renI_renI]
  by_cases hz:x.sz=0
  ·rcases R.bx _ x hx with ⟨h1,h2,h3⟩ | ⟨fb,arr,T,fz,us,h1,h2,h3⟩
   ·exact absurd hz h1
   ·have e:renB b d x={ x with cs:=renL b d x.cs }:=if_pos hz
    rw[e]
    refine .inr ⟨fb,arr,T,fz,us,by rw[eK];exact h1,fun g hg=>hO g (h2 g hg),⟨by rw[eK];exact h3.hp,h3.th,h3.pre,h3.rep.ren b d,?_,h3.var,by rw[eK];exact h3.row⟩⟩
    rw[eK]
    show V (K (renI b d c)).1=if x.st=true then 0 else (renL b d x.cs).length
    rw[renL_len];exact h3.vis
  ·have e:renB b d x=x:=if_neg hz
   rw[e]
   rcases R.bx _ x hx with ⟨h1,h2,h3⟩ | ⟨fb,arr,T,fz,us,h1,h2,h3⟩
   ·exact .inl ⟨h1,h2,by rw[eK];exact h3⟩
   ·have hf:(x.sz==0)=false:=by simpa using hz
    have hr:=h3.rep
    refine .inr ⟨fb,arr,T,fz,us,by rw[eK];exact h1,fun g hg=>hO g (h2 g hg),⟨by rw[eK];exact h3.hp,h3.th,h3.pre,?_,by rw[eK];exact h3.vis,h3.var,by rw[eK];exact h3.row⟩⟩
    rw[hf] at hr ⊢
    exact hr.chK (hr.noIds rfl) _
 ·unfold renO at hg
  obtain⟨q,hq,-⟩:=Option.map_eq_some_iff.1 hg
  exact R.rg g q hq
 ·have h1:renI b d k=k:=by unfold renI;rw[if_neg (by omega),if_neg (by omega)]
  unfold renK;rw[h1]
end Evl
namespace Evl
open Go
variable {P:Program}{H:Hints}{Y:FuncId→List AV→(Nat→Option Box)→AV→(Nat→Option Box)→Prop}
def Gd (H:Hints)(f:FuncId):GP:=fun M V0 w0=>H.iv V0 w0∧(H.fl f=true→∀g,(w0.heap.size≤g∨M g)→V0 g=0)
def Mot (P:Program)(H:Hints):Judg→Prop
 | .ops fid ops l s s' lg=>Link P (Gd H fid) ops s lg s'∧lg.map (·.i)=l∧∀x∈lg,x.dst=(ops[x.i]?).bind (·.dst)
 | .code fid c s x s'=>MC P (Gd H fid) c s x s'∧∀a,c=.loop a→LoopOk P (Gd H fid) a s x s'
 | .call f args bx r bx' => CallOk P (Gd H f) f args bx r bx' ∧ ∃ fn c, P.funcs[f]? = some fn ∧ fn.body = some c ∧ (fn.name == "runtime.NumGoroutine") = false
theorem entry_call{H:Hints}{fid:FuncId}(hI:∀V V' w w',Next V V' w w'→H.iv V w→H.iv V' w'){ops:Array Oper}{i:Nat}{o:Oper}{s:S}{e:Eff}{f:FuncId}{xs:List Operand}{caps caps':List AV}{p:Prep}{r:AV}{bx':Nat→Option Box}{fn:Func}{c:Code}(ho:ops[i]?=some o)(hg:gd ops o s=some true)(hcal:calleeOf o s=some (f,xs,caps))(hroc:roCaps s.b caps=some caps')(hp:prep H f s 0 xs=some p)(hcm:caps=[]∨p.mts=[])(hfl:H.fl f=false)(hC:CallOk P (Gd H f) f (p.args++caps') (bxOf s p.mts) r bx')
  (he : callE o.dst { p with tmp := leans s.b (.fnv f caps) ++ p.tmp } r bx' = some e) (hk : e.kl.all (· < 1000) = true) (hf : P.funcs[f]? = some fn) (hbody : fn.body = some c) (hname : (fn.name == "runtime.NumGoroutine") = false)   : EntryOk P (Gd H fid) ops (mkLog ops i o s e) s := by
 intro N w0 M V0 V K O u a w hgd R hag hd Q C hC'
 have hgu:gd ops o u=some true:=(gd_looks hag.1).trans hg
 have hw:=gd_wanted R hgu
 have hev:=ev_looks (o:=o) hag.1
 have hrd:e.rd=leans s.b (.fnv f caps)++p.tmp++p.kl++p.mts.map (·.2):=by
  unfold callE at he
  split at he
  ·cases he
  ·simp only[Option.ite_none_left_eq_some] at he
   obtain⟨_,he⟩:=he
   split at he
   ·simp only[Option.ite_none_right_eq_some,Option.some.injEq] at he
    obtain⟨_,rfl⟩:=he;rfl
   ·simp only[Option.ite_none_right_eq_some,Option.some.injEq] at he
    obtain⟨_,rfl⟩:=he;rfl
   ·cases he
   ·cases he;rfl
 have hb:∀k∈leans s.b (.fnv f caps)++p.tmp++p.kl++p.mts.map (·.2),u.b k=s.b k:=fun k hk=>hag.2 k (by show k∈e.rd;rw[hrd];exact hk)
 have hcal':calleeOf o u=some (f,xs,caps):=by
  rw[←hcal]
  unfold calleeOf
  split
  ·rename_i x args ats hop
   rw[hev x (by rw[hop];simp[Op.operands,Call.operands])]
  ·rfl
 have hxs:∀x∈xs,u.ev x=s.ev x:=by
  intro x hx
  unfold calleeOf at hcal
  split at hcal
  ·rename_i y args ats hop
   refine hev x ?_
   rw[hop]
   have:xs=args.toList:=by
    split at hcal
    ·simp only[Option.some.injEq,Prod.mk.injEq] at hcal;exact hcal.2.1.symm
    ·simp only[Option.some.injEq,Prod.mk.injEq] at hcal;exact hcal.2.1.symm
    ·cases hcal
   rw[this] at hx
   simp only[Op.operands,Call.operands,Array.mem_append]
   exact .inr (by simpa using hx)
  ·cases hcal
 have hp':=prep_congr (u:=u) hp hxs fun k hk=>hb k (by
  simp only[List.mem_append] at hk ⊢
  rcases hk with (hk | hk) | hk
  ·exact .inl (.inl (.inr hk))
  ·exact .inl (.inr hk)
  ·exact .inr hk)
 have hids:∀k∈ids (.fnv f caps),u.b k=s.b k:=fun k hk=>hb k (by simp only[leans,List.mem_append];exact .inl (.inl (.inl (.inl hk))))
 have hroc':roCaps u.b caps=some caps':=roCaps_congr hroc (by simpa [ids] using hids) (fun k hk=>hb k (by simp only[leans,List.mem_append];exact .inl (.inl (.inl (.inr hk)))))
 have hle:leans u.b (.fnv f caps)=leans s.b (.fnv f caps):=leans_congr hids
 have hbx:bxOf u p.mts=bxOf s p.mts:=bxOf_congr fun k hk=>hb k (by simp only[List.mem_append];exact .inr hk)
 show wpOp P ops Q i C a w
 unfold wpOp
 rw[ho]
 simp only[hw,if_true]
 exact .inl (call_step (G:=Gd H f) (fun M' V' n _=>⟨hI _ _ _ _ n hgd.1,fun e=>by rw[hfl] at e;cases e⟩) R o hd hcal' hroc' hp' hcm (by rw[hbx];exact hC) (by rw[hle];exact he) hk hf hbody hname Q C hC')
theorem entry_callf{H:Hints}{fid:FuncId}(hI:∀V V' w w',Next V V' w w'→H.iv V w→H.iv V' w'){ops:Array Oper}{i:Nat}{o:Oper}{s:S}{e:Eff}{f:FuncId}{xs:List Operand}{caps caps':List AV}{p:Prep}{r:AV}{bx':Nat→Option Box}{fn:Func}{c:Code}(ho:ops[i]?=some o)(hg:gd ops o s=some true)(hcal:calleeOf o s=some (f,xs,caps))(hroc:roCaps s.b caps=some caps')(hp:prep H f s 0 xs=some p)(hcm:caps=[]∨p.mts=[])(hcp:callPlain s p=true)(hC:CallOk P (Gd H f) f (p.args++caps') (bxOf s p.mts) r bx')
  (he : callE o.dst { p with tmp := leans s.b (.fnv f caps) ++ p.tmp } r bx' = some e) (hk : e.kl.all (· < 1000) = true) (hf : P.funcs[f]? = some fn) (hbody : fn.body = some c) (hname : (fn.name == "runtime.NumGoroutine") = false)   : EntryOk P (Gd H fid) ops (mkLog ops i o s e) s := by
 intro N w0 M V0 V K O u a w hgd R hag hd Q C hC'
 have hgu:gd ops o u=some true:=(gd_looks hag.1).trans hg
 have hw:=gd_wanted R hgu
 have hev:=ev_looks (o:=o) hag.1
 have hrd:e.rd=leans s.b (.fnv f caps)++p.tmp++p.kl++p.mts.map (·.2):=by
  unfold callE at he
  split at he
  ·cases he
  ·simp only[Option.ite_none_left_eq_some] at he
   obtain⟨_,he⟩:=he
   split at he
   ·simp only[Option.ite_none_right_eq_some,Option.some.injEq] at he
    obtain⟨_,rfl⟩:=he;rfl
   ·simp only[Option.ite_none_right_eq_some,Option.some.injEq] at he
    obtain⟨_,rfl⟩:=he;rfl
   ·cases he
   ·cases he;rfl
 have hb:∀k∈leans s.b (.fnv f caps)++p.tmp++p.kl++p.mts.map (·.2),u.b k=s.b k:=fun k hk=>hag.2 k (by show k∈e.rd;rw[hrd];exact hk)
 have hcal':calleeOf o u=some (f,xs,caps):=by
  rw[←hcal]
  unfold calleeOf
  split
  ·rename_i x args ats hop
   rw[hev x (by rw[hop];simp[Op.operands,Call.operands])]
  ·rfl
 have hxs:∀x∈xs,u.ev x=s.ev x:=by
  intro x hx
  unfold calleeOf at hcal
  split at hcal
  ·rename_i y args ats hop
   refine hev x ?_
   rw[hop]
   have:xs=args.toList:=by
    split at hcal
    ·simp only[Option.some.injEq,Prod.mk.injEq] at hcal;exact hcal.2.1.symm
    ·simp only[Option.some.injEq,Prod.mk.injEq] at hcal;exact hcal.2.1.symm
    ·cases hcal
   rw[this] at hx
   simp only[Op.operands,Call.operands,Array.mem_append]
   exact .inr (by simpa using hx)
  ·cases hcal
 have hp':=prep_congr (u:=u) hp hxs fun k hk=>hb k (by
  simp only[List.mem_append] at hk ⊢
  rcases hk with (hk | hk) | hk
  ·exact .inl (.inl (.inr hk))
  ·exact .inl (.inr hk)
  ·exact .inr hk)
 have hids:∀k∈ids (.fnv f caps),u.b k=s.b k:=fun k hk=>hb k (by simp only[leans,List.mem_append];exact .inl (.inl (.inl (.inl hk))))
 have hroc':roCaps u.b caps=some caps':=roCaps_congr hroc (by simpa [ids] using hids) (fun k hk=>hb k (by simp only[leans,List.mem_append];exact .inl (.inl (.inl (.inr hk)))))
 have hle:leans u.b (.fnv f caps)=leans s.b (.fnv f caps):=leans_congr hids
 have hcpu:callPlain u p=true:=by
  unfold callPlain at hcp ⊢
  simp only[Bool.and_eq_true,List.all_eq_true] at hcp ⊢
  refine⟨hcp.1,fun q hq=>?_⟩
  rw[hb q.2 (by simp only[List.mem_append];exact .inr (List.mem_map.2 ⟨q,hq,rfl⟩))]
  exact hcp.2 q hq
 have hbx:bxOf u p.mts=bxOf s p.mts:=bxOf_congr fun k hk=>hb k (by simp only[List.mem_append];exact .inr hk)
 show wpOp P ops Q i C a w
 unfold wpOp
 rw[ho]
 simp only[hw,if_true]
 exact .inl (call_step (G:=Gd H f) (fun M' V' n h0=>⟨hI _ _ _ _ n hgd.1,fun _=>h0 hcpu⟩) R o hd hcal' hroc' hp' hcm (by rw[hbx];exact hC) (by rw[hle];exact he) hk hf hbody hname Q C hC')
section
variable {V:Nat→Nat}{w:World}{K:Nat→Nat×Nat}{fp:List Nat}{v:Value}
theorem wkC_rep{m:Bool}{u:Value}{x y:AV}(h:Rep V w K m fp [u] [x])(hw:WkC x y):∃fq,fq.Sublist fp∧Rep V w K m fq [u] [y]:=by
 rcases hw with rfl | rfl | rfl | ⟨rfl,oo,z,rfl⟩
 ·exact⟨fp,List.Sublist.refl _,h⟩
 ·exact⟨[],List.nil_sublist _,.bd u (h.oc u (by simp)) .nil⟩
 ·exact⟨[],List.nil_sublist _,h.share⟩
 ·cases h with
  | nl h=>cases h;cases oo;exact⟨[],List.Sublist.refl _,.ns .nil⟩;exact⟨[],List.Sublist.refl _,.on .nil⟩
theorem wkCs_rep{m:Bool}:∀{cs ds:List AV} {us:List Value} {fp:List Nat},Rep V w K m fp us cs→WkCs cs ds→∃fq,fq.Sublist fp∧Rep V w K m fq us ds:=by
 intro cs
 induction cs with
 | nil =>
  intro ds us fp h hw
  cases ds with
  | nil=>exact⟨fp,List.Sublist.refl _,h⟩
  | cons d ds=>exact hw.elim
 | cons c cs ih =>
  intro ds us fp h hw
  cases ds with
  | nil=>exact hw.elim
  | cons d ds =>
   obtain⟨f1,f2,u1,u2,rfl,rfl,r1,r2⟩:=Rep.split [c] (cs₂:=cs) (by simpa using h)
   obtain⟨u,rfl⟩:∃u,u1=[u]:=by
    have:=r1.len
    match u1,this with
    | [u],_=>exact⟨u,rfl⟩
   obtain⟨g1,s1,a1⟩:=wkC_rep r1 hw.1
   obtain⟨g2,s2,a2⟩:=ih r2 hw.2
   exact⟨g1++g2,s1.append s2,a1.app a2⟩
theorem wkU_rep{x y:AV}(h:RepU V w K fp v x)(hw:WkU x y):∃fq,fq.Sublist fp∧RepU V w K fq v y:=by
 rcases hw with hw | ⟨cs,ds,rfl,rfl,hw⟩
 ·rcases hw with rfl | rfl | rfl | ⟨rfl,oo,z,rfl⟩
  ·exact⟨fp,List.Sublist.refl _,h⟩
  ·exact⟨[],List.nil_sublist _,.p (.bad v)⟩
  ·exact⟨[],List.nil_sublist _,share_one h⟩
  ·cases h with
   | one h =>
    cases h with
    | nl h=>cases h;cases oo;exact⟨[],List.Sublist.refl _,.one (.ns .nil)⟩;exact⟨[],List.Sublist.refl _,.one (.on .nil)⟩
   | p h=>cases h
 ·cases h with
  | one h=>cases h
  | agg h =>
   obtain⟨fq,s1,a1⟩:=wkCs_rep h hw
   exact⟨fq,s1,.agg a1⟩
  | p h=>cases h
theorem wkT_rep:∀{cs ds:List AV} {us:List Value} {fp:List Nat},RepT V w K fp us cs→WkT cs ds→∃fq,fq.Sublist fp∧RepT V w K fq us ds:=by
 intro cs
 induction cs with
 | nil =>
  intro ds us fp h hw
  cases ds with
  | nil=>exact⟨fp,List.Sublist.refl _,h⟩
  | cons d ds=>exact hw.elim
 | cons c cs ih =>
  intro ds us fp h hw
  cases ds with
  | nil=>exact hw.elim
  | cons d ds =>
   cases h with
   | cons a b =>
    obtain⟨g1,s1,a1⟩:=wkU_rep a hw.1
    obtain⟨g2,s2,a2⟩:=ih b hw.2
    exact⟨g1++g2,s1.append s2,.cons a1 a2⟩
theorem wkV_rep{x y:AV}(h:RepV V w K fp v x)(hw:WkV x y):∃fq,fq.Sublist fp∧RepV V w K fq v y:=by
 rcases hw with hw | ⟨cs,ds,rfl,rfl,hw⟩
 ·cases h with
  | u h=>obtain⟨fq,s1,a1⟩:=wkU_rep h hw;exact⟨fq,s1,.u a1⟩
  | tup h =>
   rcases hw with hw | ⟨cs,ds,e,rfl,hw⟩
   ·rcases hw with rfl | rfl | rfl | ⟨e,oo,z,rfl⟩
    ·exact⟨fp,List.Sublist.refl _,.tup h⟩
    ·exact⟨[],List.nil_sublist _,.bad _⟩
    ·exact⟨[],List.nil_sublist _,by simp only[Evl.share];exact .tup h.share⟩
    ·cases e
   ·cases e
 ·obtain⟨us,rfl,hr⟩:=inv_tup h
  obtain⟨fq,s1,a1⟩:=wkT_rep hr hw
  exact⟨fq,s1,.tup a1⟩
theorem wkCs_len:∀{cs ds:List AV},WkCs cs ds→cs.length=ds.length:=by
 intro cs
 induction cs with
 | nil=>intro ds h;cases ds with | nil=>rfl | cons d ds=>exact h.elim
 | cons c cs ih=>intro ds h;cases ds with | nil=>exact h.elim | cons d ds=>simp[ih h.2]
theorem wkS_rel{N:Nat}{w0:World}{M:Nat→Prop}{V0:Nat→Nat}{O:Nat→Option Loc}{s u:S}{a:Act}(R:RelG N w0 M V0 K V O s a w)(h:WkS s u):RelG N w0 M V0 K V O u a w:=by
 refine⟨R.df,R.n,fun t=>?_,fun b y hb=>?_,R.rg,R.vr,R.fr,R.nx,R.vo⟩
 ·obtain⟨fp,h1,h2,h3⟩:=R.tm t
  obtain⟨fq,s1,a1⟩:=wkV_rep h3 (h.1 t)
  exact⟨fq,h1.sublist s1,fun g hg=>h2 g (s1.subset hg),a1⟩
 ·obtain⟨x,hx,e1,e2,hw⟩:=h.2 b y hb
  rcases R.bx b x hx with ⟨z1,z2,z3⟩ | ⟨fb,arr,T,fz,us,h1,h2,h3⟩
  ·refine .inl ⟨by rw[e2];exact z1,?_,z3⟩
   have:=wkCs_len hw
   rw[z2] at this;exact List.eq_nil_of_length_eq_zero this.symm
  obtain⟨fq,s1,a1⟩:=wkCs_rep h3.rep hw
  have hl:=wkCs_len hw
  refine .inr ⟨fq,arr,T,fz,us,h1.sublist (s1.cons_cons _),fun g hg=>h2 g ?_,⟨h3.hp,h3.th,h3.pre,by rw[e2];exact a1,by rw[e1,←hl];exact h3.vis,fun hz=>by rw[e1];exact h3.var (e2 ▸ hz),fun hz=>by rw[e2];exact h3.row (fun e=>hz (e2.trans e))⟩⟩
  rcases List.mem_cons.1 hg with rfl | hg
  ·simp
  ·exact List.mem_cons_of_mem _ (s1.subset hg)
end
section
variable {N:Nat}{w0 w:World}{M:Nat→Prop}{V0 V:Nat→Nat}{K:Nat→Nat×Nat}{O:Nat→Option Loc}{s:S}{a:Act}
theorem put_same(a:Act)(i:Nat)(h:i<a.tmps.size):a.put (some i) (a.tmps.getD i undef)=a:=by
 obtain⟨t,ds⟩:=a
 simp only[Act.put]
 congr 1
 apply Array.ext_getElem?
 intro j
 rw[Array.getElem?_setIfInBounds]
 split
 ·rename_i e;subst e
  simp only at h
  simp[h,Array.getD_eq_getD_getElem?]
 ·rfl
theorem virt_rel(R:RelG N w0 M V0 K V O s a w){i b sz:Nat}(hi:s.t i=.nil)(hb:b<1000)(hsz:sz≠0):∃K',RelG N w0 M V0 K' V O (virtS i b sz s) a w∧∀k,1000≤k→K' k=K k:=by
 let K':Nat→Nat×Nat:=fun k=>if k=b then (0,0) else K k
 have hKd:(K' b).2=0:=by simp[K']
 have hK:∀k,k∉[b]→K' k=K k:=fun k hk=>by simp at hk;simp[K',hk]
 obtain⟨fp,h1,h2,h3⟩:=R.tm i
 rw[hi] at h3
 obtain⟨hv,-⟩:=inv_nil h3
 have hlt:i<a.tmps.size:=by
  rcases Nat.lt_or_ge i a.tmps.size with h | h
  ·exact h
  ·rw[Array.getD_eq_getD_getElem?,Array.getElem?_eq_none h] at hv;simp[undef] at hv
 have:=R.apply (w':=w) (V':=V) (K':=K') (O':=O) ({ val:=.msl b 0,kl:=[b],put:=[(b,⟨true,sz,[]⟩)] }:Eff) (some i) (a.tmps.getD i undef) (fun d e=>by cases e;rw[←R.n];exact hlt) (Next.refl V w) hK (fun g l hl _ _=>⟨rfl,rfl,hl⟩) (fun t x _ hl=>by simp[lookup] at hl) (fun d e=>by
   cases e;rw[hv]
   exact⟨[],List.nodup_nil,by simp,.u (.one (.mv b hKd .nil))⟩) (fun k x hl=>by
   simp only[lookup] at hl
   split at hl
   ·rename_i e;subst e;cases hl;exact .inl ⟨hsz,rfl,hKd⟩
   ·cases hl) R.rg R.vr R.fr (fun _ _ _=>rfl)
 rw[put_same a i hlt] at this
 exact⟨K',this,fun k hk=>by show (if k=b then _ else K k)=K k;rw[if_neg (by omega)]⟩
theorem shut_rel(R:RelG N w0 M V0 K V O s a w){b:Nat}{y:Box}(hb:s.b b=some y)(hsz:y.sz≠0):∃V',RelG N w0 M V0 K V' O (shutS b y s) a w:=by
 by_cases hre:(K b).2=0
 ·have hcs:y.cs=[]:=by
   rcases R.bx b y hb with ⟨_,h2,_⟩ | ⟨fb,arr,T,fz,us,q1,q2,q3⟩
   ·exact h2
   ·obtain⟨cap,hc,_⟩:=q3.row hsz;omega
  have:=R.apply (w':=w) (V':=V) (K':=K) (O':=O) ({ val:=.bad,put:=[(b,{ y with st:=false })] }:Eff) none undef (fun d e=>by cases e) (Next.refl V w) (fun _ _=>rfl) (fun g l hl _ _=>⟨rfl,rfl,hl⟩) (fun t x _ hl=>by simp[lookup] at hl) (fun d e=>by cases e) (fun k x hl=>by
    simp only[lookup] at hl
    split at hl
    ·rename_i e;subst e;cases hl;exact .inl ⟨hsz,hcs,hre⟩
    ·cases hl) R.rg R.vr R.fr (fun _ _ _=>rfl)
  exact⟨V,this⟩
 ·obtain⟨fb,arr,T,fz,us,h1,h2,h3⟩:=R.bxr b y hb (.inr (.inr hre))
  have hn1:=List.nodup_cons.1 h1
  have hOb:O (K b).1=some (false,b):=h2 _ List.mem_cons_self
  have hst:V (K b).1≤y.cs.length:=by
   have:=h3.vis
   rw[this]
   split
   ·exact Nat.zero_le _
   ·exact Nat.le_refl _
  have hle:∀g,V g≤(if g=(K b).1 then y.cs.length else V g):=fun g=>by
   by_cases e:g=(K b).1
   ·rw[if_pos e,e];exact hst
   ·rw[if_neg e];exact Nat.le_refl _
  have hnx:Next V (fun g=>if g=(K b).1 then y.cs.length else V g) w w:=⟨fun g off _=>rfl,hle,Nat.le_refl _⟩
  have:=R.apply (w':=w) (V':=fun g=>if g=(K b).1 then y.cs.length else V g) (K':=K) (O':=O) ({ val:=.bad,put:=[(b,{ y with st:=false })] }:Eff) none undef (fun d e=>by cases e) hnx (fun _ _=>rfl) (fun g l hl _ hb'=>by
    have hne:g≠(K b).1:=fun e=>by
     rw[e,hOb] at hl;cases hl
     have:=(hb' b rfl).1;simp[lookup] at this
    exact⟨rfl,by simp[hne],hl⟩) (fun t x _ hl=>by simp[lookup] at hl) (fun d e=>by cases e) (fun k x hl=>by
    simp only[lookup] at hl
    split at hl
    ·rename_i e;subst e;cases hl
     refine .inr ⟨fb,arr,T,fz,us,h1,h2,⟨h3.hp,h3.th,h3.pre,?_,by simp,fun e=>absurd e hsz,fun _=>h3.row hsz⟩⟩
     refine h3.rep.mono (fun g off _=>rfl) hle (Nat.le_refl _) (fun g hg=>?_) (fun _ _=>rfl)
     have hne:g≠(K b).1:=fun e=>hn1.1 (by rw[←e];exact hg)
     exact⟨rfl,by simp[hne]⟩
    ·cases hl) R.rg (fun g hg=>by
    by_cases e:g=(K b).1
    ·rw[e];exact lt_of_heap h3.hp
    ·rw[if_neg e] at hg;exact R.vr g hg) R.fr (fun g hg hm=>by
    show (if g=(K b).1 then y.cs.length else V g)=V g
    rw[if_neg ?_]
    rintro rfl
    rcases(R.rg _ _ hOb).1 with h | h
    ·omega
    ·exact hm h)
  exact⟨_,this⟩
theorem adopt_rel(R:RelG N w0 M V0 K V O s a w){i b n sz:Nat}{cs:List AV}(hi:s.t i=.sl true sz n cs)(hb:b<1000)(hsz:sz≠0):∃K' O',RelG N w0 M V0 K' V O' (adoptS i b n sz cs s) a w∧∀k,1000≤k→K' k=K k:=by
 obtain⟨fp,h1,h2,h3⟩:=R.tm i
 rw[hi] at h3
 have hlt:i<a.tmps.size:=by
  rcases Nat.lt_or_ge i a.tmps.size with h | h
  ·exact h
  ·rw[Array.getD_eq_getD_getElem?,Array.getElem?_eq_none h] at h3
   obtain⟨e,-⟩ | ⟨ad,cap,e,-⟩ | ⟨ab,ao,cap,vs,e,-⟩:=inv_sl h3 <;> simp[undef] at e
 have hone:=inv_one h3 (.inl ⟨_,_,_,_,rfl⟩)
 obtain⟨hv,rfl,rfl,rfl⟩ | ⟨g,cap,T,arr,fz,us,fq,hv,rfl,q1,q2,q3,q4,q5,q6,q7,q8,q9⟩:=rep_own hone
 ·let K':Nat→Nat×Nat:=fun k=>if k=b then (0,0) else K k
  have hKd:(K' b).2=0:=by simp[K']
  have hK:∀k,k∉[b]→K' k=K k:=fun k hk=>by simp at hk;simp[K',hk]
  have:=R.apply (w':=w) (V':=V) (K':=K') (O':=O) ({ val:=.msl b 0,kl:=[b],put:=[(b,⟨false,sz,[]⟩)] }:Eff) (some i) (a.tmps.getD i undef) (fun d e=>by cases e;rw[←R.n];exact hlt) (Next.refl V w) hK (fun g l hl _ _=>⟨rfl,rfl,hl⟩) (fun t x _ hl=>by simp[lookup] at hl) (fun d e=>by
    cases e;rw[hv]
    exact⟨[],List.nodup_nil,by simp,.u (.one (.mv b hKd .nil))⟩) (fun k x hl=>by
    simp only[lookup] at hl
    split at hl
    ·rename_i e;subst e;cases hl;exact .inl ⟨hsz,rfl,hKd⟩
    ·cases hl) R.rg R.vr R.fr (fun _ _ _=>rfl)
  rw[put_same a i hlt] at this
  exact⟨K',O,this,fun k hk=>by show (if k=b then _ else K k)=K k;rw[if_neg (by omega)]⟩
 ·let K':Nat→Nat×Nat:=fun k=>if k=b then (g,cap+1) else K k
  let O':Nat→Option Loc:=fun x=>if x∈g::fq then some (false,b) else O x
  have hKd:K' b=(g,cap+1):=by simp[K']
  have hK:∀k,k∉[b]→K' k=K k:=fun k hk=>by simp at hk;simp[K',hk]
  have hO1:∀x,x∈g::fq→O' x=some (false,b):=fun x hx=>by show (if _ then _ else _)=_;rw[if_pos hx]
  have hO2:∀x,x∉g::fq→O' x=O x:=fun x hx=>by show (if _ then _ else _)=_;rw[if_neg hx]
  have:=R.apply (w':=w) (V':=V) (K':=K') (O':=O') ({ val:=.msl b n,kl:=[b],put:=[(b,⟨false,sz,cs⟩)] }:Eff) (some i) (a.tmps.getD i undef) (fun d e=>by cases e;rw[←R.n];exact hlt) (Next.refl V w) hK (fun x l hl ht _=>⟨rfl,rfl,by
    rw[hO2 x ?_];exact hl
    intro hx
    have:=h2 x hx
    rw[this] at hl;cases hl
    exact(ht i rfl).1 rfl⟩) (fun t x _ hl=>by simp[lookup] at hl) (fun d e=>by
    cases e;rw[hv]
    refine⟨[],List.nodup_nil,by simp,?_⟩
    have:=Rep.ms (V:=V) (w:=w) (K:=K') (fp:=[]) (us:=[]) (cs:=[]) (n:=n) (cap:=cap) b (by rw[hKd]) q1 .nil
    rw[hKd] at this
    exact .u (.one this)) (fun k x hl=>by
    simp only[lookup] at hl
    split at hl
    ·rename_i e;subst e;cases hl
     have h9':=q9.chK (q9.noIds rfl) K'
     refine .inr ⟨fq,arr,T,fz,us,by rw[hKd];exact h1,by rw[hKd];exact hO1,row_ok hKd q1 q2 q3 q4 q5 q6 q7 q8 h9'⟩
    ·cases hl) (fun x l hl=>by
    by_cases hx:x∈g::fq
    ·exact R.rg x _ (h2 x hx)
    ·rw[hO2 x hx] at hl;exact R.rg x l hl) R.vr R.fr (fun _ _ _=>rfl)
  rw[put_same a i hlt] at this
  exact⟨K',O',this,fun k hk=>by show (if k=b then _ else K k)=K k;rw[if_neg (by omega)]⟩
theorem killL_app(b:Nat):∀l r:List AV,killL b (l++r)=killL b l++killL b r
 | [],_=>rfl
 | x::l,r=>by simp only[List.cons_append,killL,killL_app b l r]
theorem adoptc_rel(R:RelG N w0 M V0 K V O s a w){k:Nat}{y:Box}{j b n sz:Nat}{cs:List AV}(hk:s.b k=some y)(hj:y.cs[j]?=some (.sl true sz n cs))(hy:y.sz=0)(hkb:k≠b)(hb:b<1000)(hsz:sz≠0) :
  ∃K' O',RelG N w0 M V0 K' V O' (adoptC k y j b n sz cs s) a w∧∀k,1000≤k→K' k=K k:=by
 obtain⟨fb,arr,T,fz,us,h1,h2,h3⟩:=R.bxr k y hk (.inl hy)
 have hrep:=h3.rep
 have hzb:(y.sz==0)=true:=by simp[hy]
 rw[hzb] at hrep
 obtain⟨hjl,hjv⟩:=List.getElem?_eq_some_iff.1 hj
 have hsp:y.cs=y.cs.take j++([.sl true sz n cs]++y.cs.drop (j+1)):=by
  conv=>lhs;rw[←List.take_append_drop j y.cs]
  rw[List.drop_eq_getElem_cons hjl,hjv];rfl
 have hlt:(y.cs.take j).length=j:=by rw[List.length_take];omega
 have hkset:(killL b y.cs).set j (.msl b n)=killL b (y.cs.take j)++([.msl b n]++killL b (y.cs.drop (j+1))):=by
  conv=>lhs;rw[hsp]
  rw[killL_app,killL_app,List.set_append_right _ _ (by rw[killL_length,hlt];exact Nat.le_refl _),killL_length,hlt,Nat.sub_self];rfl
 rw[hsp] at hrep
 obtain⟨f1,f23,u1,u23,rfl,rfl,r1,r23⟩:=Rep.split (y.cs.take j) hrep
 obtain⟨f2,f3,u2,u3,rfl,rfl,r2,r3⟩:=Rep.split [.sl true sz n cs] r23
 obtain⟨v,rfl⟩:∃v,u2=[v]:=by
  have:=r2.len
  cases u2 with
  | nil=>simp at this
  | cons v u=>cases u with
   | nil=>exact⟨v,rfl⟩
   | cons _ _=>simp at this
 obtain⟨hv,rfl,rfl,rfl⟩ | ⟨g,cap,T',arr',fz',vs,fq,hv,rfl,q1,q2,q3,q4,q5,q6,q7,q8,q9⟩:=rep_own r2
 ·let K':Nat→Nat×Nat:=fun k=>if k=b then (0,0) else K k
  have hKd:(K' b).2=0:=by simp[K']
  have hKk:K' k=K k:=by simp[K',hkb]
  have hK:∀k,k∉[b]→K' k=K k:=fun k hk=>by simp at hk;simp[K',hk]
  have hK1:∀x,x≠b→K' x=K x:=fun x hx=>by simp[K',hx]
  have hset:Rep V w K' true (f1++([]++f3)) (u1++([v]++u3)) ((killL b y.cs).set j (.msl b 0)):=by
   rw[hkset,hv]
   exact(r1.kill b hK1).app ((Rep.mv b hKd .nil:Rep V w K' true [] [.slice none 0 0] [.msl b 0]).app (r3.kill b hK1))
  have:=R.apply (w':=w) (V':=V) (K':=K') (O':=O) ({ val:=.bad,kl:=[b],put:=[(b,⟨false,sz,[]⟩),(k,{ y with cs:=(killL b y.cs).set j (.msl b 0) })] }:Eff) none undef (fun d e=>by cases e) (Next.refl V w) hK (fun g l hl _ _=>⟨rfl,rfl,hl⟩) (fun t x _ hl=>by simp[lookup] at hl) (fun d e=>by cases e) (fun k' x hl=>by
    simp only[lookup] at hl
    split at hl
    ·rename_i e;subst e;cases hl;exact .inl ⟨hsz,rfl,hKd⟩
    ·split at hl
     ·rename_i e;subst e;cases hl
      refine .inr ⟨f1++([]++f3),arr,T,fz,u1++([v]++u3),by rw[hKk];exact h1,by rw[hKk];exact h2,⟨by rw[hKk];exact h3.hp,h3.th,h3.pre,?_,?_,h3.var,by rw[hKk];exact h3.row⟩⟩
      ·show Rep _ _ _ (y.sz==0) _ _ _
       rw[hzb];exact hset
      ·rw[hKk,h3.vis];simp[killL_length]
     ·cases hl) R.rg R.vr R.fr (fun _ _ _=>rfl)
  exact⟨K',O,this,fun k hk=>by show (if k=b then _ else K k)=K k;rw[if_neg (by omega)]⟩
 ·let K':Nat→Nat×Nat:=fun k=>if k=b then (g,cap+1) else K k
  let O':Nat→Option Loc:=fun x=>if x∈g::fq then some (false,b) else O x
  have hKd:K' b=(g,cap+1):=by simp[K']
  have hKk:K' k=K k:=by simp[K',hkb]
  have hK:∀k,k∉[b]→K' k=K k:=fun k hk=>by simp at hk;simp[K',hk]
  have hK1:∀x,x≠b→K' x=K x:=fun x hx=>by simp[K',hx]
  have hO1:∀x,x∈g::fq→O' x=some (false,b):=fun x hx=>by show (if _ then _ else _)=_;rw[if_pos hx]
  have hO2:∀x,x∉g::fq→O' x=O x:=fun x hx=>by show (if _ then _ else _)=_;rw[if_neg hx]
  have hms:Rep V w K' true [] [v] [.msl b n]:=by
   have:=Rep.ms (V:=V) (w:=w) (K:=K') (fp:=[]) (us:=[]) (cs:=[]) (n:=n) (cap:=cap) b (by rw[hKd]) q1 .nil
   rw[hKd] at this
   rw[hv];exact this
  have hset:Rep V w K' true (f1++([]++f3)) (u1++([v]++u3)) ((killL b y.cs).set j (.msl b n)):=by
   rw[hkset]
   exact(r1.kill b hK1).app (hms.app (r3.kill b hK1))
  have hnd:((K k).1::(f1++(g::fq++f3))).Nodup:=h1
  have hfq:(g::fq).Nodup:=by
   have:=(List.nodup_cons.1 hnd).2
   exact((List.nodup_append.1 ((List.nodup_append.1 this).2.1)).1)
  have hrest:((K k).1::(f1++([]++f3))).Sublist ((K k).1::(f1++(g::fq++f3))) :=
   ((List.Sublist.refl f1).append ((List.nil_sublist (g::fq)).append (List.Sublist.refl f3))).cons_cons _
  have hout:∀x∈(K k).1::(f1++([]++f3)),x∉g::fq:=fun x hx hg=>by
   obtain⟨n1,n2⟩:=List.nodup_cons.1 hnd
   obtain⟨n3,n4,n5⟩:=List.nodup_append.1 n2
   obtain⟨n6,n7,n8⟩:=List.nodup_append.1 n4
   rcases List.mem_cons.1 hx with e | hx
   ·exact n1 (by rw[←e];exact List.mem_append_right _ (List.mem_append_left _ hg))
   ·rcases List.mem_append.1 hx with hx | hx
    ·exact n5 x hx x (List.mem_append_left _ hg) rfl
    ·exact n8 x hg x (by simpa using hx) rfl
  have hgk:∀x∈g::fq,O x=some (false,k):=fun x hx=>h2 x (List.mem_cons_of_mem _ (List.mem_append_right _ (List.mem_append_left _ hx)))
  have:=R.apply (w':=w) (V':=V) (K':=K') (O':=O') ({ val:=.bad,kl:=[b],put:=[(b,⟨false,sz,cs⟩),(k,{ y with cs:=(killL b y.cs).set j (.msl b n) })] }:Eff) none undef (fun d e=>by cases e) (Next.refl V w) hK (fun x l hl _ hb'=>⟨rfl,rfl,by
    rw[hO2 x ?_];exact hl
    intro hx
    have:=hgk x hx
    rw[this] at hl;cases hl
    have:=(hb' k rfl).1
    simp[lookup,Ne.symm hkb] at this⟩) (fun t x _ hl=>by simp[lookup] at hl) (fun d e=>by cases e) (fun k' x hl=>by
    simp only[lookup] at hl
    split at hl
    ·rename_i e;subst e;cases hl
     have h9':=q9.chK (q9.noIds rfl) K'
     exact .inr ⟨fq,arr',T',fz',vs,by rw[hKd];exact hfq,by rw[hKd];exact hO1,row_ok hKd q1 q2 q3 q4 q5 q6 q7 q8 h9'⟩
    ·split at hl
     ·rename_i e;subst e;cases hl
      refine .inr ⟨f1++([]++f3),arr,T,fz,u1++([v]++u3),by rw[hKk];exact hrest.nodup hnd,by
       rw[hKk];intro x hx;rw[hO2 x (hout x hx)];exact h2 x (hrest.subset hx),⟨by rw[hKk];exact h3.hp,h3.th,h3.pre,?_,?_,h3.var,by rw[hKk];exact h3.row⟩⟩
      ·show Rep _ _ _ (y.sz==0) _ _ _
       rw[hzb];exact hset
      ·rw[hKk,h3.vis];simp[killL_length]
     ·cases hl) (fun x l hl=>by
    by_cases hx:x∈g::fq
    ·exact R.rg x _ (hgk x hx)
    ·rw[hO2 x hx] at hl;exact R.rg x l hl) R.vr R.fr (fun _ _ _=>rfl)
  exact⟨K',O',this,fun k hk=>by show (if k=b then _ else K k)=K k;rw[if_neg (by omega)]⟩
theorem virtc_rel(R:RelG N w0 M V0 K V O s a w){k:Nat}{y:Box}{j b sz:Nat}(hk:s.b k=some y)(hj:y.cs[j]?=some .nil)(hy:y.sz=0)(hkb:k≠b)(hb:b<1000)(hsz:sz≠0):∃K',RelG N w0 M V0 K' V O (virtC k y j b sz s) a w∧∀k,1000≤k→K' k=K k:=by
 let K':Nat→Nat×Nat:=fun k=>if k=b then (0,0) else K k
 have hKd:(K' b).2=0:=by simp[K']
 have hKk:K' k=K k:=by simp[K',hkb]
 have hK:∀k,k∉[b]→K' k=K k:=fun k hk=>by simp at hk;simp[K',hk]
 obtain⟨fb,arr,T,fz,us,h1,h2,h3⟩:=R.bxr k y hk (.inl hy)
 have hrep:=h3.rep
 have hzb:(y.sz==0)=true:=by simp[hy]
 rw[hzb] at hrep
 have hkill:=hrep.kill b (K':=K') (fun x hx=>by simp[K',hx])
 have hjl:=(List.getElem?_eq_some_iff.1 hj).1
 have hset:Rep V w K' true fb us ((killL b y.cs).set j (.msl b 0)):=by
  have hkj:(killL b y.cs)[j]?=some .nil:=by
   have:∀(l:List AV) (j:Nat),l[j]?=some .nil→(killL b l)[j]?=some .nil:=by
    intro l;induction l with
    | nil=>intro j h;simp at h
    | cons c l ih=>intro j h;cases j with
     | zero=>simp only[List.getElem?_cons_zero,Option.some.injEq] at h;subst h;rfl
     | succ j=>simpa [killL] using ih j (by simpa using h)
   exact this _ _ hj
  have:∀(l:List AV) (j:Nat) (us:List Value) (fp:List Nat),Rep V w K' true fp us l→l[j]?=some .nil→Rep V w K' true fp us (l.set j (.msl b 0)):=by
   intro l;induction l with
   | nil=>intro j us fp h hj;simp at hj
   | cons c l ih =>
    intro j us fp h hj
    obtain⟨f1,f2,u1,u2,rfl,rfl,r1,r2⟩:=Rep.split [c] (cs₂:=l) (by simpa using h)
    cases j with
    | zero =>
     simp only[List.getElem?_cons_zero,Option.some.injEq] at hj;subst hj
     simp only[List.set_cons_zero]
     cases r1 with
     | nl h=>cases h;exact .mv b hKd r2
    | succ j =>
     simp only[List.set_cons_succ]
     have:=r1.app (ih j _ _ r2 (by simpa using hj))
     simpa using this
  exact this _ j us fb hkill hkj
 have:=R.apply (w':=w) (V':=V) (K':=K') (O':=O) ({ val:=.bad,kl:=[b],put:=[(b,⟨true,sz,[]⟩),(k,{ y with cs:=(killL b y.cs).set j (.msl b 0) })] }:Eff) none undef (fun d e=>by cases e) (Next.refl V w) hK (fun g l hl _ _=>⟨rfl,rfl,hl⟩) (fun t x _ hl=>by simp[lookup] at hl) (fun d e=>by cases e) (fun k' x hl=>by
   simp only[lookup] at hl
   split at hl
   ·rename_i e;subst e;cases hl;exact .inl ⟨hsz,rfl,hKd⟩
   ·split at hl
    ·rename_i e;subst e;cases hl
     refine .inr ⟨fb,arr,T,fz,us,by rw[hKk];exact h1,by rw[hKk];exact h2,⟨by rw[hKk];exact h3.hp,h3.th,h3.pre,?_,?_,h3.var,by rw[hKk];exact h3.row⟩⟩
     ·show Rep _ _ _ (y.sz==0) _ _ _
      rw[hzb];exact hset
     ·rw[hKk,h3.vis];simp[killL_length]
    ·cases hl) R.rg R.vr R.fr (fun _ _ _=>rfl)
 exact⟨K',this,fun k hk=>by show (if k=b then _ else K k)=K k;rw[if_neg (by omega)]⟩
end
theorem wkT_at:∀{cs ds:List AV},WkT cs ds→cs.length=ds.length∧∀(i:Nat) (y:AV),ds[i]?=some y→∃x,cs[i]?=some x∧WkU x y:=by
 intro cs
 induction cs with
 | nil=>intro ds h;cases ds with | nil=>exact⟨rfl,by simp⟩ | cons d ds=>exact h.elim
 | cons c cs ih =>
  intro ds h
  cases ds with
  | nil=>exact h.elim
  | cons d ds =>
   obtain⟨h1,h2⟩:=ih h.2
   refine⟨by simp[h1],fun i y hy=>?_⟩
   cases i with
   | zero=>simp only[List.getElem?_cons_zero,Option.some.injEq] at hy;subst hy;exact⟨c,rfl,h.1⟩
   | succ i=>simpa using h2 i y (by simpa using hy)
theorem wka_ok{f:FuncId}{args args':List AV}{bx bx':Nat→Option Box}{r:AV}{G:GP}(hw:WkT args args')(h:CallOk P G f args' bx r bx'):CallOk P G f args bx r bx':=by
 intro w0 V0 V K O vs hg hle heq E
 refine h w0 V0 V K O vs hg hle heq ⟨E.len.trans (wkT_at hw).1,fun i y hy=>?_,E.bx,E.rg,E.vr⟩
 obtain⟨x,hx,hu⟩:=(wkT_at hw).2 i y hy
 obtain⟨v,fp,h1,h2,h3,h4⟩:=E.args i x hx
 obtain⟨fq,s1,a1⟩:=wkV_rep h4 (.inl hu)
 exact⟨v,fq,h1,h2.sublist s1,fun g hg=>h3 g (s1.subset hg),a1⟩
mutual
theorem share_ids:∀x:AV,ids x=[]→ids (share x)=[]
 | .lit _,h=>h
 | .nil,h=>h
 | .sl true _ _ _,_=>rfl
 | .sl false _ _ _,_=>rfl
 | .msl _ _,h=>h
 | .agg cs,h=>by simp only[share,ids] at h ⊢;exact shareL_ids cs h
 | .tup cs,h=>by simp only[share,ids] at h ⊢;exact shareL_ids cs h
 | .ptr _ _,h=>h
 | .cptr _,h=>h
 | .nbx _,h=>h
 | .fnv _ _,h=>h
 | .bad,h=>h
theorem shareL_ids:∀l:List AV,idsL l=[]→idsL (shareL l)=[]
 | [],_=>rfl
 | x::xs,h=>by
  simp only[idsL,List.append_eq_nil_iff] at h
  simp only[shareL,idsL,List.append_eq_nil_iff]
  exact⟨share_ids x h.1,shareL_ids xs h.2⟩
end
theorem ids_wkC{x y:AV}(h:WkC x y):ids x=[]→ids y=[]:=by
 rcases h with rfl | rfl | rfl | ⟨rfl,oo,z,rfl⟩
 ·exact id
 ·intro _;rfl
 ·exact share_ids x
 ·intro _;rfl
theorem ids_wkCs:∀{cs ds:List AV},WkCs cs ds→idsL cs=[]→idsL ds=[]:=by
 intro cs
 induction cs with
 | nil=>intro ds h _;cases ds with | nil=>rfl | cons d ds=>exact h.elim
 | cons c cs ih =>
  intro ds h hi
  cases ds with
  | nil=>exact h.elim
  | cons d ds =>
   simp only[idsL,List.append_eq_nil_iff] at hi ⊢
   exact⟨ids_wkC h.1 hi.1,ih h.2 hi.2⟩
theorem ids_wkU{x y:AV}(h:WkU x y):ids x=[]→ids y=[]:=by
 rcases h with h | ⟨cs,ds,rfl,rfl,h⟩
 ·exact ids_wkC h
 ·intro hi;simp only[ids] at hi ⊢;exact ids_wkCs h hi
theorem ids_wkT:∀{cs ds:List AV},WkT cs ds→idsL cs=[]→idsL ds=[]:=by
 intro cs
 induction cs with
 | nil=>intro ds h _;cases ds with | nil=>rfl | cons d ds=>exact h.elim
 | cons c cs ih =>
  intro ds h hi
  cases ds with
  | nil=>exact h.elim
  | cons d ds =>
   simp only[idsL,List.append_eq_nil_iff] at hi ⊢
   exact⟨ids_wkU h.1 hi.1,ih h.2 hi.2⟩
theorem post_wk{w0:World}{V0:Nat→Nat}{K:Nat→Nat×Nat}{O:Nat→Option Loc}{r r':AV}{bx':Nat→Option Box}{v:Value}{w':World}(hw:WkV r r')(h:CallPost w0 V0 K O r bx' v w'):CallPost w0 V0 K O r' bx' v w':=by
 obtain⟨V1,O1,fp,b1,b2,b3,b4,b5,b6,hq,b7,b8⟩:=h
 have key:∃fq,fq.Sublist fp∧RepQ V1 w' fq v r':=by
  cases hq with
  | one _ _ _ hr =>
   cases hr with
   | v K' _ _ _ hu hi =>
    rcases hw with hw | ⟨cs,ds,rfl,rfl,hw⟩
    ·obtain⟨fq,s1,a1⟩:=wkU_rep hu hw
     exact⟨fq,s1,.one _ _ _ (.v K' _ _ _ a1 (ids_wkU hw hi))⟩
    ·cases hu with
     | one h=>cases h
     | p h=>cases h
   | nbx K' g T arr fz us fq cs q1 q2 q3 q4 q5 q6 =>
    rcases hw with (hw | ⟨cs,ds,e,rfl,hw⟩) | ⟨cs,ds,e,rfl,hw⟩
    ·rcases hw with rfl | rfl | rfl | ⟨e,oo,z,rfl⟩
     ·exact⟨_,List.Sublist.refl _,.one _ _ _ (.nbx K' g T arr fz us fq cs q1 q2 q3 q4 q5 q6)⟩
     ·exact⟨[],List.nil_sublist _,.one _ _ _ (.v K' _ _ _ (.p (.bad _)) rfl)⟩
     ·exact⟨_,List.Sublist.refl _,.one _ _ _ (.nbx K' g T arr fz us fq cs q1 q2 q3 q4 q5 q6)⟩
     ·cases e
    ·cases e
    ·cases e
  | tup K' _ us rs ht hi =>
   rcases hw with (hw | ⟨cs,ds,e,rfl,hw⟩) | ⟨cs,ds,e,rfl,hw⟩
   ·rcases hw with rfl | rfl | rfl | ⟨e,oo,z,rfl⟩
    ·exact⟨fp,List.Sublist.refl _,.tup K' _ us rs ht hi⟩
    ·exact⟨[],List.nil_sublist _,.one _ _ _ (.v K' _ _ _ (.p (.bad _)) rfl)⟩
    ·refine⟨[],List.nil_sublist _,?_⟩
     simp only[share]
     exact .tup K' _ us _ ht.share (shareL_ids rs hi)
    ·cases e
   ·cases e
   ·cases e
    obtain⟨fq,s1,a1⟩:=wkT_rep ht hw
    exact⟨fq,s1,.tup K' _ us _ a1 (ids_wkT hw hi)⟩
 obtain⟨fq,s1,a1⟩:=key
 exact⟨V1,O1,fq,b1,b2,b3,b4,b5.sublist s1,fun g hg=>b6 g (s1.subset hg),a1,b7,b8⟩
theorem wkr_ok{f:FuncId}{args:List AV}{bx bx':Nat→Option Box}{r r':AV}{G:GP}(hw:WkV r r')(h:CallOk P G f args bx r bx'):CallOk P G f args bx r' bx':=by
 intro w0 V0 V K O vs hg hle heq E
 refine Calls.mono (h w0 V0 V K O vs hg hle heq E) fun e w' hen=>?_
 obtain⟨v,rfl,V1,O1,fp,b1,b2,b3,b4,b5,b6,hq,b7,b8⟩:=hen
 have key:∃fq,fq.Sublist fp∧RepQ V1 w' fq v r':=by
  cases hq with
  | one _ _ _ hr =>
   cases hr with
   | v K' _ _ _ hu hi =>
    rcases hw with hw | ⟨cs,ds,rfl,rfl,hw⟩
    ·obtain⟨fq,s1,a1⟩:=wkU_rep hu hw
     exact⟨fq,s1,.one _ _ _ (.v K' _ _ _ a1 (ids_wkU hw hi))⟩
    ·cases hu with
     | one h=>cases h
     | p h=>cases h
   | nbx K' g T arr fz us fq cs q1 q2 q3 q4 q5 q6 =>
    rcases hw with (hw | ⟨cs,ds,e,rfl,hw⟩) | ⟨cs,ds,e,rfl,hw⟩
    ·rcases hw with rfl | rfl | rfl | ⟨e,oo,z,rfl⟩
     ·exact⟨_,List.Sublist.refl _,.one _ _ _ (.nbx K' g T arr fz us fq cs q1 q2 q3 q4 q5 q6)⟩
     ·exact⟨[],List.nil_sublist _,.one _ _ _ (.v K' _ _ _ (.p (.bad _)) rfl)⟩
     ·exact⟨_,List.Sublist.refl _,.one _ _ _ (.nbx K' g T arr fz us fq cs q1 q2 q3 q4 q5 q6)⟩
     ·cases e
    ·cases e
    ·cases e
  | tup K' _ us rs ht hi =>
   rcases hw with (hw | ⟨cs,ds,e,rfl,hw⟩) | ⟨cs,ds,e,rfl,hw⟩
   ·rcases hw with rfl | rfl | rfl | ⟨e,oo,z,rfl⟩
    ·exact⟨fp,List.Sublist.refl _,.tup K' _ us rs ht hi⟩
    ·exact⟨[],List.nil_sublist _,.one _ _ _ (.v K' _ _ _ (.p (.bad _)) rfl)⟩
    ·refine⟨[],List.nil_sublist _,?_⟩
     simp only[share]
     exact .tup K' _ us _ ht.share (shareL_ids rs hi)
    ·cases e
   ·cases e
   ·cases e
    obtain⟨fq,s1,a1⟩:=wkT_rep ht hw
    exact⟨fq,s1,.tup K' _ us _ a1 (ids_wkT hw hi)⟩
 obtain⟨fq,s1,a1⟩:=key
 exact⟨v,rfl,V1,O1,fq,b1,b2,b3,b4,b5.sublist s1,fun g hg=>b6 g (s1.subset hg),a1,b7,b8⟩
section
variable {N:Nat}{w0 w:World}{M:Nat→Prop}{V0 V:Nat→Nat}{K:Nat→Nat×Nat}{O:Nat→Option Loc}{s:S}{a:Act}{ops:Array Oper}{Q:Exit→Act→World→Prop}
theorem wpOps_val0{i:Nat}{rest:List Nat}{o:Oper}{v:Value}(ho:ops[i]?=some o)(hg:o.guard=none)(hr:(execOp a.eval o).run P w=.ok (.value v) w)(h:wpOps P ops Q rest (a.put o.dst v) w):wpOps P ops Q (i::rest) a w:=by
 rw[wpOps_cons]
 unfold wpOp
 rw[ho]
 have hw:Region.wanted o (yielded ops a.tmps)=true:=by unfold Region.wanted;rw[hg]
 simp only[hw,if_true]
 refine .inl ?_
 unfold Oper.wp
 rw[hr];exact h
theorem nq_wp(R:RelG N w0 M V0 K V O s a w){i t3 t4 z n:Nat}{cs:List AV}(hq:NilOps P ops i t3 t4)(hi:s.t i=.sl false z n cs)(id:Nat)(hok:codeOk N (.region id ops false)=true)
  (h:∀b:Bool,(b=true→n=0)→∀a' w' K' V' O',RelG N w0 M V0 K' V' O' (nqS t3 t4 (.sl false z n cs) b s) a' w'→(∀k,1000≤k→K' k=K k)→Q .normal a' w'):(Code.region id ops false).wp P Q a w:=by
 obtain⟨o0,i0,d0,p0,g0⟩:=hq.o0
 obtain⟨o1,ty,e,t',i1,d1,p1,g1,hty⟩:=hq.o1
 have hN:∀(i:Nat) (o:Oper) (d:Nat),ops[i]?=some o→o.dst=some d→d<N:=fun i o d h e=>by
  simp only[codeOk,opsOk,Array.all_eq_true_iff_forall_mem] at hok
  have:=hok o (Array.mem_of_getElem? h)
  rw[e] at this;simpa using this
 refine wp_region ?_
 have hr:List.range ops.size=[0,1]:=by rw[hq.sz];rfl
 rw[hr]
 obtain⟨fp,h1,h2,h3,h4⟩:=R.ev (.tmp i)
 have hev:s.ev (.tmp i)=.sl false z n cs:=hi
 obtain⟨O1,R1⟩:=R.take (.tmp i) (some t3) (a.eval (.tmp i)) (s.ev (.tmp i)) [] (fun d hd=>by cases hd;exact hN 0 o0 t3 i0 d0) h1 h2 h3 (ownless_v h4) h4
 have hgv:given (.tmp i) (s.ev (.tmp i))=[]:=by rw[hev];rfl
 rw[hgv,hev] at R1
 refine wpOps_val0 (v:=a.eval (.tmp i)) i0 g0 (by simp[execOp,p0]) ?_
 rw[d0]
 rw[hev] at h4
 have hs:∃(ad:Option Addr) (l c:Nat),a.eval (.tmp i)=.slice ad l c∧(ad.isNone=true→n=0):=by
  obtain⟨ev,rfl,-⟩ | ⟨ad,cap,ev,rfl,-⟩ | ⟨ab,ao,cap,vs,ev,-⟩:=inv_sl h4
  ·exact⟨_,_,_,ev,fun _=>rfl⟩
  ·exact⟨_,_,_,ev,fun _=>rfl⟩
  ·exact⟨_,_,_,ev,fun h=>by simp at h⟩
 obtain⟨ad,l,c,hv,hn⟩:=hs
 have hsz:t3<a.tmps.size:=by rw[R.n];exact hN 0 o0 t3 i0 d0
 have he3:(a.put (some t3) (a.eval (.tmp i))).eval (.tmp t3)=.slice ad l c:=by rw[←hv];exact getD_put_same a t3 _ hsz
 refine wpOps_val0 (v:=.bool ad.isNone) i1 g1 ?_ ?_
 ·simp only[execOp,p1,he3]
  simp[Act.eval,eqGuard,binOp,run_equal_slice_nil w ty e ad l c hty]
 rw[d1]
 obtain⟨O2,R2⟩:=R1.take (.const (.slice none 0 0)) (some t4) (.bool ad.isNone) (.lit (.bool ad.isNone)) [] (fun d hd=>by cases hd;exact hN 1 o1 t4 i1 d1) (fp:=[]) List.nodup_nil (by simp) (fun _=>rfl) (fun _=>rfl) (.lit rfl)
 exact h ad.isNone hn _ _ _ _ _ R2 fun _ _=>rfl
end
section
variable {N:Nat}{w0 w:World}{M:Nat→Prop}{V0 V:Nat→Nat}{K:Nat→Nat×Nat}{O:Nat→Option Loc}{s:S}{a:Act}{g0:Nat}
def opV (V:Nat→Nat)(g0:Nat):Nat→Nat:=fun g=>if g=g0 then 0 else V g
theorem opV_le(V:Nat→Nat)(g0 g:Nat):opV V g0 g≤V g:=by unfold opV;split;exact Nat.zero_le _;exact Nat.le_refl _
theorem opV_ne{g:Nat}(h:g≠g0):opV V g0 g=V g:=by unfold opV;rw[if_neg h]
theorem u8_val{m:Bool}{fp:List Nat}{us:List Value}{cs:List AV}(h:Rep V w K m fp us cs):(∀c∈cs,isU8 c=true)→∀(j:Nat) (v:Value),us[j]?=some v→∃k,v=.int .u8 k:=by
 induction h with
 | nil=>intro _ j v hv;simp at hv
 | @lit m fp v us cs hp _ ih =>
  intro hc j x hx
  cases j with
  | zero =>
   simp only[List.getElem?_cons_zero,Option.some.injEq] at hx;subst hx
   have:=hc _ List.mem_cons_self
   unfold isU8 at this
   split at this
   ·rename_i k e;cases e;exact⟨k,rfl⟩
   ·cases this
  | succ j=>exact ih (fun c h=>hc c (List.mem_cons_of_mem _ h)) j x (by simpa using hx)
 | _=>intro hc;have:=hc _ List.mem_cons_self;simp[isU8] at this
theorem u8_rep{V':Nat→Nat}{m:Bool}{fp:List Nat}{us:List Value}{cs:List AV}(h:Rep V w K m fp us cs):(∀c∈cs,isU8 c=true)→Rep V' w K m fp us cs:=by
 induction h with
 | nil=>intro _;exact .nil
 | lit hp _ ih=>intro hc;exact .lit hp (ih fun c h=>hc c (List.mem_cons_of_mem _ h))
 | _=>intro hc;have:=hc _ List.mem_cons_self;simp[isU8] at this
theorem nu8_val{m:Bool}{fp:List Nat}{us:List Value}{cs:List AV}(h:Rep V w K m fp us cs):(∀c∈cs,isU8 c=false)→hasShL cs=false→∀(j:Nat) (v:Value),us[j]?=some v→∀k,v≠.int .u8 k:=by
 have key:∀{us:List Value} {v:Value},(∀(j:Nat) (x:Value),us[j]?=some x→∀k,x≠.int .u8 k)→(∀k,v≠.int .u8 k)→∀(j:Nat) (x:Value),(v::us)[j]?=some x→∀k,x≠.int .u8 k:=by
  intro us v h1 h2 j x hx
  cases j with
  | zero=>simp only[List.getElem?_cons_zero,Option.some.injEq] at hx;subst hx;exact h2
  | succ j=>exact h1 j x (by simpa using hx)
 induction h with
 | nil=>intro _ _ j v hv;simp at hv
 | @lit m fp v us cs hp _ ih =>
  intro hc hs
  simp only[hasShL,hasSh,Bool.false_or] at hs
  refine key (ih (fun c h=>hc c (List.mem_cons_of_mem _ h)) hs) fun k e=>?_
  have:=hc _ List.mem_cons_self
  subst e;simp[isU8] at this
 | nl _ ih =>
  intro hc hs
  simp only[hasShL,hasSh,Bool.false_or] at hs
  exact key (ih (fun c h=>hc c (List.mem_cons_of_mem _ h)) hs) fun k e=>by cases e
 | on _ ih =>
  intro hc hs
  simp only[hasShL,Bool.or_eq_false_iff] at hs
  exact key (ih (fun c h=>hc c (List.mem_cons_of_mem _ h)) hs.2) fun k e=>by cases e
 | ow _ _ _ _ _ _ _ _ _ _ _ _ _ _ _ _ ih =>
  intro hc hs
  simp only[hasShL,Bool.or_eq_false_iff] at hs
  exact key (ih (fun c h=>hc c (List.mem_cons_of_mem _ h)) hs.2) fun k e=>by cases e
 | ns _ _=>intro _ hs;simp[hasShL,hasSh] at hs
 | sh _ _ _ _ _ _ _ _ _=>intro _ hs;simp[hasShL,hasSh] at hs
 | ms _ _ _ _ _=>intro _ hs;simp[hasShL,hasSh] at hs
 | mv _ _ _ _=>intro _ hs;simp[hasShL,hasSh] at hs
 | bd _ _ _ _=>intro _ hs;simp[hasShL,hasSh] at hs
theorem open_rep(hcore:∀(off:Nat) (v:Value),off<V g0→w.cell? ⟨g0,off,none⟩=some v→∀k,v≠.int .u8 k){m:Bool}{fp:List Nat}{us:List Value}{cs:List AV}(h:Rep V w K m fp us cs):(∀c∈cs,byLk c)→Rep (opV V g0) w K m fp us cs:=by
 induction h with
 | nil=>intro _;exact .nil
 | lit hp _ ih=>intro hc;exact .lit hp (ih fun c h=>hc c (List.mem_cons_of_mem _ h))
 | nl _ ih=>intro hc;exact .nl (ih fun c h=>hc c (List.mem_cons_of_mem _ h))
 | ns _ ih=>intro hc;exact .ns (ih fun c h=>hc c (List.mem_cons_of_mem _ h))
 | @sh m fp us cs n cap sz ds ad vs h1 h2 h3 h4 h5 ih1 ih2 =>
  intro hc
  have hb:n=ds.length∧∀c∈ds,isU8 c=true:=hc _ List.mem_cons_self
  refine .sh ad vs h1 ?_ h3 (u8_rep h4 hb.2) (ih2 fun c h=>hc c (List.mem_cons_of_mem _ h))
  have hl:=h4.len
  rcases h2 with h2 | ⟨h2,h6,h7⟩
  ·exact .inl h2
  ·by_cases hv:vs=[]
   ·left;refine⟨?_,hv⟩;rw[hb.1,←hl,hv];rfl
   ·right
    refine⟨h2,?_,h7⟩
    by_cases hg:ad.block=g0
    ·exfalso
     obtain⟨v0,vr,rfl⟩:=List.exists_cons_of_ne_nil hv
     obtain⟨k,hk⟩:=u8_val h4 hb.2 0 v0 rfl
     have hcell:=h3 0 v0 rfl
     rw[hg] at hcell h6
     simp only[List.length_cons] at h6
     exact hcore (ad.off+0) v0 (by omega) hcell k hk
    ·rw[opV_ne hg];exact h6
 | ow _ _ _ _ _ _ _ _ _ _ _ _ _ _ _ _ _=>intro hc;exact absurd (hc _ List.mem_cons_self) (by simp[byLk])
 | on _ _=>intro hc;exact absurd (hc _ List.mem_cons_self) (by simp[byLk])
 | ms b h1 h2 _ ih=>intro hc;exact .ms b h1 h2 (ih fun c h=>hc c (List.mem_cons_of_mem _ h))
 | mv b h1 _ ih=>intro hc;exact .mv b h1 (ih fun c h=>hc c (List.mem_cons_of_mem _ h))
 | bd u h1 _ ih=>intro hc;exact .bd u h1 (ih fun c h=>hc c (List.mem_cons_of_mem _ h))
theorem open_v(hcore:∀(off:Nat) (v:Value),off<V g0→w.cell? ⟨g0,off,none⟩=some v→∀k,v≠.int .u8 k){fp:List Nat}{v:Value}{x:AV}(h:RepV V w K fp v x)(hx:byLk x):RepV (opV V g0) w K fp v x:=by
 cases h with
 | u h =>
  cases h with
  | one h=>exact .u (.one (open_rep hcore h fun c hc=>by rw[List.mem_singleton.1 hc];exact hx))
  | agg h=>exact absurd hx (by simp[byLk])
  | p h =>
   cases h with
   | ptr b off=>exact .u (.p (.ptr b off))
   | cptr _ _ _ _ _ _ _=>exact absurd hx (by simp[byLk])
   | bad v=>exact .u (.p (.bad v))
  | fnv h=>exact absurd hx (by simp[byLk])
 | tup h=>exact absurd hx (by simp[byLk])
theorem open_rel(hV0:∀g,(w0.heap.size≤g∨M g)→V0 g=0)(R:RelG N w0 M V0 K V O s a w){b:Nat}{y:Box}(hb:s.b b=some y)(hsz:y.sz≠0)(ht:∀t,byLk (s.t t))(hx:∀k x,s.b k=some x→k≠b→∀c∈x.cs,byLk c)(hu:∀c∈y.cs,isU8 c=false)(hs:hasShL y.cs=false) :
  ∃V',RelG N w0 M V0 K V' O (openS b y s) a w:=by
 rcases R.bx b y hb with ⟨z1,z2,z3⟩ | ⟨fb,arr,T,fz,us,q1,q2,q3⟩
 ·refine⟨V,R.df,R.n,R.tm,fun k x hk=>?_,R.rg,R.vr,R.fr,R.nx,R.vo⟩
  simp only[openS] at hk
  split at hk
  ·rename_i e;subst e;cases hk;exact .inl ⟨z1,z2,z3⟩
  ·exact R.bx k x hk
 ·have hO:=q2 (K b).1 List.mem_cons_self
  have hrg:=R.rg _ _ hO
  have hlen:=q3.rep.len
  have hVl:V (K b).1≤us.length:=by rw[q3.vis,hlen];split;exact Nat.zero_le _;exact Nat.le_refl _
  have hcore:∀(off:Nat) (v:Value),off<V (K b).1→w.cell? ⟨(K b).1,off,none⟩=some v→∀k,v≠.int .u8 k:=by
   intro off v ho hc k
   have hlt:off<us.length:=by omega
   have h1:=q3.pre off us[off] (List.getElem?_eq_getElem hlt)
   have h2:w.cell? ⟨(K b).1,off,none⟩=arr[off]?:=cell_of_heap q3.hp off
   rw[h2,h1] at hc
   cases hc
   exact nu8_val q3.rep hu hs off _ (List.getElem?_eq_getElem hlt) k
  refine⟨opV V (K b).1,R.df,R.n,fun t=>?_,fun k x hk=>?_,R.rg,fun g hg=>R.vr g (Nat.lt_of_lt_of_le hg (opV_le _ _ _)),R.fr,⟨R.nx.cell,fun g=>?_,R.nx.sz⟩,fun g hg hm=>?_⟩
  ·obtain⟨fp,h1,h2,h3⟩:=R.tm t
   exact⟨fp,h1,h2,open_v hcore h3 (ht t)⟩
  ·simp only[openS] at hk
   split at hk
   ·rename_i e;subst e;cases hk
    refine .inr ⟨fb,arr,T,fz,us,q1,q2,⟨q3.hp,q3.th,q3.pre,?_,by simp[opV],fun h=>absurd h hsz,q3.row⟩⟩
    have hn:=(List.nodup_cons.1 q1).1
    exact q3.rep.lower hs fun g hg=>opV_ne fun e=>hn (by rw[←e];exact hg)
   ·rename_i hne
    rcases R.bx k x hk with h | ⟨fb',arr',T',fz',us',p1,p2,p3⟩
    ·exact .inl h
    ·refine .inr ⟨fb',arr',T',fz',us',p1,p2,⟨p3.hp,p3.th,p3.pre,open_rep hcore p3.rep (hx k x hk hne),?_,p3.var,p3.row⟩⟩
     rw[opV_ne,p3.vis]
     intro e
     have:=p2 (K k).1 List.mem_cons_self
     rw[e,hO] at this
     cases this;exact hne rfl
  ·by_cases e:g=(K b).1
   ·subst e;rw[hV0 _ hrg.1];exact Nat.zero_le _
   ·rw[opV_ne e];exact R.nx.le g
  ·have hne:g≠(K b).1:=fun e=>by
    rcases hrg.1 with h | h
    ·omega
    ·exact hm (by rw[e];exact h)
   rw[opV_ne hne];exact R.vo g hg hm
end
theorem big_sound(hE:EqtOk P H)(hmix:P.follows .mixedOrders=true)(hI:∀V V' w w',Next V V' w w'→H.iv V w→H.iv V' w')(hZ:∀fid id ops s s',H.zc fid (.region id ops false) s s'→MC P (Gd H fid) (.region id ops false) s .nor s')
  (hY:∀f args bx r bx',Y f args bx r bx'→CallOk P (Gd H f) f args bx r bx') {j:Judg} (h:Big P H Y j):Mot P H j:=by
 induction h with
 | nil=>exact⟨.nil _,rfl,by simp⟩
 | skip ho hg _ ih =>
  obtain⟨i1,i2,i3⟩:=ih
  refine⟨.cons _ (mkLog _ _ _ _ _) _ _ (entry_skip ho hg) (fit_mkLog hg) i1,by simp[i2,mkLog],fun x hx=>?_⟩
  rcases List.mem_cons.1 hx with rfl | hx
  ·simp[mkLog,ho]
  ·exact i3 x hx
 | step ho hg he hk _ ih =>
  obtain⟨i1,i2,i3⟩:=ih
  refine⟨.cons _ (mkLog _ _ _ _ _) _ _ (entry_step hE ho hg he hk) (fit_mkLog hg) i1,by simp[i2,mkLog],fun x hx=>?_⟩
  rcases List.mem_cons.1 hx with rfl | hx
  ·simp[mkLog,ho]
  ·exact i3 x hx
 | call ho hg hcal hroc hp hcm hfl _ he hk _ ihc ih =>
  obtain⟨i1,i2,i3⟩:=ih
  obtain⟨hC,fn,c,hf,hb,hn⟩:=ihc
  refine⟨.cons _ (mkLog _ _ _ _ _) _ _ (entry_call hI ho hg hcal hroc hp hcm hfl hC he hk hf hb hn) (fit_mkLog hg) i1,by simp[i2,mkLog],fun x hx=>?_⟩
  rcases List.mem_cons.1 hx with rfl | hx
  ·simp[mkLog,ho]
  ·exact i3 x hx
 | callf ho hg hcal hroc hp hcm hfl _ he hk _ ihc ih =>
  obtain⟨i1,i2,i3⟩:=ih
  obtain⟨hC,fn,c,hf,hb,hn⟩:=ihc
  refine⟨.cons _ (mkLog _ _ _ _ _) _ _ (entry_callf hI ho hg hcal hroc hp hcm hfl hC he hk hf hb hn) (fit_mkLog hg) i1,by simp[i2,mkLog],fun x hx=>?_⟩
  rcases List.mem_cons.1 hx with rfl | hx
  ·simp[mkLog,ho]
  ·exact i3 x hx
 | region _ ih=>exact⟨mc_region ih.1.chain ih.2.1 ih.2.2,fun a e=>by cases e⟩
 | draw _ hok ih=>exact⟨mc_draw hmix ih.1 ih.2.1 ih.2.2 hok,fun a e=>by cases e⟩
 | zreg hz=>exact⟨hZ _ _ _ _ _ hz,fun a e=>by cases e⟩
 | skipc=>exact⟨fun N w0 M V0 V K O a w _ _ R Q hQ=>wp_skip (hQ _ _ _ _ _ R fun _ _=>rfl),fun a e=>by cases e⟩
 | seqn _ _ ih1 ih2=>exact⟨mc_seqn ih1.1 ih2.1,fun a e=>by cases e⟩
 | seqx _ hx ih=>exact⟨mc_seqx ih.1 hx,fun a e=>by cases e⟩
 | condt hc _ ih=>exact⟨mc_cond true hc ih.1,fun a e=>by cases e⟩
 | condf hc _ ih=>exact⟨mc_cond false hc ih.1,fun a e=>by cases e⟩
 | blockn _ ih=>exact⟨mc_blockn ih.1,fun a e=>by cases e⟩
 | blocke _ ih=>exact⟨mc_blocke ih.1,fun a e=>by cases e⟩
 | blockx _ h1 h2 ih=>exact⟨mc_blockx ih.1 h1 h2,fun a e=>by cases e⟩
 | loopn _ _ ih1 ih2 =>
  have:=loop_more ih1.1 (ih2.2 _ rfl)
  exact⟨mc_loop this,fun a e=>by cases e;exact this⟩
 | loopx _ hx ih =>
  have:=loop_last ih.1 hx
  exact⟨mc_loop this,fun a e=>by cases e;exact this⟩
 | exit=>exact⟨fun N w0 M V0 V K O a w _ _ R Q hQ=>wp_exit (hQ _ _ _ _ _ R fun _ _=>rfl),fun a e=>by cases e⟩
 | ret=>exact⟨fun N w0 M V0 V K O a w _ _ R Q hQ=>wp_ret (hQ _ _ _ _ _ R fun _ _=>rfl),fun a e=>by cases e⟩
 | wks hw _ ih=>exact⟨fun N w0 M V0 V K O a w hg hc R Q hQ=>ih.1 N w0 M V0 V K O a w hg hc (wkS_rel R hw) Q hQ,fun a e =>
   ⟨(ih.2 a e).1,fun hg hc R Q hQ b k cs=>(ih.2 a e).2 hg hc (wkS_rel R hw) Q hQ b k cs⟩⟩
 | wke _ hw ih=>exact⟨fun N w0 M V0 V K O a w hg hc R Q hQ=>ih.1 N w0 M V0 V K O a w hg hc R Q fun a' w' K' V' O' R' hK=>hQ a' w' K' V' O' (wkS_rel R' hw) hK,fun a e =>
   ⟨(ih.2 a e).1,fun hg hc R Q hQ b k cs=>(ih.2 a e).2 hg hc R Q (fun a' w' K' V' O' R' hK=>hQ a' w' K' V' O' (wkS_rel R' hw) hK) b k cs⟩⟩
 | wka hw _ ih=>exact⟨wka_ok hw ih.1,ih.2⟩
 | wkr _ hw ih=>exact⟨wkr_ok hw ih.1,ih.2⟩
 | virt i b sz hi hb hsz _ ih=>exact⟨fun N w0 M V0 V K O a w hg hc R Q hQ=>by
   obtain⟨K',R',hK⟩:=virt_rel R hi hb hsz
   exact ih.1 N w0 M V0 V K' O a w hg hc R' Q fun a' w' K'' V' O' R'' hK'=>hQ a' w' K'' V' O' R'' fun k hk=>(hK' k hk).trans (hK k hk),fun a e =>
   ⟨(ih.2 a e).1,fun hg hc R Q hQ b k cs=>by
    obtain⟨K',R',hK⟩:=virt_rel R hi hb hsz
    exact(ih.2 a e).2 hg hc R' Q (fun a' w' K'' V' O' R'' hK'=>hQ a' w' K'' V' O' R'' fun k hk=>(hK' k hk).trans (hK k hk)) b k cs⟩⟩
 | virtc k y j b sz hk hj hy hkb hb hsz _ ih=>exact⟨fun N w0 M V0 V K O a w hg hc R Q hQ=>by
   obtain⟨K',R',hK⟩:=virtc_rel R hk hj hy hkb hb hsz
   exact ih.1 N w0 M V0 V K' O a w hg hc R' Q fun a' w' K'' V' O' R'' hK'=>hQ a' w' K'' V' O' R'' fun k hk=>(hK' k hk).trans (hK k hk),fun a e =>
   ⟨(ih.2 a e).1,fun hg hc R Q hQ b k cs=>by
    obtain⟨K',R',hK⟩:=virtc_rel R hk hj hy hkb hb hsz
    exact(ih.2 a e).2 hg hc R' Q (fun a' w' K'' V' O' R'' hK'=>hQ a' w' K'' V' O' R'' fun k hk=>(hK' k hk).trans (hK k hk)) b k cs⟩⟩
 | adopt i b n sz cs hi hb hsz _ ih=>exact⟨fun N w0 M V0 V K O a w hg hc R Q hQ=>by
   obtain⟨K',O',R',hK⟩:=adopt_rel R hi hb hsz
   exact ih.1 N w0 M V0 V K' O' a w hg hc R' Q fun a' w' K'' V' O'' R'' hK'=>hQ a' w' K'' V' O'' R'' fun k hk=>(hK' k hk).trans (hK k hk),fun a e =>
   ⟨(ih.2 a e).1,fun hg hc R Q hQ b k cs=>by
    obtain⟨K',O',R',hK⟩:=adopt_rel R hi hb hsz
    exact(ih.2 a e).2 hg hc R' Q (fun a' w' K'' V' O'' R'' hK'=>hQ a' w' K'' V' O'' R'' fun k hk=>(hK' k hk).trans (hK k hk)) b k cs⟩⟩
 | adoptc k y j b n sz cs hk hj hy hkb hb hsz _ ih=>exact⟨fun N w0 M V0 V K O a w hg hc R Q hQ=>by
   obtain⟨K',O',R',hK⟩:=adoptc_rel R hk hj hy hkb hb hsz
   exact ih.1 N w0 M V0 V K' O' a w hg hc R' Q fun a' w' K'' V' O'' R'' hK'=>hQ a' w' K'' V' O'' R'' fun k hk=>(hK' k hk).trans (hK k hk),fun a e =>
   ⟨(ih.2 a e).1,fun hg hc R Q hQ b k cs=>by
    obtain⟨K',O',R',hK⟩:=adoptc_rel R hk hj hy hkb hb hsz
    exact(ih.2 a e).2 hg hc R' Q (fun a' w' K'' V' O'' R'' hK'=>hQ a' w' K'' V' O'' R'' fun k hk=>(hK' k hk).trans (hK k hk)) b k cs⟩⟩
 | ren b d hb hd _ ih=>exact⟨fun N w0 M V0 V K O a w hg hc R Q hQ=>by
   obtain⟨R',hK⟩:=ren_rel R hb hd
   exact ih.1 N w0 M V0 V _ _ a w hg hc R' Q fun a' w' K'' V' O'' R'' hK'=>hQ a' w' K'' V' O'' R'' fun k hk=>(hK' k hk).trans (hK k hk),fun a e =>
   ⟨(ih.2 a e).1,fun hg hc R Q hQ b k cs=>by
    obtain⟨R',hK⟩:=ren_rel R hb hd
    exact(ih.2 a e).2 hg hc R' Q (fun a' w' K'' V' O'' R'' hK'=>hQ a' w' K'' V' O'' R'' fun k hk=>(hK' k hk).trans (hK k hk)) b k cs⟩⟩
 | shutb b y hb hsz _ ih=>exact⟨fun N w0 M V0 V K O a w hg hc R Q hQ=>by
   obtain⟨V',R'⟩:=shut_rel R hb hsz
   exact ih.1 N w0 M V0 V' _ _ a w hg hc R' Q fun a' w' K'' V' O'' R'' hK'=>hQ a' w' K'' V' O'' R'' hK',fun a e =>
   ⟨(ih.2 a e).1,fun hg hc R Q hQ b k cs=>by
    obtain⟨V',R'⟩:=shut_rel R hb hsz
    exact(ih.2 a e).2 hg hc R' Q (fun a' w' K'' V' O'' R'' hK'=>hQ a' w' K'' V' O'' R'' hK') b k cs⟩⟩
 | openb b y hfl hb hsz h1 h2 h3 h4 _ ih=>exact⟨fun N w0 M V0 V K O a w hg hc R Q hQ=>by
   obtain⟨V',R'⟩:=open_rel (hg.2 hfl) R hb hsz h1 h2 h3 h4
   exact ih.1 N w0 M V0 V' _ _ a w hg hc R' Q fun a' w' K'' V' O'' R'' hK'=>hQ a' w' K'' V' O'' R'' hK',fun a e =>
   ⟨(ih.2 a e).1,fun hg hc R Q hQ b k cs=>by
    obtain⟨V',R'⟩:=open_rel (hg.2 hfl) R hb hsz h1 h2 h3 h4
    exact(ih.2 a e).2 hg hc R' Q (fun a' w' K'' V' O'' R'' hK'=>hQ a' w' K'' V' O'' R'' hK') b k cs⟩⟩
 | given hf hb hn hy=>exact⟨hY _ _ _ _ _ hy,_,_,hf,hb,hn⟩
 | body hf hb hn _ hl hok _ hx hr he ih=>exact⟨body_ok hf hb hl hok ih.1 hx hr he,_,_,hf,hb,hn⟩
 | @bodyq f fn A id ops C K args bx r bx' i t3 t4 z n cs s1 xc xf sc sf rf hf hb hn hl hok hq hi _ _ _ hx he ihA ihC ihK =>
  refine⟨body_okI (fun b:Bool=>(b=true→n=0)) xf sf rf hf hb hl hok (fun N w0 M V0 V K0 O a w hg hc R Q hQ=>?_) (fun j hj=>(he j hj).1) (fun j hj=>(he j hj).2.1) (fun j hj=>(he j hj).2.2.2.1) (fun j hj w0 V0 K O v w h=>by rw[(he j hj).2.2.2.2] at h;exact post_wk (he j hj).2.2.1 h),_,_,hf,hb,hn⟩
  have hc':=hc
  simp only[codeOk,Bool.and_eq_true] at hc'
  refine wp_seq (ihA.1 N w0 M V0 V K0 O a w hg hc'.1 R _ fun a1 w1 K1 V1 O1 R1 hK1=>?_)
  refine wp_seq (wp_seq ?_)
  refine nq_wp R1 hq hi id hc'.2.1.1 fun b hb a2 w2 K2 V2 O2 R2 hK2=>?_
  refine(ihC b hb).1 N w0 M V0 V2 K2 O2 a2 w2 hg hc'.2.1.2 R2 _ fun a3 w3 K3 V3 O3 R3 hK3=>?_
  have hKK:∀k,1000≤k→K3 k=K0 k:=fun k hk=>((hK3 k hk).trans (hK2 k hk)).trans (hK1 k hk)
  by_cases hxc:xc b=.nor
  ·rw[hxc]
   exact(ihK b hb hxc).1 N w0 M V0 V3 K3 O3 a3 w3 hg hc'.2.2 R3 Q fun a4 w4 K4 V4 O4 R4 hK4=>hQ b hb a4 w4 K4 V4 O4 R4 fun k hk=>(hK4 k hk).trans (hKK k hk)
  ·obtain⟨e1,e2⟩:=hx b hb hxc
   have:=hQ b hb a3 w3 K3 V3 O3 (e2 ▸ R3) hKK
   rw[e1] at this
   cases hh:xc b with
   | nor=>exact absurd hh hxc
   | ext id=>rw[hh] at this;exact this
   | ret=>rw[hh] at this;exact this
end Evl
namespace Evl
open Go
variable {P:Program}{H:Hints}{Y:FuncId→List AV→(Nat→Option Box)→AV→(Nat→Option Box)→Prop}{fid:FuncId}
structure L where
 ts:List (Nat×AV)
 bs:List (Nat×Box)
def L.get(l:L)(i:Nat):AV:=match lookup i l.ts with | some v=>v | none=>.bad
def L.toS(l:L):S:=⟨l.get,fun b=>lookup b l.bs⟩
def applyL(e:Eff)(dst:Option Nat)(l:L):L where
 ts:=(match dst with | some d=>[(d,e.val)] | none=>[])++(e.set++l.ts).map fun q=>(q.1,killAll e.kl q.2)
 bs:=e.put++(l.bs.filter fun q=>!e.kl.contains q.1).map fun q=>(q.1,killBox e.kl q.2)
theorem lookup_map{α β:Type}(f:α→β)(i:Nat):∀l:List (Nat×α),lookup i (l.map fun q=>(q.1,f q.2))=(lookup i l).map f
 | []=>rfl
 | (k,x)::l=>by
  simp only[List.map_cons,lookup]
  split
  ·rfl
  ·exact lookup_map f i l
theorem lookup_filter{α:Type}(p:Nat→Bool)(i:Nat):∀l:List (Nat×α),lookup i (l.filter fun q=>p q.1)=if p i then lookup i l else none
 | []=>by simp[lookup]
 | (k,x)::l=>by
  simp only[List.filter_cons]
  by_cases e:k=i
  ·subst e
   by_cases hp:p k=true
   ·simp[hp,lookup]
   ·simp only[hp,lookup]
    have:=lookup_filter p k l
    simp only[hp] at this
    simpa using this
  ·by_cases hp:p k=true
   ·simp only[hp,if_true,lookup,if_neg e];exact lookup_filter p i l
   ·simp only[hp,lookup,if_neg e];exact lookup_filter p i l
theorem killAll_bad:∀l:List Nat,killAll l .bad=.bad:=by
 intro l;induction l with
 | nil=>rfl
 | cons d l ih=>simpa [killAll,kill] using ih
theorem S.ext'{s u:S}(h1:∀i,s.t i=u.t i)(h2:∀i,s.b i=u.b i):s=u:=by
 cases s;cases u
 congr 1
 ·exact funext h1
 ·exact funext h2
theorem applyL_ok(e:Eff)(dst:Option Nat)(l:L):(applyL e dst l).toS=e.apply dst l.toS:=by
 apply S.ext'
 ·intro i
  simp only[L.toS,L.get,applyL,Eff.apply]
  by_cases hd:dst=some i
  ·subst hd;simp[lookup]
  ·rw[if_neg hd]
   have e1:lookup i ((match dst with | some d=>[(d,e.val)] | none=>[])++(e.set++l.ts).map fun q=>(q.1,killAll e.kl q.2))=(lookup i (e.set++l.ts)).map (killAll e.kl):=by
    rw[←lookup_map]
    cases dst with
    | none=>rfl
    | some d=>simp only[List.cons_append,List.nil_append,lookup];rw[if_neg (fun h=>hd (by rw[h]))]
   rw[e1,lookup_append]
   cases lookup i e.set with
   | some x=>rfl
   | none =>
    cases lookup i l.ts with
    | some x=>rfl
    | none=>simp[killAll_bad]
 ·intro i
  simp only[L.toS,applyL,Eff.apply,lookup_append]
  cases lookup i e.put with
  | some x=>rfl
  | none =>
   simp only
   rw[lookup_map,lookup_filter (fun k=>!e.kl.contains k)]
   by_cases hk:i∈e.kl
   ·simp[hk]
   ·simp[hk]
def WO (P:Program)(H:Hints)(Y:FuncId→List AV→(Nat→Option Box)→AV→(Nat→Option Box)→Prop)(fid:FuncId)(ops:Array Oper)(is:List Nat)(l:L)(Q:L→List LogE→Prop):Prop :=
 ∃l' lg,Big P H Y (.ops fid ops is l.toS l'.toS lg)∧Q l' lg
def W (P:Program)(H:Hints)(Y:FuncId→List AV→(Nat→Option Box)→AV→(Nat→Option Box)→Prop)(fid:FuncId)(c:Code)(l:L)(Q:X→L→Prop):Prop :=
 ∃x l',Big P H Y (.code fid c l.toS x l'.toS)∧Q x l'
variable {ops:Array Oper}{is:List Nat}{l:L}{Q:L→List LogE→Prop}
theorem wo_nil(h:Q l []):WO P H Y fid ops [] l Q:=⟨l,[],.nil,h⟩
theorem wo_one{i:Nat}{o:Oper}{e:Eff}{l1:L}(ho:ops[i]?=some o)(hg:gd ops o l.toS=some true)(he:opE P H fid o l.toS=some e)(hk:e.kl.all (·<1000)=true)(hl:applyL e o.dst l=l1)
  (h2:WO P H Y fid ops is l1 fun l' lg=>Q l' (mkLog ops i o l.toS e::lg)):WO P H Y fid ops (i::is) l Q:=by
 subst hl
 obtain⟨l',lg,hb,hq⟩:=h2
 rw[applyL_ok] at hb
 exact⟨l',_,.step ho hg he hk hb,hq⟩
theorem wo_skip{i:Nat}{o:Oper}{l1:L}(ho:ops[i]?=some o)(hg:gd ops o l.toS=some false)(hl:applyL skipE o.dst l=l1)
  (h2:WO P H Y fid ops is l1 fun l' lg=>Q l' (mkLog ops i o l.toS skipE::lg)):WO P H Y fid ops (i::is) l Q:=by
 subst hl
 obtain⟨l',lg,hb,hq⟩:=h2
 rw[applyL_ok] at hb
 exact⟨l',_,.skip ho hg hb,hq⟩
theorem wo_call{i:Nat}{o:Oper}{l1:L}{e:Eff}{f:FuncId}{xs:List Operand}{caps caps':List AV}{p:Prep}{r:AV}{bx':Nat→Option Box}(ho:ops[i]?=some o)(hg:gd ops o l.toS=some true)(hcal:calleeOf o l.toS=some (f,xs,caps))(hroc:roCaps l.toS.b caps=some caps')(hp:prep H f l.toS 0 xs=some p)(hcm:caps=[]∨p.mts=[])(hfl:H.fl f=false∨callPlain l.toS p=true)
  (hc:Big P H Y (.call f (p.args++caps') (bxOf l.toS p.mts) r bx')) (he:callE o.dst { p with tmp:=leans l.toS.b (.fnv f caps)++p.tmp } r bx'=some e) (hk:e.kl.all (·<1000)=true) (hl:applyL e o.dst l=l1)
  (h2:WO P H Y fid ops is l1 fun l' lg=>Q l' (mkLog ops i o l.toS e::lg)):WO P H Y fid ops (i::is) l Q:=by
 subst hl
 obtain⟨l',lg,hb,hq⟩:=h2
 rw[applyL_ok] at hb
 rcases hfl with hfl | hfl
 ·exact⟨l',_,.call ho hg hcal hroc hp hcm hfl hc he hk hb,hq⟩
 ·exact⟨l',_,.callf ho hg hcal hroc hp hcm hfl hc he hk hb,hq⟩
def Code.isSeq:Code→Bool | .seq _ _=>true | _=>false
def Code.isCond:Code→Bool | .cond _ _ _=>true | _=>false
def Code.isBlock:Code→Bool | .block _ _=>true | _=>false
def Code.isRegion(d:Bool):Code→Bool | .region _ _ b=>b==d | _=>false
def Code.fst:Code→Code | .seq a _=>a | .cond _ a _=>a | .block _ a=>a | .loop a=>a | c=>c
def Code.snd:Code→Code | .seq _ b=>b | .cond _ _ b=>b | c=>c
def Code.on:Code→Operand | .cond c _ _=>c | _=>.const (.bool false)
def Code.id:Code→Nat | .block i _=>i | .exit i=>i | _=>0
def Code.opsOf:Code→Array Oper | .region _ o _=>o | _=>#[]
variable {c:Code}{K:X→L→Prop}
theorem w_region(h:Code.isRegion false c=true)(hw:WO P H Y fid (Code.opsOf c) (List.range (Code.opsOf c).size) l fun l' _=>K .nor l'):W P H Y fid c l K:=by
 cases c <;> simp[Code.isRegion] at h
 subst h
 obtain⟨l',lg,hb,hq⟩:=hw
 exact⟨.nor,l',.region hb,hq⟩
theorem w_draw(h:Code.isRegion true c=true)(hw:WO P H Y fid (Code.opsOf c) (List.range (Code.opsOf c).size) l fun l' lg=>drawOk (Code.opsOf c) lg=true∧K .nor l'):W P H Y fid c l K:=by
 cases c <;> simp[Code.isRegion] at h
 subst h
 obtain⟨l',lg,hb,hq⟩:=hw
 exact⟨.nor,l',.draw hb hq.1,hq.2⟩
theorem w_seq(h:Code.isSeq c=true)(hw:W P H Y fid (Code.fst c) l fun x l1=>match x with | .nor=>W P H Y fid (Code.snd c) l1 K | x=>K x l1):W P H Y fid c l K:=by
 cases c <;> simp[Code.isSeq] at h
 obtain⟨x,l1,hb,hq⟩:=hw
 cases x with
 | nor =>
  obtain⟨x',l2,hb',hq'⟩:=hq
  exact⟨x',l2,.seqn hb hb',hq'⟩
 | ext id=>exact⟨_,l1,.seqx hb (by simp),hq⟩
 | ret=>exact⟨_,l1,.seqx hb (by simp),hq⟩
theorem w_cond(h:Code.isCond c=true){b:Bool}(hc:l.toS.ev (Code.on c)=.lit (.bool b))(h1:b=true→W P H Y fid (Code.fst c) l K)(h2:b=false→W P H Y fid (Code.snd c) l K):W P H Y fid c l K:=by
 cases c <;> simp[Code.isCond] at h
 cases b with
 | true=>obtain⟨x,l1,hb,hq⟩:=h1 rfl;exact⟨x,l1,.condt hc hb,hq⟩
 | false=>obtain⟨x,l1,hb,hq⟩:=h2 rfl;exact⟨x,l1,.condf hc hb,hq⟩
theorem w_block(h:Code.isBlock c=true)(hw:W P H Y fid (Code.fst c) l fun x l1=>match x with | .nor=>K .nor l1 | .ext i=>if i=Code.id c then K .nor l1 else K (.ext i) l1 | .ret=>K .ret l1):W P H Y fid c l K:=by
 cases c <;> simp[Code.isBlock] at h
 rename_i id a
 obtain⟨x,l1,hb,hq⟩:=hw
 cases x with
 | nor=>exact⟨_,l1,.blockn hb,hq⟩
 | ext i =>
  have hq:(if i=id then K .nor l1 else K (.ext i) l1):=hq
  by_cases e:i=id
  ·subst e;rw[if_pos rfl] at hq;exact⟨_,l1,.blocke hb,hq⟩
  ·rw[if_neg e] at hq;exact⟨_,l1,.blockx hb (by simp) (by simpa using e),hq⟩
 | ret=>exact⟨_,l1,.blockx hb (by simp) (by simp),hq⟩
theorem w_skip(h:c=.skip)(hk:K .nor l):W P H Y fid c l K:=by subst h;exact⟨_,l,.skipc,hk⟩
theorem w_exit{i:Nat}(h:c=.exit i)(hk:K (.ext i) l):W P H Y fid c l K:=by subst h;exact⟨_,l,.exit,hk⟩
theorem w_ret(h:c=.ret)(hk:K .ret l):W P H Y fid c l K:=by subst h;exact⟨_,l,.ret,hk⟩
def lessT(l:L):List (Nat×AV)→Prop
 | []=>True
 | (i,v)::r=>WkV (l.get i) v∧lessT l r
def lessB(l:L):List (Nat×Box)→Prop
 | []=>True
 | (i,y)::r=>(∃x,lookup i l.bs=some x∧WkB x y)∧lessB l r
theorem less_ok{l u:L}(h1:lessT l u.ts)(h2:lessB l u.bs):WkS l.toS u.toS:=by
 refine⟨fun i=>?_,fun b y hb=>?_⟩
 ·have:∀ts:List (Nat×AV),lessT l ts→WkV (l.get i) (match lookup i ts with | some v=>v | none=>.bad):=by
   intro ts
   induction ts with
   | nil=>intro _;exact .inl (.inl (.inr (.inl rfl)))
   | cons q ts ih =>
    obtain⟨k,v⟩:=q
    intro h
    simp only[lookup]
    by_cases e:k=i
    ·subst e;rw[if_pos rfl];exact h.1
    ·rw[if_neg e];exact ih h.2
  exact this u.ts h1
 ·have:∀bs:List (Nat×Box),lessB l bs→lookup b bs=some y→∃x,lookup b l.bs=some x∧WkB x y:=by
   intro bs
   induction bs with
   | nil=>intro _ h;cases h
   | cons q bs ih =>
    obtain⟨k,v⟩:=q
    intro h hl
    simp only[lookup] at hl
    by_cases e:k=b
    ·subst e;rw[if_pos rfl] at hl;cases hl;exact h.1
    ·rw[if_neg e] at hl;exact ih h.2 hl
  exact this u.bs h2 hb
def look (u l:L):List AV×List (Option Box):=(u.ts.map fun q=>l.get q.1,u.bs.map fun q=>lookup q.1 l.bs)
def seen (u:L):List AV×List (Option Box):=(u.ts.map (·.2),u.bs.map fun q=>some q.2)
theorem wkCs_refl:∀l:List AV,WkCs l l
 | []=>trivial
 | _::xs=>⟨.inl rfl,wkCs_refl xs⟩
theorem look_less{u l:L}(h:look u l=seen u):WkS l.toS u.toS:=by
 simp only[look,seen,Prod.mk.injEq] at h
 refine less_ok ?_ ?_
 ·have:∀ts:List (Nat×AV),(ts.map fun q=>l.get q.1)=ts.map (·.2)→lessT l ts:=by
   intro ts
   induction ts with
   | nil=>intro _;trivial
   | cons q ts ih =>
    intro h
    simp only[List.map_cons,List.cons.injEq] at h
    exact⟨.inl (.inl (.inl h.1.symm)),ih h.2⟩
  exact this _ h.1
 ·have:∀bs:List (Nat×Box),(bs.map fun q=>lookup q.1 l.bs)=bs.map (fun q=>some q.2)→lessB l bs:=by
   intro bs
   induction bs with
   | nil=>intro _;trivial
   | cons q bs ih =>
    intro h
    simp only[List.map_cons,List.cons.injEq] at h
    exact⟨⟨q.2,h.1,rfl,rfl,wkCs_refl _⟩,ih h.2⟩
  exact this _ h.2
theorem w_look(u:L)(h:look u l=seen u)(hw:W P H Y fid c u K):W P H Y fid c l K:=by
 obtain⟨x,l1,hb,hq⟩:=hw
 exact⟨x,l1,.wks (look_less h) hb,hq⟩
def bodyOf(fn:Func):Code:=match fn.body with | some c=>c | none=>.skip
theorem call_of {f : FuncId} {fn : Func} {args : List AV} {bx : Nat → Option Box} {r : AV} (bs : List (Nat × Box)) (hbx : ∀ b, bx b = lookup b bs) (h1 : P.funcs[f]? = some fn) (h2 : fn.body = some c) (h3 : (fn.name == "runtime.NumGoroutine") = false) (h4 : args.length = fn.params.size + fn.nfree) (h5 : args.length ≤ fn.ntmps) (h6 : codeOk fn.ntmps c = true) (ts : List (Nat × AV)) (hts : ts = args.zipIdx.map fun q => (q.2, q.1))
  {bx':Nat→Option Box} (hw:W P H Y f c ⟨ts,bs⟩ fun x l'=>(x=.nor∨x=.ret)∧resOf P l'.toS fn.results.toList=some r∧exitOk bx l'.toS∧exitB bx l'.toS=bx'):Big P H Y (.call f args bx r bx'):=by
 obtain⟨x,l',hb,hx,hr,he,hbe⟩:=hw
 subst hbe
 have e:(⟨ts,bs⟩:L).toS=S0 args bx:=by
  apply S.ext'
  ·intro i
   simp only[L.toS,L.get,S0,hts]
   have:∀(as:List AV) (k:Nat),lookup i ((as.zipIdx k).map fun q=>(q.2,q.1))=if k≤i then as[i-k]? else none:=by
    intro as
    induction as with
    | nil=>intro k;simp[lookup]
    | cons a as ih =>
     intro k
     simp only[List.zipIdx_cons,List.map_cons,lookup,ih]
     by_cases e1:k=i
     ·subst e1;simp
     ·rw[if_neg e1]
      by_cases e2:k≤i
      ·have:i-k=(i-(k+1))+1:=by omega
       rw[if_pos e2,if_pos (by omega),this];simp
      ·rw[if_neg e2,if_neg (by omega)]
   have:=this args 0
   simp only[Nat.zero_le,if_true,Nat.sub_zero] at this
   rw[this]
   cases args[i]? <;> rfl
  ·intro i;simp only[L.toS,S0];rw[hbx]
 rw[e] at hb
 exact .body h1 h2 h3 h4 h5 h6 hb hx hr he
end Evl
namespace Evl
open Go
variable {P:Program}{H:Hints}{Y:FuncId→List AV→(Nat→Option Box)→AV→(Nat→Option Box)→Prop}{fid:FuncId}
inductive Todo where
 | code (c:Code)
 | blk (i:Nat)
 | lp (c:Code)
variable {k:List Todo}{c:Code}{l:L}{Q:X→L→Prop}
theorem W.mono{K K':X→L→Prop}(h:W P H Y fid c l K)(hk:∀x l,K x l→K' x l):W P H Y fid c l K':=by
 obtain⟨x,l',hb,hq⟩:=h;exact⟨x,l',hb,hk _ _ hq⟩
def nob:Nat→Option Box:=fun _=>none
end Evl
namespace Evl
open Go
variable {P:Program}{H:Hints}{Y:FuncId→List AV→(Nat→Option Box)→AV→(Nat→Option Box)→Prop}{fid:FuncId}{k:List Todo}{c:Code}{l:L}{Q:X→L→Prop}{ops:Array Oper}{is:List Nat}{QO:L→List LogE→Prop}
def loopN{α β:Type}(F:(α→Option β)→α→Option β):Nat→α→Option β
 | 0,_=>none
 | n+1,a=>F (loopN F n) a
theorem loopN_ind{α β:Type}{F:(α→Option β)→α→Option β}{C:α→β→Prop}(h:∀rec:α→Option β,(∀a r,rec a=some r→C a r)→∀a r,F rec a=some r→C a r):∀n a r,loopN F n a=some r→C a r:=by
 intro n
 induction n with
 | zero=>intro a r h;cases h
 | succ n ih=>intro a r hh;exact h _ ih a r hh
theorem bind_some{α β:Type}{x:Option α}{f:α→Option β}{r:β}(h:x.bind f=some r):∃v,x=some v∧f v=some r:=Option.bind_eq_some_iff.1 h
def chk {α:Type}(b:Bool)(x:Option α):Option α:=if b then x else none
theorem chk_some{α:Type}{b:Bool}{x:Option α}{r:α}(h:chk b x=some r):b=true∧x=some r:=by
 unfold chk at h
 split at h
 ·exact⟨by assumption,h⟩
 ·cases h
def frk {α:Type}(b:Bool)(x y:Option α):Option α:=if b then x else y
theorem frk_true{α:Type}{b:Bool}{x y z:Option α}(hb:b=true)(h:frk b x y=z):x=z:=by rw[hb] at h;exact h
theorem frk_false{α:Type}{b:Bool}{x y z:Option α}(hb:b=false)(h:frk b x y=z):y=z:=by rw[hb] at h;exact h
abbrev i64 (n:Int):AV:=.lit (.int .i64 n)
abbrev bl (b:Bool):AV:=.lit (.bool b)
abbrev w64 (n:Int):Int:=IntKind.i64.wrap n
end Evl
