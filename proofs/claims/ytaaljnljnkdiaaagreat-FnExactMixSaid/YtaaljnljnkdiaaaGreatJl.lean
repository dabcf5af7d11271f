
/- Texts that belong together,joined. No condition. -/
import Derived.Test.YtaaljnljnkdiaaaGreatJp
import Derived.Test.YtaaljnljnkdiaaaGreatJm
namespace Evl.T
open Go Evl
theorem wth_iff(l:List Pl)(p:Pl):wth l p=true↔∃i,i<l.length∧(cl2 (gt l i) p=true∨∃j,i<j∧j<l.length∧(cl3 (gt l i) (gt l j) p=true∨∃k,j<k∧k<l.length∧cl4 (gt l i) (gt l j) (gt l k) p=true)):=by
 unfold wth sAny3 sAny4
 simp only[List.any_eq_true,List.mem_range'_1,Bool.or_eq_true]
 constructor
 ·rintro⟨i,hi,h | ⟨j,hj,h | ⟨k,hk,h⟩⟩⟩
  ·exact⟨i,by omega,.inl h⟩
  ·exact⟨i,by omega,.inr ⟨j,by omega,by omega,.inl h⟩⟩
  ·exact⟨i,by omega,.inr ⟨j,by omega,by omega,.inr ⟨k,by omega,by omega,h⟩⟩⟩
 ·rintro⟨i,hi,h | ⟨j,hj,hj2,h | ⟨k,hk,hk2,h⟩⟩⟩
  ·exact⟨i,by omega,.inl h⟩
  ·exact⟨i,by omega,.inr ⟨j,by omega,.inl h⟩⟩
  ·exact⟨i,by omega,.inr ⟨j,by omega,.inr ⟨k,by omega,h⟩⟩⟩
theorem wth_less{l1 l2:List Pl}{x p:Pl}(h:wth (l1++x::l2) p=false):wth (l1++l2) p=false:=by
 have key:¬wth (l1++x::l2) p=true:=by simp[h]
 rw[←Bool.not_eq_true]
 intro h2
 apply key
 rw[wth_iff] at h2 ⊢
 let f:Nat→Nat:=fun i=>if i<l1.length then i else i+1
 have fd:∀i,f i=if i<l1.length then i else i+1:=fun _=>rfl
 have f1:∀i j,i<j→f i<f j:=fun i j hij=>by
  rw[fd,fd]
  split <;> split <;> omega
 have f2:∀i,i<(l1++l2).length→f i<(l1++x::l2).length:=fun i hi=>by
  simp only[List.length_append,List.length_cons] at hi ⊢
  rw[fd]
  split <;> omega
 have f3:∀i,gt (l1++x::l2) (f i)=gt (l1++l2) i:=fun i=>by
  unfold gt
  show (((l1++x::l2)[if i<l1.length then i else i+1]?).getD _)=_
  split
  ·rename_i hi;rw[List.getElem?_append_left hi,List.getElem?_append_left hi]
  ·rename_i hi
   rw[List.getElem?_append_right (by omega),List.getElem?_append_right (by omega),show i+1-l1.length=(i-l1.length)+1 by omega,List.getElem?_cons_succ]
 obtain⟨i,hi,h | ⟨j,hj,hj2,h | ⟨k,hk,hk2,h⟩⟩⟩:=h2
 ·exact⟨f i,f2 i hi,.inl (by rw[f3];exact h)⟩
 ·exact⟨f i,f2 i hi,.inr ⟨f j,f1 _ _ hj,f2 j hj2,.inl (by rw[f3,f3];exact h)⟩⟩
 ·exact⟨f i,f2 i hi,.inr ⟨f j,f1 _ _ hj,f2 j hj2,.inr ⟨f k,f1 _ _ hk,f2 k hk2,by rw[f3,f3,f3];exact h⟩⟩⟩
theorem Rt.less{s:Sol}{path:List Pl}(h:Rt s path):∀(l1 l2:List Pl) (x:Pl),path=l1++x::l2→Rt s (l1++l2):=by
 induction h with
 | leaf hz=>intro _ _ _ _;exact .leaf hz
 | @node p a b path h1 h2 h3 h4 _ _ iha ihb =>
  intro l1 l2 x e
  subst e
  refine .node h1 (by simp at h2 ⊢;omega) (wth_less h3) (wth_less h4) ?_ ?_
  ·have:=iha l1 (l2++[p]) x (by simp)
   simpa using this
  ·have:=ihb l1 (l2++[flp p]) x (by simp)
   simpa using this
theorem Rt.lens{s:Sol}{path:List Pl}(h:Rt s path):Lens s:=by
 induction h with
 | leaf hz=>exact .mk (by simp[big]) (by simp)
 | node _ _ _ _ _ _ iha ihb =>
  refine .mk (by simp[big]) fun x hx=>?_
  simp only[List.mem_cons,List.not_mem_nil,or_false] at hx
  rcases hx with rfl | rfl
  ·exact iha
  ·exact ihb
end Evl.T
namespace Evl.T
open Go Evl
def plEq (p q:Pl):Bool:=p.A==q.A&&(p.B==q.B&&(p.C==q.C&&(p.D==q.D&&true)))
theorem plEq_iff(p q:Pl):plEq p q=true↔p=q:=by
 cases p;cases q;simp[plEq]
theorem plEq_no{p q:Pl}(h:p≠q):plEq p q=false:=by
 rw[←Bool.not_eq_true,plEq_iff];exact h
theorem iSameStep(n:Nat)(self:Sol×Sol→Option Bool)(i j:Bool)(p q:Pl)(k l:List Sol):Dimpl_SameTree_b n self (.mk i p k,.mk j q l) =
  frk (i==j) (frk (plEq p q) ((frk ((k.length:Int) != (l.length:Int)) (some false) (loopN (Dslices_EqualFuncfimpl_SameTree_in_0 n self l k (k.length:Int)) n 0)).bind fun v0=>some v0) (some false)) (some false):=rfl
open Classical in
theorem kidsLoop(self:Sol×Sol→Option Bool)(F:(Int→Option Bool)→Int→Option Bool)(k l:List Sol)(hl:k.length≤big)(hkl:k.length=l.length)(hs:∀x∈k,∀y,self (x,y)=some (decide (x=y)))
  (hF:∀rec (t:Int),F rec t=frk (decide (t<(k.length:Int))) ((lget k t).bind fun v0=>(lget l t).bind fun v1=>(self (v0,v1)).bind fun v2=>frk (!v2) (some false) (rec (w64 (t+1)))) (some true)) (n:Nat) (hn:k.length<n) :
  loopN F n 0=some (decide (k=l)):=by
 have:=search (F:=F) (len:=k.length) (b:=fun t=>decide (k[t]?≠l[t]?)) (hit:=some false) (miss:=some true) hl ?_ ?_ k.length 0 n (by omega) hn
 ·rw[show (0:Int)=((0:Nat):Int) from rfl,this]
  by_cases h:k=l
  ·subst h
   have:(List.range' 0 k.length).any (fun t=>decide (k[t]?≠k[t]?))=false:=by simp
   rw[this];simp
  ·have:(List.range' 0 k.length).any (fun t=>decide (k[t]?≠l[t]?))=true:=by
    rw[List.any_eq_true]
    apply Classical.byContradiction
    intro hno
    apply h
    apply List.ext_getElem?
    intro t
    rcases Nat.lt_or_ge t k.length with ht | ht
    ·apply Classical.byContradiction
     intro hne
     exact hno ⟨t,by simp;omega,by simpa using hne⟩
    ·rw[List.getElem?_eq_none ht,List.getElem?_eq_none (by omega)]
   rw[this];simp[h]
 ·intro rec t ht
  obtain⟨x,hx⟩:∃x,k[t]?=some x:=⟨k[t],List.getElem?_eq_getElem ht⟩
  obtain⟨y,hy⟩:∃y,l[t]?=some y:=⟨l[t]'(by omega),List.getElem?_eq_getElem (by omega)⟩
  rw[hF,lt_dec ht,frk_t,lget_nat,lget_nat,hx,hy,Option.bind_some,Option.bind_some,hs x (List.mem_of_getElem? hx) y,Option.bind_some]
  by_cases h:x=y
  ·subst h;simp[frk_f]
  ·simp[h,frk_t]
 ·intro rec
  rw[hF,lt_self,frk_f]
open Classical in
theorem iSame:∀a,Lens a→E2 fun n m=>∀b,loopN (Dimpl_SameTree_b n) m (a,b)=some (decide (a=b)):=by
 refine sol_ind fun i p k ih hl=>?_
 cases hl with
 | mk hk hx =>
  have h1:=E2.all fun x hxm=>ih x hxm (hx x hxm)
  have h2:E2 fun n _=>k.length<n:=⟨k.length+1,fun n hn _ _=>by omega⟩
  refine E2.suc ((h1.and h2).mono fun n m ⟨h1,h2⟩ b=>?_)
  obtain⟨j,q,l⟩:=b
  rw[loop_suc,iSameStep]
  by_cases e1:i=j
  ·subst e1
   rw[beq_self_eq_true,frk_t]
   by_cases e2:p=q
   ·subst e2
    rw[(plEq_iff p p).2 rfl,frk_t]
    by_cases e3:k.length=l.length
    ·rw[show ((k.length:Int) != (l.length:Int))=false by simp[e3],frk_f,kidsLoop _ (Dslices_EqualFuncfimpl_SameTree_in_0 n (loopN (Dimpl_SameTree_b n) m) l k (k.length:Int)) k l hk e3 h1 (fun _ _=>rfl) n h2]
     simp
    ·rw[show ((k.length:Int) != (l.length:Int))=true by simp;omega,frk_t]
     have:k≠l:=fun e=>e3 (by rw[e])
     simp[this]
   ·rw[plEq_no e2,frk_f];simp[e2]
  ·rw[show (i==j)=false by simp[e1],frk_f];simp[e1]
end Evl.T
namespace Evl.T
open Go Evl
def sm (f:Pl→Int):List (Int×Pl)→Int
 | []=>0
 | x::r=>x.1*f x.2+sm f r
theorem sm_cons(f:Pl→Int)(x:Int×Pl)(r:List (Int×Pl)):sm f (x::r)=x.1*f x.2+sm f r:=rfl
theorem sm_nil(f:Pl→Int):sm f []=0:=rfl
structure Cert(c:List (Int×Pl)):Prop where
 pos:∀x∈c,0<x.1
 a:sm Pl.A c=0
 b:sm Pl.B c=0
 cc:sm Pl.C c=0
 d:sm Pl.D c≤0
 ne:c≠[]
def tw (t:List (Int×Int×Pl)):List (Int×Pl):=t.map fun x=>(x.1,x.2.2)
def tv (t:List (Int×Int×Pl)):List (Int×Pl):=t.map fun x=>(x.2.1,x.2.2)
def tm (a b:Int)(t:List (Int×Int×Pl)):List (Int×Pl):=t.map fun x=>(a*x.1+b*x.2.1,x.2.2)
theorem sm_tm(f:Pl→Int)(a b:Int)(t:List (Int×Int×Pl)):sm f (tm a b t)=a*sm f (tw t)+b*sm f (tv t):=by
 induction t with
 | nil=>simp[tm,tw,tv,sm]
 | cons x r ih =>
  simp only[tm,tw,tv,List.map_cons,sm_cons] at ih ⊢
  rw[ih];grind
def pst (c:List (Int×Pl)):List (Int×Pl):=c.filter fun x=>decide (0<x.1)
theorem sm_pst(f:Pl→Int)(c:List (Int×Pl))(h:∀x∈c,0≤x.1):sm f (pst c)=sm f c:=by
 induction c with
 | nil=>rfl
 | cons x r ih =>
  have ih:=ih fun y hy=>h y (List.mem_cons_of_mem _ hy)
  have hx:=h x List.mem_cons_self
  unfold pst at ih ⊢
  by_cases hp:0<x.1
  ·rw[List.filter_cons_of_pos (by simpa using hp),sm_cons,sm_cons,ih]
  ·rw[List.filter_cons_of_neg (by simpa using hp),sm_cons,ih,show x.1=0 by omega];omega
theorem pst_pos{c:List (Int×Pl)}{x:Int×Pl}(h:x∈pst c):0<x.1:=by
 unfold pst at h;simpa using (List.mem_filter.1 h).2
theorem pst_sub(c:List (Int×Pl)):(pst c).Sublist c:=List.filter_sublist
theorem pst_lt{c:List (Int×Pl)}{x:Int×Pl}(h:x∈c)(h0:x.1=0):(pst c).length<c.length:=by
 rcases Nat.lt_or_ge (pst c).length c.length with h1 | h1
 ·exact h1
 ·have e:=(pst_sub c).eq_of_length_le h1
  rw[←e] at h;have:=pst_pos h;omega
theorem mul_can{a b c:Int}(h:a*c≤b*c)(hc:0<c):a≤b:=Int.le_of_mul_le_mul_right h hc
theorem most(t:List (Int×Int×Pl))(h:∀x∈t,0<x.1)(hn:t≠[]):∃m∈t,∀x∈t,x.2.1*m.1≤m.2.1*x.1:=by
 induction t with
 | nil=>exact absurd rfl hn
 | cons x r ih =>
  have hx:=h x List.mem_cons_self
  by_cases hr:r=[]
  ·subst hr
   exact⟨x,List.mem_cons_self,fun y hy=>by rw[List.mem_singleton.1 hy];exact Int.le_refl _⟩
  ·obtain⟨m,hm,h1⟩:=ih (fun y hy=>h y (List.mem_cons_of_mem _ hy)) hr
   have hmp:=h m (List.mem_cons_of_mem _ hm)
   by_cases hc:x.2.1*m.1≤m.2.1*x.1
   ·refine⟨m,List.mem_cons_of_mem _ hm,fun y hy=>?_⟩
    rcases List.mem_cons.1 hy with rfl | hy
    ·exact hc
    ·exact h1 y hy
   ·refine⟨x,List.mem_cons_self,fun y hy=>?_⟩
    rcases List.mem_cons.1 hy with rfl | hy
    ·exact Int.le_refl _
    ·have hyp:=h y (List.mem_cons_of_mem _ hy)
     have h2:=h1 y hy
     refine mul_can (c:=m.1) ?_ hmp
     have h3:y.2.1*m.1*x.1≤m.2.1*y.1*x.1:=Int.mul_le_mul_of_nonneg_right h2 (by omega)
     have h4:m.2.1*x.1*y.1≤x.2.1*m.1*y.1:=Int.mul_le_mul_of_nonneg_right (by omega) (by omega)
     have e1:y.2.1*x.1*m.1=y.2.1*m.1*x.1:=by grind
     have e2:m.2.1*y.1*x.1=m.2.1*x.1*y.1:=by grind
     have e3:x.2.1*y.1*m.1=x.2.1*m.1*y.1:=by grind
     omega
theorem least(t:List (Int×Int×Pl))(h:∀x∈t,0<x.1)(hn:t≠[]):∃m∈t,∀x∈t,m.2.1*x.1≤x.2.1*m.1:=by
 obtain⟨m,hm,h1⟩:=most (t.map fun x=>(x.1,-x.2.1,x.2.2)) (fun x hx=>by
  obtain⟨y,hy,rfl⟩:=List.mem_map.1 hx;exact h y hy) (by simpa using hn)
 obtain⟨k,hk,rfl⟩:=List.mem_map.1 hm
 refine⟨k,hk,fun x hx=>?_⟩
 have:=h1 _ (List.mem_map.2 ⟨x,hx,rfl⟩)
 simp only[Int.neg_mul] at this
 omega
theorem snd_tm(a b:Int)(t:List (Int×Int×Pl)):(tm a b t).map (·.2)=t.map (·.2.2):=by simp[tm]
theorem red(t:List (Int×Int×Pl))(hc:Cert (tw t))(ha:sm Pl.A (tv t)=0)(hb:sm Pl.B (tv t)=0)(hcc:sm Pl.C (tv t)=0)
  (hne:∃x∈t,∃y∈t,x.1*y.2.1≠y.1*x.2.1):∃c,Cert c∧c.length<t.length∧(c.map (·.2)).Sublist (t.map (·.2.2)):=by
 have hp:∀x∈t,0<x.1:=fun x hx=>hc.pos _ (List.mem_map.2 ⟨x,hx,rfl⟩)
 obtain⟨x,hx,y,hy,hxy⟩:=hne
 have hn:t≠[]:=fun h=>by rw[h] at hx;cases hx
 obtain⟨m,hm,h1⟩:=most t hp hn
 obtain⟨k,hk,h2⟩:=least t hp hn
 have hmp:=hp m hm;have hkp:=hp k hk
 have hlt:k.2.1*m.1<m.2.1*k.1:=by
  rcases Int.lt_or_le (k.2.1*m.1) (m.2.1*k.1) with h | h
  ·exact h
  ·exfalso
   have same:∀z∈t,z.2.1*m.1=m.2.1*z.1:=fun z hz=>by
    have a1:=h1 z hz;have a2:=h2 z hz
    have hzp:=hp z hz
    have b1:m.2.1*k.1*z.1≤k.2.1*m.1*z.1:=Int.mul_le_mul_of_nonneg_right h (by omega)
    have b2:k.2.1*z.1*m.1≤z.2.1*k.1*m.1:=Int.mul_le_mul_of_nonneg_right a2 (by omega)
    have b3:m.2.1*z.1≤z.2.1*m.1:=mul_can (c:=k.1) (by
     have e1:m.2.1*z.1*k.1=m.2.1*k.1*z.1:=by grind
     have e2:k.2.1*m.1*z.1=k.2.1*z.1*m.1:=by grind
     have e3:z.2.1*m.1*k.1=z.2.1*k.1*m.1:=by grind
     omega) hkp
    omega
   have s1:=same x hx;have s2:=same y hy
   apply hxy
   have:(x.1*y.2.1)*m.1=(y.1*x.2.1)*m.1:=by grind
   exact Int.eq_of_mul_eq_mul_right (by omega) this
 have main:∀(a b:Int),(∀z∈t,0≤a*z.1+b*z.2.1)→(∃z∈t,0<a*z.1+b*z.2.1)→(∃z∈t,a*z.1+b*z.2.1=0)→a*sm Pl.D (tw t)+b*sm Pl.D (tv t)≤0 →
   ∃c,Cert c∧c.length<t.length∧(c.map (·.2)).Sublist (t.map (·.2.2)):=by
  intro a b q1 q2 q3 q4
  have hge:∀z∈tm a b t,0≤z.1:=fun z hz=>by obtain⟨w,hw,rfl⟩:=List.mem_map.1 hz;exact q1 w hw
  refine⟨pst (tm a b t),⟨fun z hz=>pst_pos hz,?_,?_,?_,?_,?_⟩,?_,?_⟩
  ·rw[sm_pst _ _ hge,sm_tm,hc.a,ha];simp
  ·rw[sm_pst _ _ hge,sm_tm,hc.b,hb];simp
  ·rw[sm_pst _ _ hge,sm_tm,hc.cc,hcc];simp
  ·rw[sm_pst _ _ hge,sm_tm];exact q4
  ·obtain⟨z,hz,h0⟩:=q2
   intro h
   have:(a*z.1+b*z.2.1,z.2.2)∈pst (tm a b t):=List.mem_filter.2 ⟨List.mem_map.2 ⟨z,hz,rfl⟩,by simpa using h0⟩
   rw[h] at this;cases this
  ·obtain⟨z,hz,h0⟩:=q3
   have:=pst_lt (c:=tm a b t) (x:=(a*z.1+b*z.2.1,z.2.2)) (List.mem_map.2 ⟨z,hz,rfl⟩) h0
   rwa [show (tm a b t).length=t.length by simp[tm]] at this
  ·rw[←snd_tm a b t];exact(pst_sub _).map _
 have hD:=hc.d
 by_cases hs:m.2.1*sm Pl.D (tw t)+(-m.1)*sm Pl.D (tv t)≤0
 ·refine main m.2.1 (-m.1) (fun z hz=>?_) ⟨k,hk,?_⟩ ⟨m,hm,?_⟩ hs
  ·have:=h1 z hz;rw[Int.neg_mul,Int.mul_comm m.1];omega
  ·rw[Int.neg_mul,Int.mul_comm m.1];omega
  ·grind
 ·refine main (-k.2.1) k.1 (fun z hz=>?_) ⟨m,hm,?_⟩ ⟨k,hk,?_⟩ ?_
  ·have:=h2 z hz;rw[Int.neg_mul,Int.mul_comm k.1];omega
  ·rw[Int.neg_mul,Int.mul_comm k.1];omega
  ·grind
  ·have q1:0<(m.2.1*sm Pl.D (tw t)+(-m.1)*sm Pl.D (tv t))*k.1:=Int.mul_pos (by omega) hkp
   have q2:(m.2.1*k.1-k.2.1*m.1)*sm Pl.D (tw t)≤0:=Int.mul_nonpos_of_nonneg_of_nonpos (by omega) hD
   refine mul_can (c:=m.1) ?_ hmp
   have e:((-k.2.1)*sm Pl.D (tw t)+k.1*sm Pl.D (tv t))*m.1=(m.2.1*k.1-k.2.1*m.1)*sm Pl.D (tw t)-(m.2.1*sm Pl.D (tw t)+(-m.1)*sm Pl.D (tv t))*k.1:=by grind
   rw[e];omega
theorem sub_get{x:Pl}{r:List Pl}:∀{l:List Pl},(x::r).Sublist l→∃j,j<l.length∧gt l j=x∧r.Sublist (l.drop (j+1)):=by
 intro l
 induction l with
 | nil=>intro h;cases h
 | cons y l ih =>
  intro h
  cases h with
  | cons _ h =>
   obtain⟨j,h1,h2,h3⟩:=ih h
   exact⟨j+1,by simp only[List.length_cons];omega,h2,h3⟩
  | cons_cons _ h=>exact⟨0,by simp,rfl,h⟩
theorem gt_drop(l:List Pl)(i j:Nat):gt (l.drop i) j=gt l (i+j):=by unfold gt;rw[List.getElem?_drop]
theorem get_sub{l:List Pl}{i:Nat}{r:List Pl}(h:i<l.length)(hr:r.Sublist (l.drop (i+1))):(gt l i::r).Sublist (l.drop i):=by
 rw[List.drop_eq_getElem_cons h,show gt l i=l[i] by unfold gt;rw[List.getElem?_eq_getElem h];rfl]
 exact hr.cons_cons _
theorem drop_up{l r:List Pl}{i j:Nat}(h:i≤j)(hr:r.Sublist (l.drop j)):r.Sublist (l.drop i):=by
 have e:l.drop j=(l.drop i).drop (j-i):=by rw[List.drop_drop];congr 1;omega
 rw[e] at hr
 exact hr.trans (List.drop_sublist _ _)
theorem drop_any{l r:List Pl}{j:Nat}(hr:r.Sublist (l.drop j)):r.Sublist l:=drop_up (Nat.zero_le j) hr
theorem wth_sub(l:List Pl)(p:Pl):wth l p=true↔(∃q,[q].Sublist l∧cl2 q p=true)∨(∃q r,[q,r].Sublist l∧cl3 q r p=true)∨(∃q r s,[q,r,s].Sublist l∧cl4 q r s p=true):=by
 rw[wth_iff]
 constructor
 ·rintro⟨i,hi,h | ⟨j,hj,hj2,h | ⟨k,hk,hk2,h⟩⟩⟩
  ·exact .inl ⟨_,drop_any (get_sub hi (List.nil_sublist _)),h⟩
  ·exact .inr (.inl ⟨_,_,drop_any (get_sub hi (drop_up (j:=j) hj (get_sub hj2 (List.nil_sublist _)))),h⟩)
  ·exact .inr (.inr ⟨_,_,_,drop_any (get_sub hi (drop_up (j:=j) hj (get_sub hj2 (drop_up (j:=k) hk (get_sub hk2 (List.nil_sublist _)))))),h⟩)
 ·rintro(⟨q,h1,h⟩ | ⟨q,r,h1,h⟩ | ⟨q,r,s,h1,h⟩)
  ·obtain⟨i,hi,rfl,_⟩:=sub_get h1
   exact⟨i,hi,.inl h⟩
  ·obtain⟨i,hi,rfl,h2⟩:=sub_get h1
   obtain⟨j,hj,rfl,_⟩:=sub_get h2
   rw[gt_drop] at h;rw[List.length_drop] at hj
   exact⟨i,hi,.inr ⟨i+1+j,by omega,by omega,.inl h⟩⟩
  ·obtain⟨i,hi,rfl,h2⟩:=sub_get h1
   obtain⟨j,hj,rfl,h3⟩:=sub_get h2
   obtain⟨k,hk,rfl,_⟩:=sub_get h3
   rw[gt_drop,gt_drop,gt_drop] at h;rw[List.length_drop] at hj hk;rw[List.length_drop] at hk
   exact⟨i,hi,.inr ⟨i+1+j,by omega,by omega,.inr ⟨i+1+(j+1+k),by omega,by omega,h⟩⟩⟩
inductive Opn:List Pl→Prop
 | nil:Opn []
 | snoc {l p}:Opn l→wth l p=false→Opn (l++[p])
theorem sub_snoc{r l:List Pl}{p q:Pl}(h:(r++[p]).Sublist (l++[q])):(r++[p]).Sublist l∨(p=q∧r.Sublist l):=by
 have h:=h.reverse
 rw[List.reverse_append,List.reverse_append] at h
 simp only[List.reverse_singleton,List.singleton_append] at h
 cases h with
 | cons _ h=>left;have:=h.reverse;simpa using this
 | cons_cons _ h=>right;exact⟨rfl,by have:=h.reverse;simpa using this⟩
theorem Opn.last{l:List Pl}(h:Opn l){r:List Pl}{p:Pl}(hs:(r++[p]).Sublist l):∃l',r.Sublist l'∧wth l' p=false:=by
 induction h with
 | nil=>have:=hs.length_le;simp at this
 | @snoc l q _ hw ih =>
  rcases sub_snoc hs with h | ⟨rfl,h⟩
  ·exact ih h
  ·exact⟨l,h,hw⟩
def Nz (p:Pl):Prop:=p.A≠0∨p.B≠0∨p.C≠0
theorem pOk_Nz{p:Pl}(h:pOk p=true):Nz p:=by
 unfold pOk at h;simp only[Bool.and_eq_true,decide_eq_true_eq] at h;exact h.2.2.2.2.1
theorem cr_dep(p q:Pl):cr0 p q=0∧cr1 p q=0∧cr2 p q=0→Nz p→Nz q→∃x y,x≠0∧y≠0∧x*p.A+y*q.A=0∧x*p.B+y*q.B=0∧x*p.C+y*q.C=0:=by
 obtain⟨a,b,c,d⟩:=p;obtain⟨e,f,g,i⟩:=q
 unfold Nz cr0 cr1 cr2
 simp only
 rintro⟨h0,h1,h2⟩ hp hq
 have z:∀x y:Int,x≠0→x*y=0→y=0:=fun x y hx h=>(Int.mul_eq_zero.1 h).resolve_left hx
 by_cases ha:a=0
 ·by_cases hb:b=0
  ·have hc:c≠0:=by rcases hp with h | h | h <;> first | exact absurd ha h | exact absurd hb h | exact h
   refine⟨g,-c,?_,by omega,?_,?_,?_⟩
   ·rintro rfl
    have:=z c e hc (by grind);have:=z c f hc (by grind)
    rcases hq with h | h | h <;> omega
   ·grind
   ·grind
   ·grind
  ·refine⟨f,-b,?_,by omega,?_,?_,?_⟩
   ·rintro rfl
    have:=z b e hb (by grind);have:=z b g hb (by grind)
    rcases hq with h | h | h <;> omega
   ·grind
   ·grind
   ·grind
 ·refine⟨e,-a,?_,by omega,?_,?_,?_⟩
  ·rintro rfl
   have:=z a f ha (by grind);have:=z a g ha (by grind)
   rcases hq with h | h | h <;> omega
  ·grind
  ·grind
  ·grind
end Evl.T
namespace Evl.T
open Go Evl
theorem sm_app(f:Pl→Int)(a b:List (Int×Pl)):sm f (a++b)=sm f a+sm f b:=by
 induction a with
 | nil=>simp[sm]
 | cons x r ih=>simp only[List.cons_append,sm_cons,ih];omega
theorem sm_zero(f:Pl→Int)(b:List (Int×Pl)):sm f (b.map fun x=>((0:Int),x.2))=0:=by
 induction b with
 | nil=>rfl
 | cons x r ih=>simp only[List.map_cons,sm_cons,ih];omega
theorem red2(pre:List (Int×Int×Pl))(rest:List (Int×Pl))(hc:Cert (tw pre++rest))(ha:sm Pl.A (tv pre)=0)(hb:sm Pl.B (tv pre)=0)(hcc:sm Pl.C (tv pre)=0)
  (hne:(∃x∈pre,∃y∈pre,x.1*y.2.1≠y.1*x.2.1)∨(rest≠[]∧∃x∈pre,x.2.1≠0)) :
  ∃c,Cert c∧c.length<(tw pre++rest).length∧(c.map (·.2)).Sublist ((tw pre++rest).map (·.2)):=by
 let t:=pre++rest.map fun x=>(x.1,(0:Int),x.2)
 have e1:tw t=tw pre++rest:=by simp[t,tw,Function.comp_def]
 have e2:∀f,sm f (tv t)=sm f (tv pre):=fun f=>by
  have:tv t=tv pre++rest.map fun x=>((0:Int),x.2):=by simp[t,tv,Function.comp_def]
  rw[this,sm_app,sm_zero];omega
 have e3:t.map (·.2.2)=(tw pre++rest).map (·.2):=by simp[t,tw,Function.comp_def]
 have e4:t.length=(tw pre++rest).length:=by simp[t,tw]
 obtain⟨c,h1,h2,h3⟩:=red t (by rw[e1];exact hc) (by rw[e2];exact ha) (by rw[e2];exact hb) (by rw[e2];exact hcc) (by
  rcases hne with ⟨x,hx,y,hy,h⟩ | ⟨hr,x,hx,h⟩
  ·exact⟨x,List.mem_append_left _ hx,y,List.mem_append_left _ hy,h⟩
  ·obtain⟨y,r,rfl⟩:=List.exists_cons_of_ne_nil hr
   refine⟨x,List.mem_append_left _ hx,(y.1,0,y.2),List.mem_append_right _ (by simp),?_⟩
   have hy:0<y.1:=hc.pos y (List.mem_append_right _ (by simp))
   intro h0
   simp only[Int.mul_zero] at h0
   rcases Int.mul_eq_zero.1 h0.symm with h1 | h1
   ·omega
   ·exact h h1)
 exact⟨c,h1,by omega,by rw[←e3];exact h3⟩
theorem same2{w1 w2:Int}{p q:Pl}(h1:0<w1)(h2:0<w2)(hq:Nz q)(ha:w1*p.A+w2*q.A=0)(hb:w1*p.B+w2*q.B=0)(hc:w1*p.C+w2*q.C=0)
  (hd:w1*p.D+w2*q.D≤0):cl2 p q=true:=by
 obtain⟨a,b,c,d⟩:=p;obtain⟨e,f,g,i⟩:=q
 simp only at ha hb hc hd
 have z:∀y:Int,w1*y=0→y=0:=fun y h=>(Int.mul_eq_zero.1 h).resolve_left (by omega)
 have hpos:0<d3 e f g e f g:=d3_pos (fun h=>by
  unfold Nz at hq;simp only at hq
  rcases hq with h' | h' | h'
  ·exact h' h.1
  ·exact h' h.2.1
  ·exact h' h.2.2)
 unfold cl2
 rw[decide_eq_true_iff]
 simp only[cr0,cr1,cr2,dt]
 refine⟨⟨z _ (by grind),z _ (by grind),z _ (by grind),?_⟩,?_⟩
 ·have e1:w1*(a*e+b*f+c*g)=-(w2*d3 e f g e f g):=by unfold d3;grind
  have e2:0<w2*d3 e f g e f g:=Int.mul_pos h2 hpos
  rcases Int.lt_or_le (a*e+b*f+c*g) 0 with h | h
  ·exact h
  ·have:=Int.mul_nonneg (Int.le_of_lt h1) h;omega
 ·have n:∀x y:Int,w1*x+w2*y=0→w1*(x.natAbs:Int)=w2*(y.natAbs:Int):=fun x y h=>by
   have:=na_mul (a:=w1) (b:=x) (c:=w2) (d:=-y) (by grind)
   rw[Int.natAbs_neg] at this
   rwa [Int.natAbs_of_nonneg (a:=w1) (by omega),Int.natAbs_of_nonneg (a:=w2) (by omega)] at this
  have na:=n _ _ ha;have nb:=n _ _ hb;have nc:=n _ _ hc
  push_cast
  refine mul_can (c:=w1) ?_ h1
  have e1:((↑e.natAbs+↑f.natAbs+↑g.natAbs)*d+(↑a.natAbs+↑b.natAbs+↑c.natAbs)*i)*w1=((e.natAbs:Int)+f.natAbs+g.natAbs)*(w1*d+w2*i):=by grind
  rw[e1,Int.zero_mul]
  exact Int.mul_nonpos_of_nonneg_of_nonpos (by omega) hd
theorem sgn_of{w k x y:Int}(hw:0<w)(hk:0<k)(h:w*x=k*y):(0<y→0<x)∧(y<0→x<0)∧w*(x.natAbs:Int)=k*(y.natAbs:Int):=by
 refine⟨fun hy=>?_,fun hy=>?_,?_⟩
 ·have:=Int.mul_pos hk hy
  rcases Int.lt_or_le 0 x with h1 | h1
  ·exact h1
  ·have:=Int.mul_nonpos_of_nonneg_of_nonpos (Int.le_of_lt hw) h1;omega
 ·have:k*y<0:=Int.mul_neg_of_pos_of_neg hk hy
  rcases Int.lt_or_le x 0 with h1 | h1
  ·exact h1
  ·have:=Int.mul_nonneg (Int.le_of_lt hw) h1;omega
 ·have:=na_mul h
  rwa [Int.natAbs_of_nonneg (a:=w) (by omega),Int.natAbs_of_nonneg (a:=k) (by omega)] at this
theorem same3{w1 w2 w3 x y z:Int}{p q r:Pl}(h1:0<w1)(h2:0<w2)(h3:0<w3)(hz:z≠0)(hx:w3*x=w1*z)(hy:w3*y=w2*z)
  (hd:w1*p.D+w2*q.D+w3*r.D≤0):sk x y z p.D q.D r.D=true:=by
 have sx:=sgn_of h3 h1 hx;have sy:=sgn_of h3 h2 hy
 unfold sk
 rw[decide_eq_true_iff]
 refine⟨?_,?_⟩
 ·rcases Int.lt_or_lt_of_ne hz with h | h
  ·exact .inr ⟨sx.2.1 h,sy.2.1 h,h⟩
  ·exact .inl ⟨sx.1 h,sy.1 h,h⟩
 ·refine mul_can (c:=w3) ?_ h3
  have e:((x.natAbs:Int)*p.D+(y.natAbs:Int)*q.D+(z.natAbs:Int)*r.D)*w3=(z.natAbs:Int)*(w1*p.D+w2*q.D+w3*r.D):=by
   have a1:=sx.2.2;have a2:=sy.2.2;grind
  rw[e,Int.zero_mul]
  exact Int.mul_nonpos_of_nonneg_of_nonpos (by omega) hd
theorem same4{w1 w2 w3 w4:Int}{p q r s:Pl}(h1:0<w1)(h2:0<w2)(h3:0<w3)(h4:0<w4)(hz:0-det3 p q r≠0)
  (hx:w4*det3 q r s=w1*(0-det3 p q r)) (hy:w4*(0-det3 p r s)=w2*(0-det3 p q r)) (hv:w4*det3 p q s=w3*(0-det3 p q r))
  (hd:w1*p.D+w2*q.D+w3*r.D+w4*s.D≤0):cl4 p q r s=true:=by
 have sx:=sgn_of h4 h1 hx;have sy:=sgn_of h4 h2 hy;have sv:=sgn_of h4 h3 hv
 unfold cl4
 generalize det3 q r s=a at *
 generalize (0-det3 p r s)=b at *
 generalize det3 p q s=c at *
 generalize (0-det3 p q r)=z at *
 rw[decide_eq_true_iff]
 refine⟨?_,?_⟩
 ·rcases Int.lt_or_lt_of_ne hz with h | h
  ·exact .inr ⟨sx.2.1 h,sy.2.1 h,sv.2.1 h,h⟩
  ·exact .inl ⟨sx.1 h,sy.1 h,sv.1 h,h⟩
 ·refine mul_can (c:=w4) ?_ h4
  have e:((a.natAbs:Int)*p.D+(b.natAbs:Int)*q.D+(c.natAbs:Int)*r.D+(z.natAbs:Int)*s.D)*w4=(z.natAbs:Int)*(w1*p.D+w2*q.D+w3*r.D+w4*s.D):=by
   have a1:=sx.2.2;have a2:=sy.2.2;have a3:=sv.2.2;grind
  rw[e,Int.zero_mul]
  exact Int.mul_nonpos_of_nonneg_of_nonpos (by omega) hd
theorem cross_dep{p q r:Pl}(h:det3 p q r=0) :
  (cr0 q r*p.A+cr0 r p*q.A+cr0 p q*r.A=0∧cr0 q r*p.B+cr0 r p*q.B+cr0 p q*r.B=0∧cr0 q r*p.C+cr0 r p*q.C+cr0 p q*r.C=0) ∧
  (cr1 q r*p.A+cr1 r p*q.A+cr1 p q*r.A=0∧cr1 q r*p.B+cr1 r p*q.B+cr1 p q*r.B=0∧cr1 q r*p.C+cr1 r p*q.C+cr1 p q*r.C=0) ∧
  (cr2 q r*p.A+cr2 r p*q.A+cr2 p q*r.A=0∧cr2 q r*p.B+cr2 r p*q.B+cr2 p q*r.B=0∧cr2 q r*p.C+cr2 r p*q.C+cr2 p q*r.C=0):=by
 obtain⟨a,b,c,d⟩:=p;obtain⟨e,f,g,i⟩:=q;obtain⟨j,k,l,m⟩:=r
 simp only[det3,cr0,cr1,cr2] at h ⊢
 refine⟨⟨?_,?_,?_⟩,⟨?_,?_,?_⟩,?_,?_,?_⟩ <;> grind
theorem det_dep(p q r s:Pl) :
  det3 q r s*p.A+(0-det3 p r s)*q.A+det3 p q s*r.A+(0-det3 p q r)*s.A=0 ∧
  det3 q r s*p.B+(0-det3 p r s)*q.B+det3 p q s*r.B+(0-det3 p q r)*s.B=0 ∧
  det3 q r s*p.C+(0-det3 p r s)*q.C+det3 p q s*r.C+(0-det3 p q r)*s.C=0:=by
 obtain⟨a,b,c,d⟩:=p;obtain⟨e,f,g,i⟩:=q;obtain⟨j,k,l,m⟩:=r;obtain⟨u,v,w,x⟩:=s
 simp only[det3]
 refine⟨?_,?_,?_⟩ <;> grind
theorem det_zero{w1 w2 w3:Int}{p q r:Pl}(h1:0<w1)(ha:w1*p.A+w2*q.A+w3*r.A=0)(hb:w1*p.B+w2*q.B+w3*r.B=0)(hc:w1*p.C+w2*q.C+w3*r.C=0):det3 p q r=0:=by
 obtain⟨a,b,c,d⟩:=p;obtain⟨e,f,g,i⟩:=q;obtain⟨j,k,l,m⟩:=r
 simp only[det3] at ha hb hc ⊢
 refine(Int.mul_eq_zero.1 (show w1*_=0 from ?_)).resolve_left (by omega)
 have e1:w1*a=-(w2*e)-w3*j:=by omega
 have e2:w1*b=-(w2*f)-w3*k:=by omega
 have e3:w1*c=-(w2*g)-w3*l:=by omega
 rw[Int.mul_add,Int.mul_add,←Int.mul_assoc,←Int.mul_assoc,←Int.mul_assoc,e1,e2,e3]
 grind
theorem dep3{p q r:Pl}(h:det3 p q r=0)(hp:Nz p)(hq:Nz q):∃x y z:Int,(x≠0∨z≠0) ∧
  x*p.A+y*q.A+z*r.A=0∧x*p.B+y*q.B+z*r.B=0∧x*p.C+y*q.C+z*r.C=0:=by
 by_cases hw:cr0 p q=0∧cr1 p q=0∧cr2 p q=0
 ·obtain⟨x,y,h1,h2,h3,h4,h5⟩:=cr_dep p q hw hp hq
  exact⟨x,y,0,.inl h1,by omega,by omega,by omega⟩
 ·obtain⟨c0,c1,c2⟩:=cross_dep h
  by_cases h0:cr0 p q=0
  ·by_cases h1:cr1 p q=0
   ·exact⟨_,_,_,.inr fun h2=>hw ⟨h0,h1,h2⟩,c2⟩
   ·exact⟨_,_,_,.inr h1,c1⟩
  ·exact⟨_,_,_,.inr h0,c0⟩
end Evl.T
namespace Evl.T
open Go Evl
theorem no_cert{l:List Pl}(ho:Opn l)(hz:∀q∈l,Nz q):∀(n:Nat) (c:List (Int×Pl)),c.length<n→Cert c→(c.map (·.2)).Sublist l→False:=by
 intro n
 induction n with
 | zero=>intro c h;omega
 | succ n ih =>
  intro c hn hc hs
  have go:(∃c',Cert c'∧c'.length<c.length∧(c'.map (·.2)).Sublist (c.map (·.2)))→False:=fun ⟨c',h1,h2,h3⟩=>ih c' (by omega) h1 (h3.trans hs)
  have nz:∀x∈c,Nz x.2:=fun x hx=>hz _ (hs.subset (List.mem_map.2 ⟨x,hx,rfl⟩))
  have ps:=hc.pos
  have ha:=hc.a;have hb:=hc.b;have hcc:=hc.cc;have hd:=hc.d
  match c,hc,hs,go,nz,ps,ha,hb,hcc,hd with
  | [],hc,_,_,_,_,_,_,_,_=>exact hc.ne rfl
  | [(w,p)],_,_,_,nz,ps,ha,hb,hcc,_ =>
   have hw:=ps _ (List.mem_singleton.2 rfl)
   have hn:=nz _ (List.mem_singleton.2 rfl)
   simp only[sm,Int.add_zero] at ha hb hcc hw
   have z:∀y:Int,w*y=0→y=0:=fun y h=>(Int.mul_eq_zero.1 h).resolve_left (by omega)
   rcases hn with h | h | h
   ·exact h (z _ ha)
   ·exact h (z _ hb)
   ·exact h (z _ hcc)
  | [(w1,p),(w2,q)],_,hs,_,nz,ps,ha,hb,hcc,hd =>
   have h1:0<w1:=ps (w1,p) (by simp)
   have h2:0<w2:=ps (w2,q) (by simp)
   have nq:Nz q:=nz (w2,q) (by simp)
   simp only[sm,Int.add_zero] at ha hb hcc hd
   have hcl:=same2 h1 h2 nq ha hb hcc hd
   obtain⟨l',h3,h4⟩:=ho.last (r:=[p]) (p:=q) hs
   rw[(wth_sub l' q).2 (.inl ⟨p,h3,hcl⟩)] at h4
   cases h4
  | [(w1,p),(w2,q),(w3,r)],hc,hs,go,nz,ps,ha,hb,hcc,hd =>
   have h1:0<w1:=ps (w1,p) (by simp)
   have h2:0<w2:=ps (w2,q) (by simp)
   have h3:0<w3:=ps (w3,r) (by simp)
   have np:Nz p:=nz (w1,p) (by simp)
   have nq:Nz q:=nz (w2,q) (by simp)
   simp only[sm,Int.add_zero] at ha hb hcc hd
   have hdet:det3 p q r=0:=det_zero (w2:=w2) (w3:=w3) h1 (by omega) (by omega) (by omega)
   by_cases hw:cr0 p q=0∧cr1 p q=0∧cr2 p q=0
   ·obtain⟨x,y,hx,hy,e1,e2,e3⟩:=cr_dep p q hw np nq
    refine go (red2 [(w1,x,p),(w2,y,q)] [(w3,r)] hc ?_ ?_ ?_ (.inr ⟨by simp,(w1,x,p),by simp,hx⟩))
    ·simp only[tv,List.map_cons,List.map_nil,sm];omega
    ·simp only[tv,List.map_cons,List.map_nil,sm];omega
    ·simp only[tv,List.map_cons,List.map_nil,sm];omega
   ·obtain⟨c0,c1,c2⟩:=cross_dep hdet
    obtain⟨⟨a1,a2,a3⟩,b1,b2,b3⟩:=par3 hdet
    have pX:=prj a1 a2 a3;have pY:=prj b1 b2 b3
    have key:∀x y z:Int,z≠0→(x*p.A+y*q.A+z*r.A=0∧x*p.B+y*q.B+z*r.B=0∧x*p.C+y*q.C+z*r.C=0) →
      d3 (cr0 q r) (cr1 q r) (cr2 q r) (cr0 p q) (cr1 p q) (cr2 p q)*z=x*d3 (cr0 p q) (cr1 p q) (cr2 p q) (cr0 p q) (cr1 p q) (cr2 p q) →
      d3 (cr0 r p) (cr1 r p) (cr2 r p) (cr0 p q) (cr1 p q) (cr2 p q)*z=y*d3 (cr0 p q) (cr1 p q) (cr2 p q) (cr0 p q) (cr1 p q) (cr2 p q)→False:=by
     intro x y z hz0 ⟨d1,d2,d3'⟩ hX hY
     by_cases hx:w3*x=w1*z
     ·by_cases hy:w3*y=w2*z
      ·have hk:=same3 (p:=p) (q:=q) (r:=r) h1 h2 h3 hz0 hx hy (by omega)
       rw[sk_cl3 hdet hw hz0 hX hY] at hk
       obtain⟨l',h3,h4⟩:=ho.last (r:=[p,q]) (p:=r) hs
       rw[(wth_sub l' r).2 (.inr (.inl ⟨p,q,h3,hk⟩))] at h4
       cases h4
      ·refine go (red2 [(w1,x,p),(w2,y,q),(w3,z,r)] [] hc ?_ ?_ ?_ (.inl ⟨(w3,z,r),by simp,(w2,y,q),by simp,hy⟩))
       ·simp only[tv,List.map_cons,List.map_nil,sm];omega
       ·simp only[tv,List.map_cons,List.map_nil,sm];omega
       ·simp only[tv,List.map_cons,List.map_nil,sm];omega
     ·refine go (red2 [(w1,x,p),(w2,y,q),(w3,z,r)] [] hc ?_ ?_ ?_ (.inl ⟨(w3,z,r),by simp,(w1,x,p),by simp,hx⟩))
      ·simp only[tv,List.map_cons,List.map_nil,sm];omega
      ·simp only[tv,List.map_cons,List.map_nil,sm];omega
      ·simp only[tv,List.map_cons,List.map_nil,sm];omega
    by_cases h0:cr0 p q=0
    ·by_cases h1:cr1 p q=0
     ·exact key _ _ _ (fun h2=>hw ⟨h0,h1,h2⟩) c2 pX.2.2 pY.2.2
     ·exact key _ _ _ h1 c1 pX.2.1 pY.2.1
    ·exact key _ _ _ h0 c0 pX.1 pY.1
  | (w1,p)::(w2,q)::(w3,r)::(w4,s)::rest,hc,hs,go,nz,ps,ha,hb,hcc,hd =>
   have h1:0<w1:=ps (w1,p) (by simp)
   have h2:0<w2:=ps (w2,q) (by simp)
   have h3:0<w3:=ps (w3,r) (by simp)
   have h4:0<w4:=ps (w4,s) (by simp)
   have np:Nz p:=nz (w1,p) (by simp)
   have nq:Nz q:=nz (w2,q) (by simp)
   by_cases hz0:0-det3 p q r=0
   ·obtain⟨x,y,z,hxz,e1,e2,e3⟩:=dep3 (p:=p) (q:=q) (r:=r) (by omega) np nq
    refine go (red2 [(w1,x,p),(w2,y,q),(w3,z,r)] ((w4,s)::rest) hc ?_ ?_ ?_ (.inr ⟨by simp,?_⟩))
    ·simp only[tv,List.map_cons,List.map_nil,sm];omega
    ·simp only[tv,List.map_cons,List.map_nil,sm];omega
    ·simp only[tv,List.map_cons,List.map_nil,sm];omega
    ·rcases hxz with h | h
     ·exact⟨(w1,x,p),by simp,h⟩
     ·exact⟨(w3,z,r),by simp,h⟩
   ·obtain⟨e1,e2,e3⟩:=det_dep p q r s
    have rd:=red2 [(w1,det3 q r s,p),(w2,0-det3 p r s,q),(w3,det3 p q s,r),(w4,0-det3 p q r,s)] rest hc
     (by simp only[tv,List.map_cons,List.map_nil,sm];omega) (by simp only[tv,List.map_cons,List.map_nil,sm];omega) (by simp only[tv,List.map_cons,List.map_nil,sm];omega)
    by_cases hr:rest=[]
    ·subst hr
     by_cases hx:w4*det3 q r s=w1*(0-det3 p q r)
     ·by_cases hy:w4*(0-det3 p r s)=w2*(0-det3 p q r)
      ·by_cases hv:w4*det3 p q s=w3*(0-det3 p q r)
       ·simp only[sm,Int.add_zero] at hd
        have hk:=same4 h1 h2 h3 h4 hz0 hx hy hv (by omega)
        obtain⟨l',h3,h4⟩:=ho.last (r:=[p,q,r]) (p:=s) hs
        rw[(wth_sub l' s).2 (.inr (.inr ⟨p,q,r,h3,hk⟩))] at h4
        cases h4
       ·exact go (rd (.inl ⟨(w4,0-det3 p q r,s),by simp,(w3,det3 p q s,r),by simp,hv⟩))
      ·exact go (rd (.inl ⟨(w4,0-det3 p q r,s),by simp,(w2,0-det3 p r s,q),by simp,hy⟩))
     ·exact go (rd (.inl ⟨(w4,0-det3 p q r,s),by simp,(w1,det3 q r s,p),by simp,hx⟩))
    ·exact go (rd (.inr ⟨hr,(w4,0-det3 p q r,s),by simp,hz0⟩))
def Half (l:List Pl)(p:Pl):Prop:=∃(c:List (Int×Pl)) (m:Int),0<m∧c≠[]∧(∀x∈c,0<x.1)∧(c.map (·.2)).Sublist l ∧
 sm Pl.A c+m*p.A=0∧sm Pl.B c+m*p.B=0∧sm Pl.C c+m*p.C=0∧sm Pl.D c+m*p.D≤0
theorem half2{p q:Pl}{l:List Pl}(hs:[q].Sublist l)(hq:Nz q)(h:cl2 q p=true):Half l p:=by
 unfold cl2 at h
 rw[decide_eq_true_iff] at h
 obtain⟨⟨h0,h1,h2,h3⟩,h4⟩:=h
 obtain⟨a,b,c,d⟩:=p;obtain⟨e,f,g,i⟩:=q
 simp only[cr0,cr1,cr2,dt,Nz] at h0 h1 h2 h3 h4 hq
 have hN:0<d3 e f g e f g:=d3_pos (fun h=>by
  rcases hq with h' | h' | h'
  ·exact h' h.1
  ·exact h' h.2.1
  ·exact h' h.2.2)
 have ca:(0-(e*a+f*b+g*c))*e+d3 e f g e f g*a=0:=by unfold d3;grind
 have cb:(0-(e*a+f*b+g*c))*f+d3 e f g e f g*b=0:=by unfold d3;grind
 have cc:(0-(e*a+f*b+g*c))*g+d3 e f g e f g*c=0:=by unfold d3;grind
 generalize d3 e f g e f g=N at *
 have hM:0<0-(e*a+f*b+g*c):=by omega
 generalize 0-(e*a+f*b+g*c)=M at *
 refine⟨[(M,⟨e,f,g,i⟩)],N,hN,by simp,?_,hs,?_,?_,?_,?_⟩
 ·intro x hx;rw[List.mem_singleton.1 hx];exact hM
 ·simp only[sm];omega
 ·simp only[sm];omega
 ·simp only[sm];omega
 ·simp only[sm,Int.add_zero]
  have n:∀x y:Int,M*x+N*y=0→M*(x.natAbs:Int)=N*(y.natAbs:Int):=fun x y h=>by
   have:=na_mul (a:=M) (b:=x) (c:=N) (d:=-y) (by grind)
   rw[Int.natAbs_neg] at this
   rwa [Int.natAbs_of_nonneg (a:=M) (by omega),Int.natAbs_of_nonneg (a:=N) (by omega)] at this
  have na:=n _ _ ca;have nb:=n _ _ cb;have nc:=n _ _ cc
  push_cast at h4
  have hQ:0<(e.natAbs:Int)+f.natAbs+g.natAbs:=by
   rcases hq with h' | h' | h' <;> omega
  refine mul_can (c:=(e.natAbs:Int)+f.natAbs+g.natAbs) ?_ hQ
  have e1:(M*i+N*d)*((e.natAbs:Int)+f.natAbs+g.natAbs)=N*(((a.natAbs:Int)+b.natAbs+c.natAbs)*i+((e.natAbs:Int)+f.natAbs+g.natAbs)*d):=by grind
  rw[e1,Int.zero_mul]
  exact Int.mul_nonpos_of_nonneg_of_nonpos (by omega) h4
theorem lin3{x0 x1 x2 y0 y1 y2 w0 w1 w2 a b c:Int}(h0:x0*a+y0*b+w0*c=0)(h1:x1*a+y1*b+w1*c=0)(h2:x2*a+y2*b+w2*c=0) :
  d3 x0 x1 x2 w0 w1 w2*a+d3 y0 y1 y2 w0 w1 w2*b+d3 w0 w1 w2 w0 w1 w2*c=0:=by
 have e:d3 x0 x1 x2 w0 w1 w2*a+d3 y0 y1 y2 w0 w1 w2*b+d3 w0 w1 w2 w0 w1 w2*c=w0*(x0*a+y0*b+w0*c)+w1*(x1*a+y1*b+w1*c)+w2*(x2*a+y2*b+w2*c):=by unfold d3;grind
 rw[e,h0,h1,h2];simp
theorem half3{p q r:Pl}{l:List Pl}(hs:[q,r].Sublist l)(h:cl3 q r p=true):Half l p:=by
 unfold cl3 at h
 rw[decide_eq_true_iff] at h
 obtain⟨h0,h1,⟨h2,h3⟩,h4⟩:=h
 obtain⟨⟨c1,c2,c3⟩,⟨c4,c5,c6⟩,c7,c8,c9⟩:=cross_dep h0
 refine⟨[(d3 (cr0 r p) (cr1 r p) (cr2 r p) (cr0 q r) (cr1 q r) (cr2 q r),q),(d3 (cr0 p q) (cr1 p q) (cr2 p q) (cr0 q r) (cr1 q r) (cr2 q r),r)],d3 (cr0 q r) (cr1 q r) (cr2 q r) (cr0 q r) (cr1 q r) (cr2 q r),h1,by simp,?_,hs,?_,?_,?_,?_⟩
 ·intro x hx
  simp only[List.mem_cons,List.not_mem_nil,or_false] at hx
  rcases hx with rfl | rfl
  ·exact h2
  ·exact h3
 ·simp only[sm,Int.add_zero];exact lin3 c1 c4 c7
 ·simp only[sm,Int.add_zero];exact lin3 c2 c5 c8
 ·simp only[sm,Int.add_zero];exact lin3 c3 c6 c9
 ·simp only[sm];omega
theorem half4{p q r s:Pl}{l:List Pl}(hs:[q,r,s].Sublist l)(h:cl4 q r s p=true):Half l p:=by
 unfold cl4 at h
 rw[decide_eq_true_iff] at h
 obtain⟨h0,h4⟩:=h
 obtain⟨c1,c2,c3⟩:=det_dep q r s p
 generalize det3 r s p=a at *
 generalize (0-det3 q s p)=b at *
 generalize det3 q r p=c at *
 generalize (0-det3 q r s)=z at *
 have ps:0<(a.natAbs:Int)∧0<(b.natAbs:Int)∧0<(c.natAbs:Int)∧0<(z.natAbs:Int):=by omega
 have key:∀x y u v:Int,a*x+b*y+c*u+z*v=0→(a.natAbs:Int)*x+((b.natAbs:Int)*y+((c.natAbs:Int)*u+0))+(z.natAbs:Int)*v=0:=fun x y u v h=>by
  rcases h0 with h0 | h0
  ·rw[Int.natAbs_of_nonneg (by omega),Int.natAbs_of_nonneg (by omega),Int.natAbs_of_nonneg (by omega),Int.natAbs_of_nonneg (by omega)];omega
  ·rw[Int.ofNat_natAbs_of_nonpos (by omega),Int.ofNat_natAbs_of_nonpos (by omega),Int.ofNat_natAbs_of_nonpos (by omega),Int.ofNat_natAbs_of_nonpos (by omega)];grind
 refine⟨[((a.natAbs:Int),q),((b.natAbs:Int),r),((c.natAbs:Int),s)],(z.natAbs:Int),ps.2.2.2,by simp,?_,hs,key _ _ _ _ c1,key _ _ _ _ c2,key _ _ _ _ c3,?_⟩
 ·intro x hx
  simp only[List.mem_cons,List.not_mem_nil,or_false] at hx
  rcases hx with rfl | rfl | rfl
  ·exact ps.1
  ·exact ps.2.1
  ·exact ps.2.2.1
 ·simp only[sm];omega
theorem half_of{l:List Pl}{p:Pl}(hz:∀q∈l,Nz q)(h:wth l p=true):Half l p:=by
 rcases(wth_sub l p).1 h with ⟨q,h1,h2⟩ | ⟨q,r,h1,h2⟩ | ⟨q,r,s,h1,h2⟩
 ·exact half2 h1 (hz q (h1.subset List.mem_cons_self)) h2
 ·exact half3 h1 h2
 ·exact half4 h1 h2
theorem pad{l:List Pl}:∀{c:List (Int×Pl)},(c.map (·.2)).Sublist l→(∀x∈c,0<x.1)→∃z:List (Int×Pl),z.map (·.2)=l∧(∀x∈z,0≤x.1)∧∀f,sm f z=sm f c:=by
 induction l with
 | nil =>
  intro c h _
  have:c=[]:=by have:=h.length_le;simpa using this
  subst this
  exact⟨[],rfl,by simp,fun _=>rfl⟩
 | cons y l ih =>
  intro c h hp
  have skip:(c.map (·.2)).Sublist l→∃z:List (Int×Pl),z.map (·.2)=y::l∧(∀x∈z,0≤x.1)∧∀f,sm f z=sm f c:=fun h=>by
   obtain⟨z,h1,h2,h3⟩:=ih h hp
   refine⟨(0,y)::z,by simp[h1],fun x hx=>?_,fun f=>?_⟩
   ·rcases List.mem_cons.1 hx with rfl | hx
    ·exact Int.le_refl _
    ·exact h2 x hx
   ·rw[sm_cons,h3];omega
  match c,h,hp,skip with
  | [],_,_,skip=>exact skip (List.nil_sublist _)
  | x::c,h,hp,skip =>
   simp only[List.map_cons] at h
   cases h with
   | cons _ h=>exact skip h
   | cons_cons _ h =>
    obtain⟨z,h1,h2,h3⟩:=ih h fun x hx=>hp x (List.mem_cons_of_mem _ hx)
    refine⟨(x.1,x.2)::z,by simp[h1],fun w hw=>?_,fun f=>?_⟩
    ·rcases List.mem_cons.1 hw with rfl | hw
     ·exact Int.le_of_lt (hp x List.mem_cons_self)
     ·exact h2 w hw
    ·rw[sm_cons,sm_cons,h3]
def mix (a b:Int):List (Int×Pl)→List (Int×Pl)→List (Int×Pl)
 | x::c,y::d=>(a*x.1+b*y.1,x.2)::mix a b c d
 | _,_=>[]
theorem sm_mix(f:Pl→Int)(a b:Int):∀(c d:List (Int×Pl)),c.map (·.2)=d.map (·.2)→sm f (mix a b c d)=a*sm f c+b*sm f d
 | [],[],_=>by simp[mix,sm]
 | x::c,y::d,h=>by
  simp only[List.map_cons,List.cons.injEq] at h
  simp only[mix,sm_cons]
  rw[sm_mix f a b c d h.2,h.1];grind
 | [],_::_,h=>by simp at h
 | _::_,[],h=>by simp at h
theorem mix_snd(a b:Int):∀(c d:List (Int×Pl)),c.map (·.2)=d.map (·.2)→(mix a b c d).map (·.2)=c.map (·.2)
 | [],[],_=>rfl
 | x::c,y::d,h=>by
  simp only[List.map_cons,List.cons.injEq] at h
  simp only[mix,List.map_cons]
  rw[mix_snd a b c d h.2]
 | [],_::_,h=>by simp at h
 | _::_,[],h=>by simp at h
theorem mix_ge{a b:Int}(ha:0≤a)(hb:0≤b):∀(c d:List (Int×Pl)),(∀x∈c,0≤x.1)→(∀x∈d,0≤x.1)→∀x∈mix a b c d,0≤x.1
 | [],_,_,_=>by simp[mix]
 | _::_,[],_,_=>by simp[mix]
 | x::c,y::d,hc,hd=>by
  intro z hz
  simp only[mix] at hz
  rcases List.mem_cons.1 hz with rfl | hz
  ·have h1:=Int.mul_nonneg ha (hc x List.mem_cons_self)
   have h2:=Int.mul_nonneg hb (hd y List.mem_cons_self)
   show 0≤a*x.1+b*y.1
   omega
  ·exact mix_ge ha hb c d (fun w hw=>hc w (List.mem_cons_of_mem _ hw)) (fun w hw=>hd w (List.mem_cons_of_mem _ hw)) z hz
theorem sm_pos{c:List (Int×Pl)}(h:∀x∈c,0<x.1)(hn:c≠[]):0<sm (fun _=>1) c:=by
 have ge:∀c:List (Int×Pl),(∀x∈c,0<x.1)→0≤sm (fun _=>1) c:=fun c=>by
  induction c with
  | nil=>intro _;exact Int.le_refl _
  | cons x r ih =>
   intro h
   have h1:=h x List.mem_cons_self
   have h2:=ih fun y hy=>h y (List.mem_cons_of_mem _ hy)
   rw[sm_cons];omega
 obtain⟨x,r,rfl⟩:=List.exists_cons_of_ne_nil hn
 have h1:=h x List.mem_cons_self
 have h2:=ge r fun y hy=>h y (List.mem_cons_of_mem _ hy)
 rw[sm_cons];omega
theorem flip_room{l:List Pl}(ho:Opn l)(hz:∀q∈l,Nz q)(p:Pl):wth l p=false∨wth l (flp p)=false:=by
 cases h1:wth l p with
 | false=>exact .inl rfl
 | true =>
  cases h2:wth l (flp p) with
  | false=>exact .inr rfl
  | true =>
   exfalso
   obtain⟨c,m,hm,hcn,hcp,hcs,ca,cb,cc,cd⟩:=half_of hz h1
   obtain⟨d,k,hk,hdn,hdp,hds,da,db,dc,dd⟩:=half_of hz h2
   obtain⟨z,z1,z2,z3⟩:=pad hcs hcp
   obtain⟨y,y1,y2,y3⟩:=pad hds hdp
   have hzy:z.map (·.2)=y.map (·.2):=by rw[z1,y1]
   have ge:=mix_ge (a:=k) (b:=m) (by omega) (by omega) z y z2 y2
   have e:∀f,sm f (pst (mix k m z y))=k*sm f c+m*sm f d:=fun f=>by rw[sm_pst _ _ ge,sm_mix f k m z y hzy,z3,y3]
   simp only[flp] at da db dc dd
   refine no_cert ho hz _ (pst (mix k m z y)) (Nat.lt_succ_self _) ⟨fun x hx=>pst_pos hx,?_,?_,?_,?_,?_⟩ ?_
   ·rw[e];grind
   ·rw[e];grind
   ·rw[e];grind
   ·rw[e]
    have e1:k*sm Pl.D c+m*sm Pl.D d=k*(sm Pl.D c+m*p.D)+m*(sm Pl.D d+k*(0-p.D)):=by grind
    rw[e1]
    have h1:=Int.mul_nonpos_of_nonneg_of_nonpos (Int.le_of_lt hk) cd
    have h2:=Int.mul_nonpos_of_nonneg_of_nonpos (Int.le_of_lt hm) dd
    omega
   ·intro h
    have:=e fun _=>1
    rw[h,sm_nil] at this
    have h1:=Int.mul_pos hk (sm_pos hcp hcn)
    have h2:=Int.mul_pos hm (sm_pos hdp hdn)
    omega
   ·have:=(pst_sub (mix k m z y)).map (·.2)
    rw[mix_snd k m z y hzy,z1] at this
    exact this
end Evl.T
namespace Evl.T
open Go Evl
def isLf (x:Sol):Bool:=(x.kids.length:Int)==0
def jnB (x y:Sol):Bool:=isLf x&&(isLf y&&(x.inn==y.inn))
def jn (p:Pl)(x y:Sol):Sol:=if jnB x y then lfS x.inn else .mk false p [x,y]
def lfB (op:Int)(a b:Bool):Bool:=if op==1 then a&&b else if op==2 then a||b else if op==3 then a&&!b else !(a==b)
theorem sLeaf(b:Bool):Dspec_Leaf b=some (lfS b):=rfl
theorem iLeaf(b:Bool):Dimpl_Leaf b=some (lfS b):=rfl
theorem sIsLf(x:Sol):Dspec_l8Leaf x=some (isLf x):=rfl
theorem iIsLf(x:Sol):Dimpl_Solid_isLeaf x=some (isLf x):=rfl
theorem sOpLeaf(op:Int)(a b:Bool):Dspec_l11In op a b=some (lfB op a b):=by
 unfold Dspec_l11In lfB
 cases a <;> cases b <;> simp only[frk_if] <;> (split <;> first | rfl | (split <;> first | rfl | (split <;> rfl)))
theorem iOpLeaf(op c:Int)(d:Bool)(a b:Bool):Dimpl_merger_leaf (op,c,d) a b=some (lfS (lfB op a b),(op,c,d)):=by
 unfold Dimpl_merger_leaf lfB
 simp only[iLeaf,Option.bind_some]
 cases a <;> cases b <;> simp only[frk_if] <;> (split <;> first | rfl | (split <;> first | rfl | (split <;> rfl)))
theorem sNode(p:Pl)(x y:Sol):Dspec_l11Nodeo1o2 p x y=some (jn p x y):=by
 unfold jn jnB
 simp only[Dspec_l11Nodeo1o2,Dspec_l11Nodeo1o2_0,Dspec_l11Nodeo1o2_1,Dspec_l8Nodeo1o2,sIsLf,sLeaf,Option.bind_some,pl_eq,sol_eq]
 cases isLf x <;> cases isLf y <;> cases (x.inn==y.inn) <;> rfl
theorem iJoin(op c:Int)(d:Bool)(p:Pl)(x y:Sol):Dimpl_merger_joino2o3 (op,c,d) p x y=some (jn p x y,(op,if jnB x y then c else w64 (c+1),if jnB x y then d else d||decide (w64 (c+1)>300))):=by
 unfold jn jnB
 simp only[Dimpl_merger_joino2o3,Dimpl_merger_joino2o3_0,Dimpl_merger_joino2o3_1,Dimpl_merger_joino2o3_2,Dimpl_nodeo1o2,iIsLf,iLeaf,Option.bind_some,pl_eq,sol_eq]
 cases isLf x <;> cases isLf y <;> cases (x.inn==y.inn) <;> cases d <;> rfl
inductive Bin:Sol→Prop
 | leaf {i p}:Bin (.mk i p [])
 | node {i p a b}:Bin a→Bin b→Bin (.mk i p [a,b])
theorem Bin.lens{s:Sol}(h:Bin s):Lens s:=by
 induction h with
 | leaf=>exact .mk (by simp[big]) (by simp)
 | node _ _ iha ihb =>
  refine .mk (by simp[big]) fun x hx=>?_
  simp only[List.mem_cons,List.not_mem_nil,or_false] at hx
  rcases hx with rfl | rfl
  ·exact iha
  ·exact ihb
theorem Bin.isLf{s:Sol}(h:Bin s)(e:Evl.T.isLf s=true):nod s=0:=by
 cases h with
 | leaf=>exact nod_leaf _ _
 | node _ _=>simp[Evl.T.isLf,Sol.kids] at e
theorem bin_jn{p:Pl}{x y:Sol}(hx:Bin x)(hy:Bin y):Bin (jn p x y):=by
 unfold jn;split
 ·exact .leaf
 ·exact .node hx hy
theorem nod_jn{p:Pl}{x y:Sol}(hx:Bin x)(hy:Bin y):nod (jn p x y)=if jnB x y then 0 else 1+(nod x+nod y):=by
 unfold jn;split
 ·exact nod_leaf _ _
 ·exact nod2 _ _ _ _
theorem jnB_zero{x y:Sol}(hx:Bin x)(hy:Bin y)(h:jnB x y=true):nod x=0∧nod y=0:=by
 unfold jnB at h;simp only[Bool.and_eq_true] at h
 exact⟨hx.isLf h.1,hy.isLf h.2.1⟩
structure Good(path:List Pl):Prop where
 o:Opn path
 pb:∀q∈path,PB q
 nz:∀q∈path,Nz q
 len:path.length≤24
theorem Good.nil:Good []:=⟨.nil,by simp,by simp,by simp⟩
theorem Nz_flp{p:Pl}(h:Nz p):Nz (flp p):=by
 unfold Nz flp at *;simp only;omega
theorem Good.snoc{path:List Pl}{p:Pl}(h:Good path)(hp:PB p)(hz:Nz p)(hw:wth path p=false)(hl:path.length<24):Good (path++[p]) :=
 ⟨.snoc h.o hw,path_PB h.pb hp,fun q hq=>by
  rcases List.mem_append.1 hq with hq | hq
  ·exact h.nz q hq
  ·rw[List.mem_singleton.1 hq];exact hz,by simp;omega⟩
end Evl.T
namespace Evl.T
open Go Evl
theorem sTake(n m:Nat)(op:Int)(bad inn:Bool)(p:Pl)(x y:Sol)(path:List Pl)(hG:Good path)(hp:pOk p=true)(hn:40≤n) :
  loopN (Dspec_l11Take_b n) (m+1) ((op,bad),inn,.mk false p [x,y],path) =
   if wth path (flp p) then loopN (Dspec_l11Take_b n) m ((op,bad),inn,x,path)
   else if wth path p then loopN (Dspec_l11Take_b n) m ((op,bad),inn,y,path)
   else if bad then some (lfS false,(op,true)) else if path.length=24 then some (lfS false,(op,true))
   else (loopN (Dspec_l11Take_b n) m ((op,false),inn,x,path++[p])).bind fun v=>(loopN (Dspec_l11Take_b n) m (v.2,inn,y,path++[flp p])).bind fun u=>some (jn p v.1 u.1,u.2):=by
 have hpb:=pOk_PB hp
 have hl:=hG.len
 have hfl:=flip_room hG.o hG.nz p
 rw[loop_suc]
 simp only[Dspec_l11Take_b,Dspec_l11Take_0,Dspec_l11Take_1,Dspec_l11Take_2,Dspec_l11Take_3,Dspec_l11Take_4,Dspec_l11Take_5,sIsLf,isLf,Option.bind_some,Sol.kids,Sol.pl,Sol.inn,
  sWith path p hG.pb hpb (by unfold big;omega) n (by omega),sFlip p hpb,sWith path (flp p) hG.pb (flp_PB hpb) (by unfold big;omega) n (by omega),sLeaf,lget_zero,lget_one,pl_eq,
  sPath path p (by omega),sPath path (flp p) (by omega),sNode]
 have e0:((([x,y]:List Sol).length:Int)==0)=false:=rfl
 have e24:((path.length:Int)==24)=decide (path.length=24):=by
  by_cases h:path.length=24
  ·simp[h]
  ·have:¬(path.length:Int)=24:=by omega
   simp[h,this]
 rw[e0,frk_f,e24]
 have bs:∀{α:Type} (o:Option α),(o.bind fun v=>some v)=o:=fun o=>by cases o <;> rfl
 cases h3:wth path p with
 | true =>
  have h5:wth path (flp p)=false:=by
   rcases hfl with h | h
   ·rw[h3] at h;cases h
   ·exact h
  rw[h5]
  simp only[Bool.not_true,Bool.not_false,frk_t,frk_f,List.getElem?_cons_zero,List.getElem?_cons_succ,Option.bind_some,bs,if_true,Bool.false_eq_true,if_false]
 | false =>
  cases h5:wth path (flp p) with
  | true=>simp only[Bool.not_true,Bool.not_false,frk_t,frk_f,List.getElem?_cons_zero,Option.bind_some,bs,if_true]
  | false =>
   simp only[Bool.not_true,Bool.not_false,frk_t,frk_f,List.getElem?_cons_zero,List.getElem?_cons_succ,Option.bind_some,Bool.false_eq_true,if_false]
   cases bad with
   | true=>simp only[frk_t,if_true]
   | false =>
    simp only[frk_f,Bool.false_eq_true,if_false]
    by_cases h:path.length=24
    ·rw[decide_eq_true h,frk_t,if_pos h]
    ·rw[decide_eq_false h,frk_f,if_neg h]
theorem iTake(n m:Nat)(op c:Int)(inn:Bool)(p:Pl)(x y:Sol)(path:List Pl)(hG:Good path)(hp:pOk p=true)(hn:40≤n) :
  loopN (Dimpl_merger_take_b n) (m+1) ((op,c,false),inn,.mk false p [x,y],path) =
   if wth path (flp p) then loopN (Dimpl_merger_take_b n) m ((op,c,false),inn,x,path)
   else if wth path p then loopN (Dimpl_merger_take_b n) m ((op,c,false),inn,y,path)
   else if path.length=24 then some (lfS false,(op,c,true))
   else (loopN (Dimpl_merger_take_b n) m ((op,c,false),inn,x,path++[p])).bind fun v=>(loopN (Dimpl_merger_take_b n) m (v.2,inn,y,path++[flp p])).bind fun u=>Dimpl_merger_joino2o3 u.2 p v.1 u.1:=by
 have hpb:=pOk_PB hp
 have hl:=hG.len
 rw[loop_suc]
 simp only[Dimpl_merger_take_b,iIsLf,isLf,Option.bind_some,Sol.kids,Sol.pl,Sol.inn,iFlip p hpb,
  iRoom path p hG.pb hpb (by unfold big;omega) n (by omega),iRoom path (flp p) hG.pb (flp_PB hpb) (by unfold big;omega) n (by omega),lget_zero,lget_one,
  iPath path p (by omega),iPath path (flp p) (by omega)]
 have e0:((([x,y]:List Sol).length:Int)==0)=false:=rfl
 have e24:decide ((path.length:Int)≥24)=decide (path.length=24):=by
  apply dec_iff;omega
 rw[e0,frk_f,frk_f,e24]
 have bs:∀{α:Type} (o:Option α),(o.bind fun v=>some v)=o:=fun o=>by cases o <;> rfl
 cases h5:wth path (flp p) with
 | true=>simp only[Bool.not_true,Bool.not_false,frk_t,List.getElem?_cons_zero,Option.bind_some,bs,if_true]
 | false =>
  cases h3:wth path p with
  | true=>simp only[Bool.not_true,Bool.not_false,frk_t,frk_f,List.getElem?_cons_zero,List.getElem?_cons_succ,Option.bind_some,bs,if_true,Bool.false_eq_true,if_false]
  | false =>
   simp only[Bool.not_true,Bool.not_false,frk_f,List.getElem?_cons_zero,List.getElem?_cons_succ,Option.bind_some,bs,Bool.false_eq_true,if_false]
   by_cases h:path.length=24
   ·rw[decide_eq_true h,frk_t,if_pos h];rfl
   ·rw[decide_eq_false h,frk_f,if_neg h]
theorem iTakeBad(n m:Nat)(op c:Int)(inn:Bool)(b:Sol)(path:List Pl):loopN (Dimpl_merger_take_b n) (m+1) ((op,c,true),inn,b,path)=some (lfS false,(op,c,true)):=rfl
theorem sTakeLeaf(n m:Nat)(op:Int)(bad inn i:Bool)(p:Pl)(path:List Pl):loopN (Dspec_l11Take_b n) (m+1) ((op,bad),inn,.mk i p [],path)=some (lfS (lfB op inn i),(op,bad)):=by
 rw[loop_suc]
 simp only[Dspec_l11Take_b,sIsLf,Option.bind_some,Sol.inn,sOpLeaf,sLeaf]
 rfl
theorem iTakeLeaf(n m:Nat)(op c:Int)(inn i:Bool)(p:Pl)(path:List Pl):loopN (Dimpl_merger_take_b n) (m+1) ((op,c,false),inn,.mk i p [],path)=some (lfS (lfB op inn i),(op,c,false)):=by
 rw[loop_suc]
 simp only[Dimpl_merger_take_b,iIsLf,Option.bind_some,Sol.inn,iOpLeaf]
 rfl
end Evl.T
namespace Evl.T
open Go Evl
def Sp (op:Int)(R:Int×Bool→Option (Sol×(Int×Bool)))(x:Sol)(sb:Bool):Prop :=
 (∃x',R (op,true)=some (x',(op,true)))∧∃x',R (op,false)=some (x',(op,sb))∧(sb=false→x'=x)
def Im (op:Int)(R:Int×Int×Bool→Option (Sol×(Int×Int×Bool)))(x:Sol)(sb:Bool):Prop :=
 (∀c:Int,∃y,R (op,c,true)=some (y,(op,c,true))) ∧
 ∀c:Nat,c≤300→∃y c' ib,R (op,(c:Int),false)=some (y,(op,c',ib))∧(ib=false↔sb=false∧c+nod x≤300)∧(ib=false→y=x∧c'=((c+nod x:Nat):Int))
theorem sp_join{op:Int}{R1 R2:Int×Bool→Option (Sol×(Int×Bool))}{x1 x2:Sol}{b1 b2:Bool}(p:Pl)(h1:Sp op R1 x1 b1)(h2:Sp op R2 x2 b2) :
  Sp op (fun t=>(R1 t).bind fun v=>(R2 v.2).bind fun u=>some (jn p v.1 u.1,u.2)) (jn p x1 x2) (b1||b2):=by
 obtain⟨⟨y1,e1⟩,z1,f1,g1⟩:=h1
 obtain⟨⟨y2,e2⟩,z2,f2,g2⟩:=h2
 refine⟨⟨jn p y1 y2,by simp only[e1,e2,Option.bind_some]⟩,?_⟩
 cases b1 with
 | true=>exact⟨jn p z1 y2,by simp only[f1,e2,Option.bind_some,Bool.true_or],fun h=>by cases h⟩
 | false=>exact⟨jn p z1 z2,by simp only[f1,f2,Option.bind_some,Bool.false_or],fun h=>by rw[g1 rfl,g2 (by simpa using h)]⟩
theorem im_join{op:Int}{R1 R2:Int×Int×Bool→Option (Sol×(Int×Int×Bool))}{x1 x2:Sol}{b1 b2:Bool}(p:Pl)(hx1:Bin x1)(hx2:Bin x2)(h1:Im op R1 x1 b1)(h2:Im op R2 x2 b2)(c:Nat)(hc:c≤300) :
  ∃y c' ib,((R1 (op,(c:Int),false)).bind fun v=>(R2 v.2).bind fun u=>Dimpl_merger_joino2o3 u.2 p v.1 u.1)=some (y,(op,c',ib))∧(ib=false↔(b1||b2)=false∧c+nod (jn p x1 x2)≤300)∧(ib=false→y=jn p x1 x2∧c'=((c+nod (jn p x1 x2):Nat):Int)):=by
 have hnj:=nod_jn (p:=p) hx1 hx2
 have hz:=jnB_zero hx1 hx2
 have hge:nod x1+nod x2≤nod (jn p x1 x2):=by
  rw[hnj];split
  ·rename_i h;have:=hz h;omega
  ·omega
 have bad:∀(q:Sol×(Int×Int×Bool)) (y c'':_),q=(y,(op,c'',true))→∀v:Sol,¬((b1||b2)=false∧c+nod (jn p x1 x2)≤300) →
   ∃y c' ib,Dimpl_merger_joino2o3 q.2 p v q.1=some (y,(op,c',ib))∧(ib=false↔(b1||b2)=false∧c+nod (jn p x1 x2)≤300)∧(ib=false→y=jn p x1 x2∧c'=((c+nod (jn p x1 x2):Nat):Int)):=by
  intro q y c'' hq v hno
  subst hq
  have e:(if jnB v y=true then true else true||decide (w64 (c''+1)>300))=true:=by split <;> rfl
  refine⟨_,_,true,by rw[iJoin,e],⟨fun h=>(by cases h),fun h=>absurd h hno⟩,fun h=>by cases h⟩
 obtain⟨y1,c1,i1,e1,f1,g1⟩:=h1.2 c hc
 rw[e1,Option.bind_some]
 cases i1 with
 | true =>
  obtain⟨y2,e2⟩:=h2.1 c1
  show ∃y c' ib,((R2 (op,c1,true)).bind _)=_∧_
  rw[e2,Option.bind_some]
  refine bad (y2,(op,c1,true)) y2 c1 rfl y1 fun h=>?_
  have:¬(b1=false∧c+nod x1≤300):=fun h=>by have:=f1.2 h;cases this
  refine this ⟨?_,by omega⟩
  have h:=h.1
  cases b1
  ·rfl
  ·cases h
 | false =>
  obtain⟨q1,q2⟩:=f1.1 rfl
  obtain⟨rfl,rfl⟩:=g1 rfl
  subst q1
  obtain⟨y2,c2,i2,e2,f2,g2⟩:=h2.2 (c+nod y1) q2
  show ∃y c' ib,((R2 (op,((c+nod y1:Nat):Int),false)).bind _)=_∧_
  rw[e2,Option.bind_some]
  cases i2 with
  | true =>
   refine bad (y2,(op,c2,true)) y2 c2 rfl y1 fun h=>?_
   have:¬(b2=false∧c+nod y1+nod x2≤300):=fun h=>by have:=f2.2 h;cases this
   exact this ⟨by simpa using h.1,by omega⟩
  | false =>
   obtain⟨q3,q4⟩:=f2.1 rfl
   obtain⟨rfl,rfl⟩:=g2 rfl
   subst q3
   show ∃y c' ib,Dimpl_merger_joino2o3 (op,((c+nod y1+nod y2:Nat):Int),false) p y1 y2=_∧_
   rw[iJoin]
   by_cases hj:jnB y1 y2=true
   ·have hzz:=hz hj
    refine⟨_,_,_,rfl,?_,fun _=>⟨rfl,?_⟩⟩
    ·rw[if_pos hj,hnj,if_pos hj];simp;omega
    ·rw[if_pos hj,hnj,if_pos hj];omega
   ·have hw:w64 (((c+nod y1+nod y2:Nat):Int)+1)=((c+nod y1+nod y2+1:Nat):Int):=w64_suc (by unfold big;omega)
    refine⟨_,_,_,rfl,?_,fun _=>⟨rfl,?_⟩⟩
    ·rw[if_neg hj,hnj,if_neg hj,hw,Bool.false_or,decide_eq_false_iff_not]
     simp only[Bool.or_self,true_and]
     omega
    ·rw[if_neg hj,hnj,if_neg hj,hw];omega
inductive Tk(op:Int)(inn:Bool):Sol→List Pl→Sol→Bool→Prop
 | leaf {i p path}:Tk op inn (.mk i p []) path (lfS (lfB op inn i)) false
 | one {p a b path x sb}:wth path (flp p)=true→Tk op inn a path x sb→Tk op inn (.mk false p [a,b]) path x sb
 | two {p a b path x sb}:wth path (flp p)=false→wth path p=true→Tk op inn b path x sb→Tk op inn (.mk false p [a,b]) path x sb
 | deep {p a b path}:wth path p=false→wth path (flp p)=false→path.length=24→Tk op inn (.mk false p [a,b]) path (lfS false) true
 | node {p a b path x1 b1 x2 b2}:pOk p=true→path.length<24→wth path p=false→wth path (flp p)=false→Tk op inn a (path++[p]) x1 b1→Tk op inn b (path++[flp p]) x2 b2→Tk op inn (.mk false p [a,b]) path (jn p x1 x2) (b1||b2)
inductive Pt2(op:Int):Sol→Sol→List Pl→Sol→Bool→Prop
 | leaf {i p b path x sb}:Tk op i b path x sb→Pt2 op (.mk i p []) b path x sb
 | node {p a b c path x1 b1 x2 b2}:pOk p=true→path.length<24→wth path p=false→wth path (flp p)=false→Pt2 op a c (path++[p]) x1 b1→Pt2 op b c (path++[flp p]) x2 b2→Pt2 op (.mk false p [a,b]) c path (jn p x1 x2) (b1||b2)
theorem rt_jn{p:Pl}{x y:Sol}{path:List Pl}(hp:pOk p=true)(hl:path.length<24)(h3:wth path p=false)(h5:wth path (flp p)=false)(hx:Rt x (path++[p]))(hy:Rt y (path++[flp p])):Rt (jn p x y) path:=by
 unfold jn
 split
 ·exact .leaf rfl
 ·exact .node hp hl h3 h5 hx hy
theorem Tk.rt{op:Int}{inn:Bool}{b:Sol}{path:List Pl}{x:Sol}{sb:Bool}(h:Tk op inn b path x sb):Rt x path:=by
 induction h with
 | leaf=>exact .leaf rfl
 | one _ _ ih=>exact ih
 | two _ _ _ ih=>exact ih
 | deep=>exact .leaf rfl
 | node hp hl h3 h5 _ _ iha ihb=>exact rt_jn hp hl h3 h5 iha ihb
theorem Pt2.rt{op:Int}{a b:Sol}{path:List Pl}{x:Sol}{sb:Bool}(h:Pt2 op a b path x sb):Rt x path:=by
 induction h with
 | leaf h=>exact h.rt
 | node hp hl h3 h5 _ _ iha ihb=>exact rt_jn hp hl h3 h5 iha ihb
theorem takeOk{b:Sol}{l:List Pl}(h:Rt b l):∀(op:Int) (inn:Bool) (path:List Pl),Good path→∃x sb,(Tk op inn b path x sb∧Bin x)∧E2 fun n m =>
  Sp op (fun t=>loopN (Dspec_l11Take_b n) m (t,inn,b,path)) x sb∧Im op (fun t=>loopN (Dimpl_merger_take_b n) m (t,inn,b,path)) x sb:=by
 induction h with
 | @leaf i p _ _ =>
  intro op inn path hG
  refine⟨lfS (lfB op inn i),false,⟨.leaf,.leaf⟩,E2.suc (E2.of fun n m=>⟨⟨⟨_,sTakeLeaf n m op true inn i p path⟩,_,sTakeLeaf n m op false inn i p path,fun _=>rfl⟩,fun c=>⟨_,iTakeBad n m op c inn _ path⟩,fun c hc=>⟨_,_,_,iTakeLeaf n m op c inn i p path,?_,fun _=>⟨rfl,?_⟩⟩⟩)⟩
  ·rw[show nod (lfS (lfB op inn i))=0 from nod_leaf _ _];simp;omega
  ·rw[show nod (lfS (lfB op inn i))=0 from nod_leaf _ _];rfl
 | @node p a b l0 hp _ _ _ _ _ iha ihb =>
  intro op inn path hG
  have hpb:=pOk_PB hp
  cases h5:wth path (flp p) with
  | true =>
   obtain⟨x,sb,⟨hT,hB⟩,hE⟩:=iha op inn path hG
   refine⟨x,sb,⟨.one h5 hT,hB⟩,E2.suc ((hE.and (e2_ge 40)).mono fun n m ⟨⟨hS,hI⟩,hn,hm⟩=>⟨?_,?_⟩)⟩
   ·refine⟨?_,?_⟩
    ·show ∃x',loopN _ _ _=_;rw[sTake n m op true inn p a b path hG hp hn,h5,if_pos rfl];exact hS.1
    ·show ∃x',loopN _ _ _=_∧_;rw[sTake n m op false inn p a b path hG hp hn,h5,if_pos rfl];exact hS.2
   ·refine⟨fun c=>⟨_,iTakeBad n m op c inn _ path⟩,fun c hc=>?_⟩
    show ∃y c' ib,loopN _ _ _=_∧_;rw[iTake n m op c inn p a b path hG hp hn,h5,if_pos rfl];exact hI.2 c hc
  | false =>
   cases h3:wth path p with
   | true =>
    obtain⟨x,sb,⟨hT,hB⟩,hE⟩:=ihb op inn path hG
    refine⟨x,sb,⟨.two h5 h3 hT,hB⟩,E2.suc ((hE.and (e2_ge 40)).mono fun n m ⟨⟨hS,hI⟩,hn,hm⟩=>⟨?_,?_⟩)⟩
    ·refine⟨?_,?_⟩
     ·show ∃x',loopN _ _ _=_;rw[sTake n m op true inn p a b path hG hp hn,h5,h3,if_neg (by simp),if_pos rfl];exact hS.1
     ·show ∃x',loopN _ _ _=_∧_;rw[sTake n m op false inn p a b path hG hp hn,h5,h3,if_neg (by simp),if_pos rfl];exact hS.2
    ·refine⟨fun c=>⟨_,iTakeBad n m op c inn _ path⟩,fun c hc=>?_⟩
     show ∃y c' ib,loopN _ _ _=_∧_;rw[iTake n m op c inn p a b path hG hp hn,h5,h3,if_neg (by simp),if_pos rfl];exact hI.2 c hc
   | false =>
    by_cases h24:path.length=24
    ·refine⟨lfS false,true,⟨.deep h3 h5 h24,.leaf⟩,E2.suc ((e2_ge 40).mono fun n m ⟨hn,hm⟩=>⟨⟨?_,?_⟩,fun c=>⟨_,iTakeBad n m op c inn _ path⟩,fun c hc=>?_⟩)⟩
     ·show ∃x',loopN _ _ _=_;rw[sTake n m op true inn p a b path hG hp hn,h5,h3,if_neg (by simp),if_neg (by simp),if_pos rfl];exact⟨_,rfl⟩
     ·show ∃x',loopN _ _ _=_∧_;rw[sTake n m op false inn p a b path hG hp hn,h5,h3,if_neg (by simp),if_neg (by simp),if_neg (by simp),if_pos h24];exact⟨_,rfl,fun h=>by cases h⟩
     ·show ∃y c' ib,loopN _ _ _=_∧_;rw[iTake n m op c inn p a b path hG hp hn,h5,h3,if_neg (by simp),if_neg (by simp),if_pos h24]
      exact⟨_,_,true,rfl,⟨fun h=>(by cases h),fun h=>(by have:=h.1;cases this)⟩,fun h=>by cases h⟩
    ·have hl:=hG.len
     have hz:=pOk_Nz hp
     obtain⟨x1,b1,⟨hT1,hB1⟩,hE1⟩:=iha op inn (path++[p]) (hG.snoc hpb hz h3 (by omega))
     obtain⟨x2,b2,⟨hT2,hB2⟩,hE2⟩:=ihb op inn (path++[flp p]) (hG.snoc (flp_PB hpb) (Nz_flp hz) h5 (by omega))
     refine⟨jn p x1 x2,b1||b2,⟨.node hp (by omega) h3 h5 hT1 hT2,bin_jn hB1 hB2⟩,E2.suc (((hE1.and hE2).and (e2_ge 40)).mono fun n m ⟨⟨⟨hS1,hI1⟩,hS2,hI2⟩,hn,hm⟩=>⟨⟨?_,?_⟩,fun c=>⟨_,iTakeBad n m op c inn _ path⟩,fun c hc=>?_⟩)⟩
     ·show ∃x',loopN _ _ _=_;rw[sTake n m op true inn p a b path hG hp hn,h5,h3,if_neg (by simp),if_neg (by simp),if_pos rfl];exact⟨_,rfl⟩
     ·show ∃x',loopN _ _ _=_∧_;rw[sTake n m op false inn p a b path hG hp hn,h5,h3,if_neg (by simp),if_neg (by simp),if_neg (by simp),if_neg h24]
      exact(sp_join p hS1 hS2).2
     ·show ∃y c' ib,loopN _ _ _=_∧_;rw[iTake n m op c inn p a b path hG hp hn,h5,h3,if_neg (by simp),if_neg (by simp),if_neg h24]
      exact im_join p hB1 hB2 hI1 hI2 c hc
theorem sBothL(n m:Nat)(t:Int×Bool)(i:Bool)(p:Pl)(b:Sol)(path:List Pl):loopN (Dspec_l11Both_b n) (m+1) (t,.mk i p [],b,path)=Dspec_l11Take n t i b path:=by
 rw[loop_suc]
 simp only[Dspec_l11Both_b,sIsLf,Option.bind_some,Sol.inn]
 have:isLf (.mk i p [])=true:=rfl
 rw[this,frk_t]
 cases Dspec_l11Take n t i b path <;> rfl
theorem iPutL(n m:Nat)(op c:Int)(i:Bool)(p:Pl)(b:Sol)(path:List Pl):loopN (Dimpl_merger_put_b n) (m+1) ((op,c,false),.mk i p [],b,path)=Dimpl_merger_take n (op,c,false) i b path:=by
 rw[loop_suc]
 simp only[Dimpl_merger_put_b,iIsLf,Option.bind_some,Sol.inn]
 have:isLf (.mk i p [])=true:=rfl
 rw[this,frk_f,frk_t]
 cases Dimpl_merger_take n (op,c,false) i b path <;> rfl
theorem iPutBad(n m:Nat)(op c:Int)(a b:Sol)(path:List Pl):loopN (Dimpl_merger_put_b n) (m+1) ((op,c,true),a,b,path)=some (lfS false,(op,c,true)):=rfl
theorem sBothN(n m:Nat)(t:Int×Bool)(p:Pl)(x y b:Sol)(path:List Pl)(hpb:PB p)(hl:path.length≤24) :
  loopN (Dspec_l11Both_b n) (m+1) (t,.mk false p [x,y],b,path) =
   (loopN (Dspec_l11Both_b n) m (t,x,b,path++[p])).bind fun v=>(loopN (Dspec_l11Both_b n) m (v.2,y,b,path++[flp p])).bind fun u=>some (jn p v.1 u.1,u.2):=by
 rw[loop_suc]
 simp only[Dspec_l11Both_b,sIsLf,Option.bind_some,Sol.pl,Sol.kids,lget_zero,lget_one,sPath path p (by omega),sFlip p hpb,sPath path (flp p) (by omega),sNode]
 have:isLf (.mk false p [x,y])=false:=rfl
 rw[this,frk_f]
 simp only[List.getElem?_cons_zero,List.getElem?_cons_succ,Option.bind_some]
theorem iPutN(n m:Nat)(op c:Int)(p:Pl)(x y b:Sol)(path:List Pl)(hpb:PB p)(hl:path.length≤24) :
  loopN (Dimpl_merger_put_b n) (m+1) ((op,c,false),.mk false p [x,y],b,path) =
   (loopN (Dimpl_merger_put_b n) m ((op,c,false),x,b,path++[p])).bind fun v=>(loopN (Dimpl_merger_put_b n) m (v.2,y,b,path++[flp p])).bind fun u=>Dimpl_merger_joino2o3 u.2 p v.1 u.1:=by
 rw[loop_suc]
 simp only[Dimpl_merger_put_b,iIsLf,Option.bind_some,Sol.pl,Sol.kids,lget_zero,lget_one,iPath path p (by omega),iFlip p hpb,iPath path (flp p) (by omega)]
 have:isLf (.mk false p [x,y])=false:=rfl
 have bs:∀{α:Type} (o:Option α),(o.bind fun v=>some v)=o:=fun o=>by cases o <;> rfl
 rw[this,frk_f,frk_f]
 simp only[List.getElem?_cons_zero,List.getElem?_cons_succ,Option.bind_some,bs]
theorem putOk{a:Sol}{path:List Pl}(h:Rt a path):Good path→∀{b:Sol} {l:List Pl},Rt b l→∀op:Int,∃x sb,(Pt2 op a b path x sb∧Bin x)∧E2 fun n m =>
  Sp op (fun t=>loopN (Dspec_l11Both_b n) m (t,a,b,path)) x sb∧Im op (fun t=>loopN (Dimpl_merger_put_b n) m (t,a,b,path)) x sb:=by
 induction h with
 | @leaf i p path hz =>
  intro hG b l hb op
  obtain⟨x,sb,⟨hT,hB⟩,hE⟩:=takeOk hb op i path hG
  refine⟨x,sb,⟨.leaf hT,hB⟩,E2.suc (hE.ev.e2.mono fun n m ⟨hS,hI⟩=>⟨⟨?_,?_⟩,fun c=>⟨_,iPutBad n m op c _ b path⟩,fun c hc=>?_⟩)⟩
  ·show ∃x',loopN _ _ _=_;rw[sBothL];exact hS.1
  ·show ∃x',loopN _ _ _=_∧_;rw[sBothL];exact hS.2
  ·show ∃y c' ib,loopN _ _ _=_∧_;rw[iPutL];exact hI.2 c hc
 | @node p x y path hp hl h3 h5 _ _ iha ihb =>
  intro hG b l hb op
  have hpb:=pOk_PB hp
  have hz:=pOk_Nz hp
  obtain⟨x1,b1,⟨hT1,hB1⟩,hE1⟩:=iha (hG.snoc hpb hz h3 hl) hb op
  obtain⟨x2,b2,⟨hT2,hB2⟩,hE2⟩:=ihb (hG.snoc (flp_PB hpb) (Nz_flp hz) h5 hl) hb op
  refine⟨jn p x1 x2,b1||b2,⟨.node hp hl h3 h5 hT1 hT2,bin_jn hB1 hB2⟩,E2.suc ((hE1.and hE2).mono fun n m ⟨⟨hS1,hI1⟩,hS2,hI2⟩=>⟨⟨?_,?_⟩,fun c=>⟨_,iPutBad n m op c _ b path⟩,fun c hc=>?_⟩)⟩
  ·show ∃x',loopN _ _ _=_;rw[sBothN n m _ p x y b path hpb (by omega)];exact(sp_join p hS1 hS2).1
  ·show ∃x',loopN _ _ _=_∧_;rw[sBothN n m _ p x y b path hpb (by omega)];exact(sp_join p hS1 hS2).2
  ·show ∃y c' ib,loopN _ _ _=_∧_;rw[iPutN n m op c p x y b path hpb (by omega)];exact im_join p hB1 hB2 hI1 hI2 c hc
end Evl.T
namespace Evl.T
open Go Evl
open Classical in
theorem putEqS(a b:Sol)(ha:Lens a)(hb:Lens b)(op:Int):∃x ok,Bin x∧nod x≤300∧(¬(Right a∧Right b∧rIn op 1 4=true)→x=lfS false∧ok=false) ∧
  (Right a∧Right b∧rIn op 1 4=true→∃y sb,Pt2 op a b [] y sb∧(ok=true↔sb=false∧nod y≤300)∧(ok=true→x=y)∧(ok=false→x=lfS false)) ∧
  Ev fun n=>Dspec_Put n a b op=some (x,ok)∧(Right a∧Right b∧rIn op 1 4=true→Dimpl_put n a b op=some (x,ok)):=by
 have lf3:nod (lfS false)≤300:=by rw[show nod (lfS false)=0 from nod_leaf _ _];omega
 have e1:=sSolidOk a ha;have e2:=sSolidOk b hb;have e3:=iSolidOk a;have e4:=iSolidOk b
 by_cases hra:Right a
 ·by_cases hrb:Right b
  ·cases hop:rIn op 1 4 with
   | false =>
    refine⟨lfS false,false,.leaf,lf3,fun _=>⟨rfl,rfl⟩,fun h=>absurd h.2.2 (by simp),(e1.and (e2.and (e3.and e4))).mono fun n ⟨h1,h2,h3,h4⟩=>⟨?_,fun h=>absurd h.2.2 (by simp)⟩⟩
    ·simp only[Dspec_Put,Dspec_Put_1,h1,h2,sIn,hop,decide_eq_true hra,decide_eq_true hrb,Option.bind_some,Bool.not_true,Bool.not_false,frk_t,frk_f];rfl
   | true =>
    obtain⟨x,sb,⟨hT,hB⟩,hE⟩:=putOk hra.1 Good.nil hrb.1 op
    have hc:=cnt x hB.lens
    have main:=(e1.and (e2.and (e3.and (e4.and (hE.ev.and hc)))))
    have hN0:nod x≤300∨¬nod x≤300:=Decidable.em _
    by_cases hfin:sb=false∧nod x≤300
    ·refine⟨x,true,hB,hfin.2,fun h=>absurd ⟨hra,hrb,rfl⟩ h,fun _=>⟨x,sb,hT,⟨fun _=>hfin,fun _=>rfl⟩,fun _=>rfl,fun h=>absurd h (by simp)⟩,main.mono fun n ⟨h1,h2,h3,h4,⟨hS,hIm⟩,h5⟩=>⟨?_,fun _=>?_⟩⟩
     ·obtain⟨x',f1,f2⟩:=hS.2
      obtain rfl:=f2 hfin.1
      simp only[Dspec_Put,Dspec_Put_1,Dspec_Put_3,Dspec_l11Both,h1,h2,sIn,hop,decide_eq_true hra,decide_eq_true hrb,Option.bind_some,Bool.not_true,frk_f,sol_eq,sol_eq',pl_eq]
      have f1':loopN (Dspec_l11Both_b n) n ((op,false),a,b,[])=_:=f1
      rw[f1',Option.bind_some]
      simp only[hfin.1,frk_f,h5,Option.bind_some]
      rw[cnv_yes (by have:=hfin.2;omega),decide_eq_false (by have:=hfin.2;omega),frk_f]
     ·obtain⟨y,c',ib,f1,f2,f3⟩:=hIm.2 0 (by omega)
      have hib:ib=false:=f2.2 ⟨hfin.1,by have:=hfin.2;omega⟩
      subst hib
      obtain⟨rfl,-⟩:=f3 rfl
      simp only[Dimpl_put,Dimpl_merger_put,sol_eq,sol_eq',pl_eq]
      have f1':loopN (Dimpl_merger_put_b n) n ((op,0,false),a,b,[])=_:=f1
      rw[f1',Option.bind_some]
      simp only[frk_f,Option.bind_some]
    ·refine⟨lfS false,false,.leaf,lf3,fun _=>⟨rfl,rfl⟩,fun _=>⟨x,sb,hT,⟨fun h=>absurd h (by simp),fun h=>absurd h hfin⟩,fun h=>absurd h (by simp),fun _=>rfl⟩,main.mono fun n ⟨h1,h2,h3,h4,⟨hS,hIm⟩,h5⟩=>⟨?_,fun _=>?_⟩⟩
     ·obtain⟨x',f1,f2⟩:=hS.2
      simp only[Dspec_Put,Dspec_Put_1,Dspec_Put_2,Dspec_Put_3,Dspec_l11Both,h1,h2,sIn,hop,decide_eq_true hra,decide_eq_true hrb,Option.bind_some,Bool.not_true,frk_f,sol_eq,sol_eq',pl_eq]
      have f1':loopN (Dspec_l11Both_b n) n ((op,false),a,b,[])=_:=f1
      rw[f1',Option.bind_some]
      cases sb with
      | true=>simp only[frk_t];rfl
      | false =>
       obtain rfl:=f2 rfl
       have hbig:¬nod x'≤300:=fun h=>hfin ⟨rfl,h⟩
       have hc:decide (cnv (nod x') 301>300)=true:=by
        apply decide_eq_true
        unfold cnv;split <;> omega
       simp only[frk_f,h5,Option.bind_some]
       rw[hc,frk_t];rfl
     ·obtain⟨y,c',ib,f1,f2,f3⟩:=hIm.2 0 (by omega)
      have hib:ib=true:=by
       cases ib with
       | true=>rfl
       | false=>have:=f2.1 rfl;exact absurd ⟨this.1,by have:=this.2;omega⟩ hfin
      subst hib
      simp only[Dimpl_put,Dimpl_merger_put,sol_eq,sol_eq',pl_eq]
      have f1':loopN (Dimpl_merger_put_b n) n ((op,0,false),a,b,[])=_:=f1
      rw[f1',Option.bind_some]
      simp only[frk_t,Option.bind_some];rfl
  ·refine⟨lfS false,false,.leaf,lf3,fun _=>⟨rfl,rfl⟩,fun h=>absurd h.2.1 hrb,(e1.and (e2.and (e3.and e4))).mono fun n ⟨h1,h2,h3,h4⟩=>⟨?_,fun h=>absurd h.2.1 hrb⟩⟩
   ·simp only[Dspec_Put,Dspec_Put_0,h1,h2,decide_eq_true hra,decide_eq_false hrb,Option.bind_some,Bool.not_true,Bool.not_false,frk_t,frk_f];rfl
 ·refine⟨lfS false,false,.leaf,lf3,fun _=>⟨rfl,rfl⟩,fun h=>absurd h.1 hra,(e1.and e3).mono fun n ⟨h1,h3⟩=>⟨?_,fun h=>absurd h.1 hra⟩⟩
  ·simp only[Dspec_Put,Dspec_Put_0,h1,decide_eq_false hra,Option.bind_some,Bool.not_false,frk_t];rfl
end Evl.T
namespace Evl.T
open Go Evl
theorem sSameStep(n:Nat)(self:Sol×Sol→Option Bool)(i j:Bool)(p q:Pl)(k l:List Sol):Dspec_SameTree_b n self (.mk i p k,.mk j q l) =
  frk (!(i==j)) (some false) (frk (!(plEq p q)) (some false) (frk ((k.length:Int) != (l.length:Int)) (some false) (loopN (Dspec_SameTree_1 n self i p.A p.B p.C p.D k j q.A q.B q.C q.D l) n 0))):=rfl
open Classical in
theorem sSame:∀a,Lens a→E2 fun n m=>∀b,loopN (Dspec_SameTree_b n) m (a,b)=some (decide (a=b)):=by
 refine sol_ind fun i p k ih hl=>?_
 cases hl with
 | mk hk hx =>
  have h1:=E2.all fun x hxm=>ih x hxm (hx x hxm)
  have h2:E2 fun n _=>k.length<n:=⟨k.length+1,fun n hn _ _=>by omega⟩
  refine E2.suc ((h1.and h2).mono fun n m ⟨h1,h2⟩ b=>?_)
  obtain⟨j,q,l⟩:=b
  rw[loop_suc,sSameStep]
  by_cases e1:i=j
  ·subst e1
   rw[beq_self_eq_true,Bool.not_true,frk_f]
   by_cases e2:p=q
   ·subst e2
    rw[(plEq_iff p p).2 rfl,Bool.not_true,frk_f]
    by_cases e3:k.length=l.length
    ·rw[show ((k.length:Int) != (l.length:Int))=false by simp[e3],frk_f,kidsLoop _ (Dspec_SameTree_1 n (loopN (Dspec_SameTree_b n) m) i p.A p.B p.C p.D k i p.A p.B p.C p.D l) k l hk e3 h1 (fun _ _=>rfl) n h2]
     simp
    ·rw[show ((k.length:Int) != (l.length:Int))=true by simp;omega,frk_t]
     have:k≠l:=fun e=>e3 (by rw[e])
     simp[this]
   ·rw[plEq_no e2,Bool.not_false,frk_t];simp[e2]
  ·rw[show (i==j)=false by simp[e1],Bool.not_false,frk_t];simp[e1]
theorem sTidyStep(n:Nat)(self:Sol→Option Sol)(i:Bool)(p:Pl)(k:List Sol):Dspec_l12Tidy_b n self (.mk i p k)=frk ((k.length:Int)==0) (some (.mk i ⟨0,0,0,0⟩ [])) ((lget k 0).bind fun v2=>(self v2).bind fun v3=>(lget k 1).bind fun v4=>(self v4).bind fun v5=>(loopN (Dspec_SameTree_b n) n (v3,v5)).bind fun v6=>frk v6 (some v3) (some (.mk false p [v3,v5]))):=rfl
theorem iTidyStep(n:Nat)(self:Sol→Option Sol)(i:Bool)(p:Pl)(k:List Sol):Dimpl_tidy_b n self (.mk i p k)=frk ((k.length:Int)==0) (some (.mk i ⟨0,0,0,0⟩ [])) ((lget k 0).bind fun v2=>(self v2).bind fun v3=>(lget k 1).bind fun v4=>(self v4).bind fun v5=>(loopN (Dimpl_SameTree_b n) n (v3,v5)).bind fun v6=>frk v6 (some v3) (some (.mk false p [v3,v5]))):=rfl
open Classical in
theorem tidied{s:Sol}{path:List Pl}(h:Rt s path):∃t,Rt t path∧nod t≤nod s∧(E2 fun n m=>loopN (Dspec_l12Tidy_b n) m s=some t)∧E2 fun n m=>loopN (Dimpl_tidy_b n) m s=some t:=by
 induction h with
 | @leaf i p path hz =>
  refine⟨.mk i ⟨0,0,0,0⟩ [],.leaf rfl,by rw[nod_leaf,nod_leaf];omega,E2.suc (E2.of fun n m=>?_),E2.suc (E2.of fun n m=>?_)⟩
  ·rw[loop_suc,sTidyStep];rfl
  ·rw[loop_suc,iTidyStep];rfl
 | @node p a b path h1 h2 h3 h4 _ _ iha ihb =>
  obtain⟨ta,ra,na,sa,ia⟩:=iha
  obtain⟨tb,rb,nb,sb,ib⟩:=ihb
  have ss:=(sSame ta ra.lens).ev.e2
  have is:=(iSame ta ra.lens).ev.e2
  have S:E2 fun n m=>loopN (Dspec_l12Tidy_b n) (m+1) (.mk false p [a,b])=if ta=tb then some ta else some (.mk false p [ta,tb]):=(sa.and (sb.and ss)).mono fun n m ⟨sa,sb,ss⟩=>by
   rw[loop_suc,sTidyStep,show ((([a,b]:List Sol).length:Int)==0)=false from rfl,frk_f]
   show ((some a).bind _)=_
   rw[Option.bind_some,sa,Option.bind_some]
   show ((some b).bind _)=_
   rw[Option.bind_some,sb,Option.bind_some,ss tb,Option.bind_some]
   by_cases e:ta=tb
   ·rw[if_pos e,decide_eq_true e,frk_t]
   ·rw[if_neg e,decide_eq_false e,frk_f]
  have I:E2 fun n m=>loopN (Dimpl_tidy_b n) (m+1) (.mk false p [a,b])=if ta=tb then some ta else some (.mk false p [ta,tb]):=(ia.and (ib.and is)).mono fun n m ⟨sa,sb,ss⟩=>by
   rw[loop_suc,iTidyStep,show ((([a,b]:List Sol).length:Int)==0)=false from rfl,frk_f]
   show ((some a).bind _)=_
   rw[Option.bind_some,sa,Option.bind_some]
   show ((some b).bind _)=_
   rw[Option.bind_some,sb,Option.bind_some,ss tb,Option.bind_some]
   by_cases e:ta=tb
   ·rw[if_pos e,decide_eq_true e,frk_t]
   ·rw[if_neg e,decide_eq_false e,frk_f]
  by_cases e:ta=tb
  ·refine⟨ta,by simpa using ra.less path [] p rfl,by rw[nod2];omega,E2.suc (S.mono fun n m h=>by rw[h,if_pos e]),E2.suc (I.mono fun n m h=>by rw[h,if_pos e])⟩
  ·exact⟨_,.node h1 h2 h3 h4 ra rb,by rw[nod2,nod2];omega,E2.suc (S.mono fun n m h=>by rw[h,if_neg e]),E2.suc (I.mono fun n m h=>by rw[h,if_neg e])⟩
end Evl.T
namespace Evl.T
open Go Evl
mutual
def mk1:Sol→Int→Int×Sol
 | .mk _ _ kids,k=>((mkL kids (k+1+1+1+1+1)).1,.mk (Int.tmod k 3==0) ⟨k+1,k+1+1,k+1+1+1,k+1+1+1+1⟩ (mkL kids (k+1+1+1+1+1)).2)
def mkL:List Sol→Int→Int×List Sol
 | [],k=>(k,[])
 | x::xs,k=>((mkL xs (mk1 x k).1).1,(mk1 x k).2::(mkL xs (mk1 x k).1).2)
end
theorem mkL_nil(k:Int):mkL [] k=(k,[]):=by rw[mkL]
theorem mkL_cons(x:Sol)(xs:List Sol)(k:Int):mkL (x::xs) k=((mkL xs (mk1 x k).1).1,(mk1 x k).2::(mkL xs (mk1 x k).1).2):=by rw[mkL]
mutual
theorem mk1_fst:∀(x:Sol) (k:Int),(mk1 x k).1=k+5+5*(tot x:Int)
 | .mk i p kids,k=>by
  rw[mk1]
  have:=mkL_fst kids (k+1+1+1+1+1)
  rw[tot_mk]
  show (mkL kids (k+1+1+1+1+1)).1=_
  rw[this];push_cast;omega
theorem mkL_fst:∀(l:List Sol) (k:Int),(mkL l k).1=k+5*((l.length:Int)+(totL l:Int))
 | [],k=>by rw[mkL,totL];simp
 | x::xs,k=>by
  rw[mkL]
  have h1:=mk1_fst x k
  have h2:=mkL_fst xs (mk1 x k).1
  show (mkL xs (mk1 x k).1).1=_
  rw[h2,h1,totL,List.length_cons];push_cast;omega
end
theorem mkL_len:∀(l:List Sol) (k:Int),(mkL l k).2.length=l.length
 | [],k=>by rw[mkL]
 | x::xs,k=>by rw[mkL];simp[mkL_len xs]
def gig:Int:=1000000000
theorem wk{k:Int}(h0:0≤k)(h1:k+5≤gig):w64 (k+1)=k+1∧w64 (k+1+1)=k+1+1∧w64 (k+1+1+1)=k+1+1+1∧w64 (k+1+1+1+1)=k+1+1+1+1∧w64 (k+1+1+1+1+1)=k+1+1+1+1+1:=by
 unfold gig at h1
 refine⟨?_,?_,?_,?_,?_⟩ <;> exact w64_id (by omega) (by omega)
theorem lget_mid(P:List Sol)(y:Sol)(r:List Sol):lget (P++y::r) ((P.length:Nat):Int)=some y:=by
 rw[lget_nat,List.getElem?_append_right (Nat.le_refl _)];simp
theorem set_mid'(P:List Sol)(y z:Sol)(r:List Sol):(P++y::r).set (Int.toNat ((P.length:Nat):Int)) z=P++z::r:=by
 rw[Int.toNat_natCast,List.set_append_right _ _ (Nat.le_refl _)];simp
theorem markLoop(n:Nat)(self:List Sol×Int→Option (Int×List Sol)):∀(r P:List Sol) (m:Nat) (k:Int),(∀x∈r,∀k:Int,0≤k→k+5*(tot x:Int)≤gig→self (x.kids,k)=some (mkL x.kids k))→r.length<m→P.length+r.length<big→0≤k→k+5*((r.length:Int)+(totL r:Int))≤gig →
  loopN (Dlaws_markSolidS_1 n self) m (k,((P.length:Nat):Int),P++r)=some ((mkL r k).1,P++(mkL r k).2):=by
 intro r
 induction r with
 | nil =>
  intro P m k hs hm hb h0 h1
  obtain⟨m,rfl⟩:∃q,m=q+1:=⟨m-1,by omega⟩
  rw[loop_suc]
  simp only[Dlaws_markSolidS_1,List.append_nil,lt_self,frk_f,mkL_nil]
 | cons x r ih =>
  intro P m k hs hm hb h0 h1
  simp only[List.length_cons] at hm hb h1
  obtain⟨m,rfl⟩:∃q,m=q+1:=⟨m-1,by omega⟩
  rw[totL] at h1
  push_cast at h1
  obtain⟨w1,w2,w3,w4,w5⟩:=wk h0 (by omega)
  have hlt:∀y:Sol,decide (((P.length:Nat):Int)<((P++y::r).length:Int))=true:=fun y=>by simp;omega
  obtain⟨xi,xp,xk⟩:=x
  have hself:self (xk,k+1+1+1+1+1)=some (mkL xk (k+1+1+1+1+1)):=hs _ List.mem_cons_self (k+1+1+1+1+1) (by omega) (by omega)
  have hsuc:w64 (((P.length:Nat):Int)+1)=(((P++[(mk1 (.mk xi xp xk) k).2]).length:Nat):Int):=by rw[w64_suc (by omega)];simp
  rw[loop_suc]
  simp only[Dlaws_markSolidS_1,Dlaws_markSolidS_0,hlt,frk_t,lget_mid,set_mid',Option.bind_some,Sol.inn,Sol.pl,Sol.kids,w1,w2,w3,w4,w5]
  rw[hself,Option.bind_some,hsuc]
  have e:(Sol.mk (Int.tmod k 3==0) ⟨k+1,k+1+1,k+1+1+1,k+1+1+1+1⟩ (mkL xk (k+1+1+1+1+1)).2)=(mk1 (.mk xi xp xk) k).2:=by rw[mk1]
  have e1:(mkL xk (k+1+1+1+1+1)).1=(mk1 (.mk xi xp xk) k).1:=by rw[mk1]
  rw[e,e1,show P++(mk1 (.mk xi xp xk) k).2::r=(P++[(mk1 (.mk xi xp xk) k).2])++r by simp]
  have hf:=mk1_fst (.mk xi xp xk) k
  rw[ih (P++[(mk1 (.mk xi xp xk) k).2]) m (mk1 (.mk xi xp xk) k).1 (fun y hy=>hs y (List.mem_cons_of_mem _ hy)) (by omega) (by simp;omega) (by omega) (by omega),mkL_cons]
  simp
theorem markOk:∀s,Lens s→tot s≤1048576→E2 fun n m=>∀k:Int,0≤k→k+5*(tot s:Int)≤gig→loopN (Dlaws_markSolidS_b n) m (s.kids,k)=some (mkL s.kids k):=by
 refine sol_ind fun i p k ih hl ht=>?_
 rw[tot_mk] at ht
 cases hl with
 | mk hb hk =>
  have h1:=E2.all fun x hx=>ih x hx (hk x hx) (by have:=tot_le hx;omega)
  have h2:E2 fun n _=>k.length<n:=⟨k.length+1,fun n hn _ _=>by omega⟩
  refine E2.suc ((h1.and h2).mono fun n m ⟨h1,h2⟩ q hq0 hq1=>?_)
  rw[tot_mk] at hq1
  push_cast at hq1
  rw[loop_suc]
  show loopN (Dlaws_markSolidS_1 n _) n (q,0,k)=some (mkL k q)
  have:=markLoop n (loopN (Dlaws_markSolidS_b n) m) k [] n q h1 h2 (by simp;unfold big;omega) hq0 hq1
  simpa using this
inductive Tw:Sol→Prop
 | leaf {i p}:Tw (.mk i p [])
 | node {i p a b}:Tw a→Tw b→Tw (.mk i p [a,b])
theorem Tw.lens{s:Sol}(h:Tw s):Lens s:=by
 induction h with
 | leaf=>exact .mk (by simp[big]) (by simp)
 | node _ _ iha ihb =>
  refine .mk (by simp[big]) fun x hx=>?_
  simp only[List.mem_cons,List.not_mem_nil,or_false] at hx
  rcases hx with rfl | rfl
  ·exact iha
  ·exact ihb
theorem Tw.tot{s:Sol}(h:Tw s):Evl.T.tot s=2*nod s:=by
 induction h with
 | leaf=>rw[tot_mk,nod_leaf];simp[totL]
 | node _ _ iha ihb=>rw[tot_mk,nod2];simp only[totL,List.length_cons,List.length_nil,iha,ihb];omega
theorem Rt.tw{s:Sol}{l:List Pl}(h:Rt s l):Tw s:=by
 induction h with
 | leaf _=>exact .leaf
 | node _ _ _ _ _ _ iha ihb=>exact .node iha ihb
theorem markAt{s:Sol}(h:Lens s)(ht:tot s≤1048576):Ev fun n=>∀k:Int,0≤k→k≤900000000→Dlaws_markSolidS n s.kids k=some (mkL s.kids k) :=
 (markOk s h ht).ev.mono fun n hn k h0 h1=>hn k h0 (by unfold gig;omega)
theorem mkL_tot{s:Sol}(k:Int):(mkL s.kids k).1=k+5*(tot s:Int):=by
 rw[mkL_fst];cases s;rw[tot_mk];push_cast;rfl
end Evl.T
namespace Evl.T
open Go Evl
theorem heldLoop(n:Nat)(self:List Sol×Int→Option Int)(L:List Sol)(hL:L.length≤big):∀(r:List Sol) (i m:Nat) (k:Int),(∀x∈r,∀k:Int,0≤k→k+5*(tot x:Int)≤gig→self ((mkL x.kids k).2,k)=some (mkL x.kids k).1)→L.drop i=(mkL r k).2→i≤L.length→r.length<m→0≤k→k+5*((r.length:Int)+(totL r:Int))≤gig →
  loopN (Dlaws_heldSolidS_0 n self L) m (k,(i:Int))=some (mkL r k).1:=by
 intro r
 induction r with
 | nil =>
  intro i m k hs hd hi hm h0 h1
  obtain⟨m,rfl⟩:∃q,m=q+1:=⟨m-1,by omega⟩
  rw[mkL_nil] at hd
  have:i=L.length:=by have:=List.drop_eq_nil_iff.1 hd;omega
  subst this
  rw[loop_suc]
  simp only[Dlaws_heldSolidS_0,lt_self,frk_f,mkL_nil]
 | cons x r ih =>
  intro i m k hs hd hi hm h0 h1
  simp only[List.length_cons] at hm h1
  obtain⟨m,rfl⟩:∃q,m=q+1:=⟨m-1,by omega⟩
  rw[totL] at h1
  push_cast at h1
  obtain⟨w1,w2,w3,w4,w5⟩:=wk h0 (by omega)
  rw[mkL_cons] at hd
  obtain⟨hil,hx,hd',-⟩:=drop_get hd
  obtain⟨xi,xp,xk⟩:=x
  have hself:self ((mkL xk (k+1+1+1+1+1)).2,k+1+1+1+1+1)=some (mkL xk (k+1+1+1+1+1)).1:=hs _ List.mem_cons_self (k+1+1+1+1+1) (by omega) (by omega)
  have hf:=mk1_fst (.mk xi xp xk) k
  have e1:(mkL xk (k+1+1+1+1+1)).1=(mk1 (.mk xi xp xk) k).1:=by rw[mk1]
  have hnn:decide ((mkL xk (k+1+1+1+1+1)).1<0)=false:=decide_eq_false (by rw[e1];omega)
  rw[loop_suc]
  simp only[Dlaws_heldSolidS_0,lt_dec hil,frk_t,lget_nat,hx,Option.bind_some,w1,w2,w3,w4,w5]
  simp only[mk1,Sol.inn,Sol.pl,Sol.kids,beq_self_eq_true,Bool.not_true,frk_f,bne_self_eq_false]
  rw[hself,Option.bind_some,hnn,frk_f,w64_suc (by omega),e1]
  rw[ih (i+1) m (mk1 (.mk xi xp xk) k).1 (fun y hy=>hs y (List.mem_cons_of_mem _ hy)) hd' (by omega) (by omega) (by omega) (by omega),mkL_cons]
theorem heldOk:∀s,Lens s→tot s≤1048576→E2 fun n m=>∀k:Int,0≤k→k+5*(tot s:Int)≤gig→loopN (Dlaws_heldSolidS_b n) m ((mkL s.kids k).2,k)=some (mkL s.kids k).1:=by
 refine sol_ind fun i p k ih hl ht=>?_
 rw[tot_mk] at ht
 cases hl with
 | mk hb hk =>
  have h1:=E2.all fun x hx=>ih x hx (hk x hx) (by have:=tot_le hx;omega)
  have h2:E2 fun n _=>k.length<n:=⟨k.length+1,fun n hn _ _=>by omega⟩
  refine E2.suc ((h1.and h2).mono fun n m ⟨h1,h2⟩ q hq0 hq1=>?_)
  rw[tot_mk] at hq1
  push_cast at hq1
  rw[loop_suc]
  show loopN (Dlaws_heldSolidS_0 n _ (mkL k q).2) n (q,0)=some (mkL k q).1
  exact heldLoop n (loopN (Dlaws_heldSolidS_b n) m) (mkL k q).2 (by rw[mkL_len];exact hb) k 0 n q h1 (by simp) (by omega) h2 hq0 hq1
theorem heldAt{s:Sol}(h:Lens s)(ht:tot s≤1048576):Ev fun n=>∀k:Int,0≤k→k≤900000000→Dlaws_heldSolid n (Sol.mk s.inn s.pl (mkL s.kids k).2) k=some (mkL s.kids k).1 :=
 (heldOk s h ht).ev.mono fun n hn k h0 h1=>by
  have h2:=hn k h0 (by unfold gig;omega)
  have h3:=mkL_fst s.kids k
  unfold Dlaws_heldSolid Dlaws_heldSolidS
  have e:loopN (Dlaws_heldSolidS_b n) n ((mkL s.kids k).2,k)=some (mkL s.kids k).1:=h2
  show ((loopN (Dlaws_heldSolidS_b n) n ((mkL s.kids k).2,k)).bind _)=_
  rw[e,Option.bind_some,decide_eq_false (by omega),frk_f]
end Evl.T
namespace Evl.T
open Go Evl
end Evl.T
namespace Evl.T
open Go Evl
theorem ap64{k:Nat}(h:k≤1048576):apB 64 k=true:=by
 simp only[apB,Bool.and_eq_true,decide_eq_true_eq];omega
theorem copyLoop{F:(Int×List Sol→Option Sol)→Int×List Sol→Option Sol}{self:Sol→Option Sol}{l:List Sol}{R:List Sol→Option Sol}(hl:l.length≤1048576)(hs:∀x∈l,self x=some x)
  (hF:∀rec (t:Int) (d:List Sol),F rec (t,d)=frk (decide (t<(l.length:Int))) ((lget l t).bind fun v0=>(self v0).bind fun v1=>chk (apB 64 (d.length+1)) (rec (w64 (t+1),d++[v1]))) (R d)) :
  ∀(r:List Sol) (k m:Nat),l.drop k=r→k≤l.length→r.length<m→loopN F m ((k:Int),l.take k)=R l:=by
 intro r
 induction r with
 | nil =>
  intro k m hr hk hm
  obtain⟨m,rfl⟩:∃j,m=j+1:=⟨m-1,by omega⟩
  have hk:k=l.length:=by have:=List.drop_eq_nil_iff.1 hr;omega
  rw[loop_suc,hF,hk,lt_self,frk_f,List.take_length]
 | cons x r ih =>
  intro k m hr hk hm
  simp only[List.length_cons] at hm
  obtain⟨m,rfl⟩:∃j,m=j+1:=⟨m-1,by omega⟩
  obtain⟨hkl,hx,hr',hmem⟩:=drop_get hr
  have ht:(l.take k).length=k:=by rw[List.length_take];omega
  rw[loop_suc,hF,lt_dec hkl,frk_t,lget_nat,hx,Option.bind_some,hs x hmem,Option.bind_some,chk_eq (ap64 (by rw[ht];omega)),w64_suc (by unfold big;omega)]
  have e:l.take k++[x]=l.take (k+1):=by rw[List.take_add_one,hx];simp
  rw[e]
  exact ih (k+1) m hr' (by omega) (by omega)
theorem sCopy:∀s,tot s≤1048576→E2 fun n m=>loopN (Dspec_l8Copy_b n) m s=some s:=by
 refine sol_ind fun i p k ih hl=>?_
 rw[tot_mk] at hl
 have h1:=E2.all fun x hx=>ih x hx (by have:=tot_le hx;omega)
 have h2:E2 fun n _=>k.length<n:=⟨k.length+1,fun n hn _ _=>by omega⟩
 refine E2.suc ((h1.and h2).mono fun n m ⟨h1,h2⟩=>?_)
 rw[loop_suc]
 exact copyLoop (F:=Dspec_l8Copy_0 n (loopN (Dspec_l8Copy_b n) m) i p.A p.B p.C p.D k false 0 0 0 0 i p.A p.B p.C p.D) (l:=k) (R:=fun d=>some (.mk i p d)) (by omega) h1 (fun _ _ _=>rfl) k 0 n (by simp) (by omega) h2
theorem iCopy:∀s,tot s≤1048576→E2 fun n m=>loopN (Dimpl_copySolid_b n) m s=some s:=by
 refine sol_ind fun i p k ih hl=>?_
 rw[tot_mk] at hl
 have h1:=E2.all fun x hx=>ih x hx (by have:=tot_le hx;omega)
 have h2:E2 fun n _=>k.length<n:=⟨k.length+1,fun n hn _ _=>by omega⟩
 refine E2.suc ((h1.and h2).mono fun n m ⟨h1,h2⟩=>?_)
 rw[loop_suc]
 exact copyLoop (F:=Dimpl_copySolid_0 n (loopN (Dimpl_copySolid_b n) m) k (k.length:Int) false 0 0 0 0 i p.A p.B p.C p.D) (l:=k) (R:=fun d=>some (.mk i p d)) (by omega) h1 (fun _ _ _=>rfl) k 0 n (by simp) (by omega) h2
theorem sCopyE{s:Sol}(h:tot s≤1048576):Ev fun n=>Dspec_l8Copy n s=some s:=(sCopy s h).ev
theorem iCopyE{s:Sol}(h:tot s≤1048576):Ev fun n=>Dimpl_copySolid n s=some s:=(iCopy s h).ev
end Evl.T
namespace Evl.T
open Go Evl
theorem iNodesStep(n:Nat)(self:Sol→Option Int)(i:Bool)(p:Pl)(k:List Sol):Dimpl_Solid_nodes_b n self (.mk i p k)=frk ((k.length:Int)==0) (some 0) ((lget k 0).bind fun v1=>(self v1).bind fun v2=>(lget k 1).bind fun v3=>(self v3).bind fun v4=>some (w64 ((w64 (1+v2))+v4))):=rfl
theorem iNodes{s:Sol}{path:List Pl}(h:Rt s path):nod s≤1000000→E2 fun n m=>loopN (Dimpl_Solid_nodes_b n) m s=some ((nod s:Nat):Int):=by
 induction h with
 | @leaf i p path hz=>intro _;exact E2.suc (E2.of fun n m=>by rw[loop_suc,iNodesStep,nod_leaf];rfl)
 | @node p a b path h1 h2 h3 h4 _ _ iha ihb =>
  intro hn
  rw[nod2] at hn
  refine E2.suc (((iha (by omega)).and (ihb (by omega))).mono fun n m ⟨h1,h2⟩=>?_)
  rw[loop_suc,iNodesStep,show ((([a,b]:List Sol).length:Int)==0)=false from rfl,frk_f]
  show ((some a).bind _)=_
  rw[Option.bind_some,h1,Option.bind_some]
  show ((some b).bind _)=_
  rw[Option.bind_some,h2,Option.bind_some,w64_id (x:=1+((nod a:Nat):Int)) (by omega) (by omega),w64_id (by omega) (by omega),nod2]
  congr 1;omega
end Evl.T
namespace Evl.T
open Go Evl
def zs:Sol:=.mk false ⟨0,0,0,0⟩ []
abbrev S8:=Sol×Sol×Sol×Sol×Sol×Sol×Sol×Sol
abbrev B8:=Bool×Bool×Bool×Bool×Bool×Bool×Bool×Bool
theorem zs_right:Right zs:=⟨.leaf rfl,by unfold zs;rw[nod_leaf];omega⟩
open Classical in
theorem none_iff(s:Sol):Dspec_l20None s=some (decide (s=zs)):=by
 obtain⟨i,p,k⟩:=s
 unfold zs
 show frk (!i) (frk (plEq p ⟨0,0,0,0⟩) (some ((k.length:Int)==0)) (some false)) (some false)=_
 cases i with
 | true=>rw[Bool.not_true,frk_f];simp
 | false =>
  rw[Bool.not_false,frk_t]
  by_cases hp:p=⟨0,0,0,0⟩
  ·subst hp
   rw[(plEq_iff _ _).2 rfl,frk_t]
   cases k with
   | nil=>simp
   | cons x k =>
    have:((((x::k):List Sol).length:Int)==0)=false:=by simp;omega
    rw[this];simp
  ·rw[plEq_no hp,frk_f];simp[hp]
def stI (ok z h:Bool)(rest:Option Bool):Option Bool:=frk (!ok) (some false) (frk (!h) (frk (!z) (some false) rest) rest)
def stS (ok z h:Bool)(rest:Option Bool):Option Bool:=frk h (frk (!ok) (some false) (frk (!h) (frk (!z) (some false) rest) rest)) (frk (!h) (frk (!z) (some false) rest) rest)
theorem stI_eq(ok z h:Bool)(rest:Option Bool):stI ok z h rest=frk (ok&&(h||z)) rest (some false):=by
 cases ok <;> cases z <;> cases h <;> rfl
theorem stS_eq(ok z h:Bool)(rest:Option Bool)(hz:z=true→ok=true):stS ok z h rest=frk (ok&&(h||z)) rest (some false):=by
 cases ok <;> cases z <;> cases h <;> first | rfl | (have:=hz rfl;cases this)
theorem frk_congr{b:Bool}{x y z:Option Bool}(h:b=true→x=y):frk b x z=frk b y z:=by
 cases b
 ·rfl
 ·exact h rfl
theorem stepSz{f rest:Int→Option Int}{t:Nat}{Q:Prop}(hA:∀left,0≤left→left≤mil→f left=some (szv t left))(hB:∀left,0≤left→left≤mil→∃v,rest left=some v∧(v<0∨Q)) :
  ∀left,0≤left→left≤mil→∃v,((f left).bind fun v0=>frk (decide (v0<0)) (some (-1)) (rest v0))=some v∧(v<0∨(t≤1048576∧Q)):=by
 intro left h0 h1
 unfold mil at h1
 rw[hA left h0 h1,Option.bind_some]
 by_cases hc:(t:Int)≤left
 ·rw[szv_yes hc,decide_eq_false (by omega),frk_f]
  obtain⟨v,e,h⟩:=hB (left-t) (by omega) (by unfold mil;omega)
  exact⟨v,e,h.imp id fun h=>⟨by omega,h⟩⟩
 ·rw[szv_no hc];exact⟨-1,rfl,.inl (by omega)⟩
theorem szAll(s:Sol)(h:Lens s):Ev fun n=>∀left:Int,0≤left→left≤mil→Dlaws_szSolid n s left=some (szv (tot s) left):=(szOk s h).ev
open Classical in
theorem iNodesR(s:Sol):Ev fun n=>Right s→Dimpl_Solid_nodes n s=some ((nod s:Nat):Int):=by
 by_cases h:Right s
 ·exact((iNodes h.1 (by have:=h.2;omega)).ev).mono fun n e _=>e
 ·exact Ev.of fun n h'=>absurd h' h
open Classical in
noncomputable def rt(s:Sol):Bool:=decide (Right s)
open Classical in
noncomputable def isz(s:Sol):Bool:=decide (s=zs)
theorem rt_iff{s:Sol}:rt s=true↔Right s:=by unfold rt;simp
theorem isz_rt{s:Sol}(h:isz s=true):rt s=true:=by
 unfold isz at h;simp only[decide_eq_true_eq] at h;subst h;exact rt_iff.2 zs_right
theorem none_eq(s:Sol):Dspec_l20None s=some (isz s):=none_iff s
def Desk8(d:S8×B8):Prop:=Lens d.1.1∧Lens d.1.2.1∧Lens d.1.2.2.1∧Lens d.1.2.2.2.1∧Lens d.1.2.2.2.2.1∧Lens d.1.2.2.2.2.2.1∧Lens d.1.2.2.2.2.2.2.1∧Lens d.1.2.2.2.2.2.2.2
structure DF(n:Nat)(d:S8×B8):Prop where
 sz1:∀left:Int,0≤left→left≤mil→Dlaws_szSolid n d.1.1 left=some (szv (tot d.1.1) left)
 sok1:Dspec_SolidOk n d.1.1=some (rt d.1.1)
 iok1:Dimpl_SolidOk n d.1.1=some (rt d.1.1)
 cn1:Dspec_l8Count n d.1.1 301=some (cnv (nod d.1.1) 301)
 nd1:Right d.1.1→Dimpl_Solid_nodes n d.1.1=some ((nod d.1.1:Nat):Int)
 sm1:Dimpl_SameTree n d.1.1 zs=some (isz d.1.1)
 sz2:∀left:Int,0≤left→left≤mil→Dlaws_szSolid n d.1.2.1 left=some (szv (tot d.1.2.1) left)
 sok2:Dspec_SolidOk n d.1.2.1=some (rt d.1.2.1)
 iok2:Dimpl_SolidOk n d.1.2.1=some (rt d.1.2.1)
 cn2:Dspec_l8Count n d.1.2.1 301=some (cnv (nod d.1.2.1) 301)
 nd2:Right d.1.2.1→Dimpl_Solid_nodes n d.1.2.1=some ((nod d.1.2.1:Nat):Int)
 sm2:Dimpl_SameTree n d.1.2.1 zs=some (isz d.1.2.1)
 sz3:∀left:Int,0≤left→left≤mil→Dlaws_szSolid n d.1.2.2.1 left=some (szv (tot d.1.2.2.1) left)
 sok3:Dspec_SolidOk n d.1.2.2.1=some (rt d.1.2.2.1)
 iok3:Dimpl_SolidOk n d.1.2.2.1=some (rt d.1.2.2.1)
 cn3:Dspec_l8Count n d.1.2.2.1 301=some (cnv (nod d.1.2.2.1) 301)
 nd3:Right d.1.2.2.1→Dimpl_Solid_nodes n d.1.2.2.1=some ((nod d.1.2.2.1:Nat):Int)
 sm3:Dimpl_SameTree n d.1.2.2.1 zs=some (isz d.1.2.2.1)
 sz4:∀left:Int,0≤left→left≤mil→Dlaws_szSolid n d.1.2.2.2.1 left=some (szv (tot d.1.2.2.2.1) left)
 sok4:Dspec_SolidOk n d.1.2.2.2.1=some (rt d.1.2.2.2.1)
 iok4:Dimpl_SolidOk n d.1.2.2.2.1=some (rt d.1.2.2.2.1)
 cn4:Dspec_l8Count n d.1.2.2.2.1 301=some (cnv (nod d.1.2.2.2.1) 301)
 nd4:Right d.1.2.2.2.1→Dimpl_Solid_nodes n d.1.2.2.2.1=some ((nod d.1.2.2.2.1:Nat):Int)
 sm4:Dimpl_SameTree n d.1.2.2.2.1 zs=some (isz d.1.2.2.2.1)
 sz5:∀left:Int,0≤left→left≤mil→Dlaws_szSolid n d.1.2.2.2.2.1 left=some (szv (tot d.1.2.2.2.2.1) left)
 sok5:Dspec_SolidOk n d.1.2.2.2.2.1=some (rt d.1.2.2.2.2.1)
 iok5:Dimpl_SolidOk n d.1.2.2.2.2.1=some (rt d.1.2.2.2.2.1)
 cn5:Dspec_l8Count n d.1.2.2.2.2.1 301=some (cnv (nod d.1.2.2.2.2.1) 301)
 nd5:Right d.1.2.2.2.2.1→Dimpl_Solid_nodes n d.1.2.2.2.2.1=some ((nod d.1.2.2.2.2.1:Nat):Int)
 sm5:Dimpl_SameTree n d.1.2.2.2.2.1 zs=some (isz d.1.2.2.2.2.1)
 sz6:∀left:Int,0≤left→left≤mil→Dlaws_szSolid n d.1.2.2.2.2.2.1 left=some (szv (tot d.1.2.2.2.2.2.1) left)
 sok6:Dspec_SolidOk n d.1.2.2.2.2.2.1=some (rt d.1.2.2.2.2.2.1)
 iok6:Dimpl_SolidOk n d.1.2.2.2.2.2.1=some (rt d.1.2.2.2.2.2.1)
 cn6:Dspec_l8Count n d.1.2.2.2.2.2.1 301=some (cnv (nod d.1.2.2.2.2.2.1) 301)
 nd6:Right d.1.2.2.2.2.2.1→Dimpl_Solid_nodes n d.1.2.2.2.2.2.1=some ((nod d.1.2.2.2.2.2.1:Nat):Int)
 sm6:Dimpl_SameTree n d.1.2.2.2.2.2.1 zs=some (isz d.1.2.2.2.2.2.1)
 sz7:∀left:Int,0≤left→left≤mil→Dlaws_szSolid n d.1.2.2.2.2.2.2.1 left=some (szv (tot d.1.2.2.2.2.2.2.1) left)
 sok7:Dspec_SolidOk n d.1.2.2.2.2.2.2.1=some (rt d.1.2.2.2.2.2.2.1)
 iok7:Dimpl_SolidOk n d.1.2.2.2.2.2.2.1=some (rt d.1.2.2.2.2.2.2.1)
 cn7:Dspec_l8Count n d.1.2.2.2.2.2.2.1 301=some (cnv (nod d.1.2.2.2.2.2.2.1) 301)
 nd7:Right d.1.2.2.2.2.2.2.1→Dimpl_Solid_nodes n d.1.2.2.2.2.2.2.1=some ((nod d.1.2.2.2.2.2.2.1:Nat):Int)
 sm7:Dimpl_SameTree n d.1.2.2.2.2.2.2.1 zs=some (isz d.1.2.2.2.2.2.2.1)
 sz8:∀left:Int,0≤left→left≤mil→Dlaws_szSolid n d.1.2.2.2.2.2.2.2 left=some (szv (tot d.1.2.2.2.2.2.2.2) left)
 sok8:Dspec_SolidOk n d.1.2.2.2.2.2.2.2=some (rt d.1.2.2.2.2.2.2.2)
 iok8:Dimpl_SolidOk n d.1.2.2.2.2.2.2.2=some (rt d.1.2.2.2.2.2.2.2)
 cn8:Dspec_l8Count n d.1.2.2.2.2.2.2.2 301=some (cnv (nod d.1.2.2.2.2.2.2.2) 301)
 nd8:Right d.1.2.2.2.2.2.2.2→Dimpl_Solid_nodes n d.1.2.2.2.2.2.2.2=some ((nod d.1.2.2.2.2.2.2.2:Nat):Int)
 sm8:Dimpl_SameTree n d.1.2.2.2.2.2.2.2 zs=some (isz d.1.2.2.2.2.2.2.2)
theorem DF.ev(d:S8×B8)(h:Desk8 d):Ev fun n=>DF n d:=by
 obtain⟨h1,h2,h3,h4,h5,h6,h7,h8⟩:=h
 have q1:=(szAll _ h1).and ((sSolidOk _ h1).and ((iSolidOk d.1.1).and ((cnt _ h1).and ((iNodesR d.1.1).and ((iSame _ h1).ev)))))
 have q2:=(szAll _ h2).and ((sSolidOk _ h2).and ((iSolidOk d.1.2.1).and ((cnt _ h2).and ((iNodesR d.1.2.1).and ((iSame _ h2).ev)))))
 have q3:=(szAll _ h3).and ((sSolidOk _ h3).and ((iSolidOk d.1.2.2.1).and ((cnt _ h3).and ((iNodesR d.1.2.2.1).and ((iSame _ h3).ev)))))
 have q4:=(szAll _ h4).and ((sSolidOk _ h4).and ((iSolidOk d.1.2.2.2.1).and ((cnt _ h4).and ((iNodesR d.1.2.2.2.1).and ((iSame _ h4).ev)))))
 have q5:=(szAll _ h5).and ((sSolidOk _ h5).and ((iSolidOk d.1.2.2.2.2.1).and ((cnt _ h5).and ((iNodesR d.1.2.2.2.2.1).and ((iSame _ h5).ev)))))
 have q6:=(szAll _ h6).and ((sSolidOk _ h6).and ((iSolidOk d.1.2.2.2.2.2.1).and ((cnt _ h6).and ((iNodesR d.1.2.2.2.2.2.1).and ((iSame _ h6).ev)))))
 have q7:=(szAll _ h7).and ((sSolidOk _ h7).and ((iSolidOk d.1.2.2.2.2.2.2.1).and ((cnt _ h7).and ((iNodesR d.1.2.2.2.2.2.2.1).and ((iSame _ h7).ev)))))
 have q8:=(szAll _ h8).and ((sSolidOk _ h8).and ((iSolidOk d.1.2.2.2.2.2.2.2).and ((cnt _ h8).and ((iNodesR d.1.2.2.2.2.2.2.2).and ((iSame _ h8).ev)))))
 refine(q1.and (q2.and (q3.and (q4.and (q5.and (q6.and (q7.and (q8)))))))).mono fun n ⟨e1,e2,e3,e4,e5,e6,e7,e8⟩=>?_
 exact⟨e1.1,e1.2.1,e1.2.2.1,e1.2.2.2.1,e1.2.2.2.2.1,e1.2.2.2.2.2 zs,e2.1,e2.2.1,e2.2.2.1,e2.2.2.2.1,e2.2.2.2.2.1,e2.2.2.2.2.2 zs,e3.1,e3.2.1,e3.2.2.1,e3.2.2.2.1,e3.2.2.2.2.1,e3.2.2.2.2.2 zs,e4.1,e4.2.1,e4.2.2.1,e4.2.2.2.1,e4.2.2.2.2.1,e4.2.2.2.2.2 zs,e5.1,e5.2.1,e5.2.2.1,e5.2.2.2.1,e5.2.2.2.2.1,e5.2.2.2.2.2 zs,e6.1,e6.2.1,e6.2.2.1,e6.2.2.2.1,e6.2.2.2.2.1,e6.2.2.2.2.2 zs,e7.1,e7.2.1,e7.2.2.1,e7.2.2.2.1,e7.2.2.2.2.1,e7.2.2.2.2.2 zs,e8.1,e8.2.1,e8.2.2.1,e8.2.2.2.1,e8.2.2.2.2.1,e8.2.2.2.2.2 zs⟩
theorem szDesk{n:Nat}{d:S8×B8}(F:DF n d):∃v,Dlaws_szDesk n d 1048576=some v∧(v<0∨(tot d.1.1≤1048576∧tot d.1.2.1≤1048576∧tot d.1.2.2.1≤1048576∧tot d.1.2.2.2.1≤1048576∧tot d.1.2.2.2.2.1≤1048576∧tot d.1.2.2.2.2.2.1≤1048576∧tot d.1.2.2.2.2.2.2.1≤1048576∧tot d.1.2.2.2.2.2.2.2≤1048576∧True)):=by
 have h:∃v,Dlaws_szSolidA8 n d.1 1048576=some v∧(v<0∨(tot d.1.1≤1048576∧tot d.1.2.1≤1048576∧tot d.1.2.2.1≤1048576∧tot d.1.2.2.2.1≤1048576∧tot d.1.2.2.2.2.1≤1048576∧tot d.1.2.2.2.2.2.1≤1048576∧tot d.1.2.2.2.2.2.2.1≤1048576∧tot d.1.2.2.2.2.2.2.2≤1048576∧True)):=by
  exact(stepSz F.sz1 (stepSz F.sz2 (stepSz F.sz3 (stepSz F.sz4 (stepSz F.sz5 (stepSz F.sz6 (stepSz F.sz7 (stepSz F.sz8 (fun left _ _=>⟨left,rfl,.inr trivial⟩))))))))) 1048576 (by decide) (by decide)
 obtain⟨v,e,hv⟩:=h
 unfold Dlaws_szDesk
 rw[e,Option.bind_some]
 by_cases hc:v<0
 ·rw[decide_eq_true hc,frk_t];exact⟨-1,rfl,.inl (by omega)⟩
 ·rw[decide_eq_false hc,frk_f];exact⟨v,rfl,hv⟩
theorem iChain{n:Nat}{d:S8×B8}(F:DF n d):Dimpl_DeskOk n d=frk (rt d.1.1&&(d.2.1||isz d.1.1)) (frk (rt d.1.2.1&&(d.2.2.1||isz d.1.2.1)) (frk (rt d.1.2.2.1&&(d.2.2.2.1||isz d.1.2.2.1)) (frk (rt d.1.2.2.2.1&&(d.2.2.2.2.1||isz d.1.2.2.2.1)) (frk (rt d.1.2.2.2.2.1&&(d.2.2.2.2.2.1||isz d.1.2.2.2.2.1)) (frk (rt d.1.2.2.2.2.2.1&&(d.2.2.2.2.2.2.1||isz d.1.2.2.2.2.2.1)) (frk (rt d.1.2.2.2.2.2.2.1&&(d.2.2.2.2.2.2.2.1||isz d.1.2.2.2.2.2.2.1)) (frk (rt d.1.2.2.2.2.2.2.2&&(d.2.2.2.2.2.2.2.2||isz d.1.2.2.2.2.2.2.2)) ((Dimpl_Desk_held n d).bind fun v=>some (decide (v≤900))) (some false)) (some false)) (some false)) (some false)) (some false)) (some false)) (some false)) (some false):=by
 have e8:Dimpl_DeskOk_9 n d=frk (rt d.1.2.2.2.2.2.2.2&&(d.2.2.2.2.2.2.2.2||isz d.1.2.2.2.2.2.2.2)) (Dimpl_DeskOk_8 n d) (some false):=by
  rw[←stI_eq]
  unfold Dimpl_DeskOk_9
  show (Dimpl_SolidOk n d.1.2.2.2.2.2.2.2).bind _=_
  rw[F.iok8,Option.bind_some]
  show frk _ _ (frk _ ((Dimpl_SameTree n d.1.2.2.2.2.2.2.2 zs).bind _) _)=_
  rw[F.sm8,Option.bind_some]
  rfl
 have e7:Dimpl_DeskOk_10 n d=frk (rt d.1.2.2.2.2.2.2.1&&(d.2.2.2.2.2.2.2.1||isz d.1.2.2.2.2.2.2.1)) (Dimpl_DeskOk_9 n d) (some false):=by
  rw[←stI_eq]
  unfold Dimpl_DeskOk_10
  show (Dimpl_SolidOk n d.1.2.2.2.2.2.2.1).bind _=_
  rw[F.iok7,Option.bind_some]
  show frk _ _ (frk _ ((Dimpl_SameTree n d.1.2.2.2.2.2.2.1 zs).bind _) _)=_
  rw[F.sm7,Option.bind_some]
  rfl
 have e6:Dimpl_DeskOk_11 n d=frk (rt d.1.2.2.2.2.2.1&&(d.2.2.2.2.2.2.1||isz d.1.2.2.2.2.2.1)) (Dimpl_DeskOk_10 n d) (some false):=by
  rw[←stI_eq]
  unfold Dimpl_DeskOk_11
  show (Dimpl_SolidOk n d.1.2.2.2.2.2.1).bind _=_
  rw[F.iok6,Option.bind_some]
  show frk _ _ (frk _ ((Dimpl_SameTree n d.1.2.2.2.2.2.1 zs).bind _) _)=_
  rw[F.sm6,Option.bind_some]
  rfl
 have e5:Dimpl_DeskOk_12 n d=frk (rt d.1.2.2.2.2.1&&(d.2.2.2.2.2.1||isz d.1.2.2.2.2.1)) (Dimpl_DeskOk_11 n d) (some false):=by
  rw[←stI_eq]
  unfold Dimpl_DeskOk_12
  show (Dimpl_SolidOk n d.1.2.2.2.2.1).bind _=_
  rw[F.iok5,Option.bind_some]
  show frk _ _ (frk _ ((Dimpl_SameTree n d.1.2.2.2.2.1 zs).bind _) _)=_
  rw[F.sm5,Option.bind_some]
  rfl
 have e4:Dimpl_DeskOk_13 n d=frk (rt d.1.2.2.2.1&&(d.2.2.2.2.1||isz d.1.2.2.2.1)) (Dimpl_DeskOk_12 n d) (some false):=by
  rw[←stI_eq]
  unfold Dimpl_DeskOk_13
  show (Dimpl_SolidOk n d.1.2.2.2.1).bind _=_
  rw[F.iok4,Option.bind_some]
  show frk _ _ (frk _ ((Dimpl_SameTree n d.1.2.2.2.1 zs).bind _) _)=_
  rw[F.sm4,Option.bind_some]
  rfl
 have e3:Dimpl_DeskOk_14 n d=frk (rt d.1.2.2.1&&(d.2.2.2.1||isz d.1.2.2.1)) (Dimpl_DeskOk_13 n d) (some false):=by
  rw[←stI_eq]
  unfold Dimpl_DeskOk_14
  show (Dimpl_SolidOk n d.1.2.2.1).bind _=_
  rw[F.iok3,Option.bind_some]
  show frk _ _ (frk _ ((Dimpl_SameTree n d.1.2.2.1 zs).bind _) _)=_
  rw[F.sm3,Option.bind_some]
  rfl
 have e2:Dimpl_DeskOk_15 n d=frk (rt d.1.2.1&&(d.2.2.1||isz d.1.2.1)) (Dimpl_DeskOk_14 n d) (some false):=by
  rw[←stI_eq]
  unfold Dimpl_DeskOk_15
  show (Dimpl_SolidOk n d.1.2.1).bind _=_
  rw[F.iok2,Option.bind_some]
  show frk _ _ (frk _ ((Dimpl_SameTree n d.1.2.1 zs).bind _) _)=_
  rw[F.sm2,Option.bind_some]
  rfl
 have e1:Dimpl_DeskOk n d=frk (rt d.1.1&&(d.2.1||isz d.1.1)) (Dimpl_DeskOk_15 n d) (some false):=by
  rw[←stI_eq]
  unfold Dimpl_DeskOk
  show (Dimpl_SolidOk n d.1.1).bind _=_
  rw[F.iok1,Option.bind_some]
  show frk _ _ (frk _ ((Dimpl_SameTree n d.1.1 zs).bind _) _)=_
  rw[F.sm1,Option.bind_some]
  rfl
 rw[e1,e2,e3,e4,e5,e6,e7,e8]
 rfl
theorem sChain{n:Nat}{d:S8×B8}(F:DF n d):Dspec_DeskOk n d=frk (rt d.1.1&&(d.2.1||isz d.1.1)) (frk (rt d.1.2.1&&(d.2.2.1||isz d.1.2.1)) (frk (rt d.1.2.2.1&&(d.2.2.2.1||isz d.1.2.2.1)) (frk (rt d.1.2.2.2.1&&(d.2.2.2.2.1||isz d.1.2.2.2.1)) (frk (rt d.1.2.2.2.2.1&&(d.2.2.2.2.2.1||isz d.1.2.2.2.2.1)) (frk (rt d.1.2.2.2.2.2.1&&(d.2.2.2.2.2.2.1||isz d.1.2.2.2.2.2.1)) (frk (rt d.1.2.2.2.2.2.2.1&&(d.2.2.2.2.2.2.2.1||isz d.1.2.2.2.2.2.2.1)) (frk (rt d.1.2.2.2.2.2.2.2&&(d.2.2.2.2.2.2.2.2||isz d.1.2.2.2.2.2.2.2)) (some (decide ((w64 ((w64 ((w64 ((w64 ((w64 ((w64 ((w64 ((w64 (0+cnv (nod d.1.1) 301))+cnv (nod d.1.2.1) 301))+cnv (nod d.1.2.2.1) 301))+cnv (nod d.1.2.2.2.1) 301))+cnv (nod d.1.2.2.2.2.1) 301))+cnv (nod d.1.2.2.2.2.2.1) 301))+cnv (nod d.1.2.2.2.2.2.2.1) 301))+cnv (nod d.1.2.2.2.2.2.2.2) 301))≤900))) (some false)) (some false)) (some false)) (some false)) (some false)) (some false)) (some false)) (some false):=by
 have e9:Dspec_DeskOk_8 n (w64 ((w64 ((w64 ((w64 ((w64 ((w64 ((w64 (0+cnv (nod d.1.1) 301))+cnv (nod d.1.2.1) 301))+cnv (nod d.1.2.2.1) 301))+cnv (nod d.1.2.2.2.1) 301))+cnv (nod d.1.2.2.2.2.1) 301))+cnv (nod d.1.2.2.2.2.2.1) 301))+cnv (nod d.1.2.2.2.2.2.2.1) 301)) d=some (decide ((w64 ((w64 ((w64 ((w64 ((w64 ((w64 ((w64 ((w64 (0+cnv (nod d.1.1) 301))+cnv (nod d.1.2.1) 301))+cnv (nod d.1.2.2.1) 301))+cnv (nod d.1.2.2.2.1) 301))+cnv (nod d.1.2.2.2.2.1) 301))+cnv (nod d.1.2.2.2.2.2.1) 301))+cnv (nod d.1.2.2.2.2.2.2.1) 301))+cnv (nod d.1.2.2.2.2.2.2.2) 301))≤900)):=by
  unfold Dspec_DeskOk_8
  rw[F.cn8,Option.bind_some]
 have e8:Dspec_DeskOk_9 n (w64 ((w64 ((w64 ((w64 ((w64 ((w64 (0+cnv (nod d.1.1) 301))+cnv (nod d.1.2.1) 301))+cnv (nod d.1.2.2.1) 301))+cnv (nod d.1.2.2.2.1) 301))+cnv (nod d.1.2.2.2.2.1) 301))+cnv (nod d.1.2.2.2.2.2.1) 301)) d=frk (rt d.1.2.2.2.2.2.2.2&&(d.2.2.2.2.2.2.2.2||isz d.1.2.2.2.2.2.2.2)) (Dspec_DeskOk_8 n (w64 ((w64 ((w64 ((w64 ((w64 ((w64 ((w64 (0+cnv (nod d.1.1) 301))+cnv (nod d.1.2.1) 301))+cnv (nod d.1.2.2.1) 301))+cnv (nod d.1.2.2.2.1) 301))+cnv (nod d.1.2.2.2.2.1) 301))+cnv (nod d.1.2.2.2.2.2.1) 301))+cnv (nod d.1.2.2.2.2.2.2.1) 301)) d) (some false):=by
  rw[←stS_eq _ _ _ _ isz_rt]
  unfold Dspec_DeskOk_9
  rw[F.cn7,Option.bind_some]
  rw[F.sok8,none_eq]
  simp only[Option.bind_some]
  rfl
 have e7:Dspec_DeskOk_10 n (w64 ((w64 ((w64 ((w64 ((w64 (0+cnv (nod d.1.1) 301))+cnv (nod d.1.2.1) 301))+cnv (nod d.1.2.2.1) 301))+cnv (nod d.1.2.2.2.1) 301))+cnv (nod d.1.2.2.2.2.1) 301)) d=frk (rt d.1.2.2.2.2.2.2.1&&(d.2.2.2.2.2.2.2.1||isz d.1.2.2.2.2.2.2.1)) (Dspec_DeskOk_9 n (w64 ((w64 ((w64 ((w64 ((w64 ((w64 (0+cnv (nod d.1.1) 301))+cnv (nod d.1.2.1) 301))+cnv (nod d.1.2.2.1) 301))+cnv (nod d.1.2.2.2.1) 301))+cnv (nod d.1.2.2.2.2.1) 301))+cnv (nod d.1.2.2.2.2.2.1) 301)) d) (some false):=by
  rw[←stS_eq _ _ _ _ isz_rt]
  unfold Dspec_DeskOk_10
  rw[F.cn6,Option.bind_some]
  rw[F.sok7,none_eq]
  simp only[Option.bind_some]
  rfl
 have e6:Dspec_DeskOk_11 n (w64 ((w64 ((w64 ((w64 (0+cnv (nod d.1.1) 301))+cnv (nod d.1.2.1) 301))+cnv (nod d.1.2.2.1) 301))+cnv (nod d.1.2.2.2.1) 301)) d=frk (rt d.1.2.2.2.2.2.1&&(d.2.2.2.2.2.2.1||isz d.1.2.2.2.2.2.1)) (Dspec_DeskOk_10 n (w64 ((w64 ((w64 ((w64 ((w64 (0+cnv (nod d.1.1) 301))+cnv (nod d.1.2.1) 301))+cnv (nod d.1.2.2.1) 301))+cnv (nod d.1.2.2.2.1) 301))+cnv (nod d.1.2.2.2.2.1) 301)) d) (some false):=by
  rw[←stS_eq _ _ _ _ isz_rt]
  unfold Dspec_DeskOk_11
  rw[F.cn5,Option.bind_some]
  rw[F.sok6,none_eq]
  simp only[Option.bind_some]
  rfl
 have e5:Dspec_DeskOk_12 n (w64 ((w64 ((w64 (0+cnv (nod d.1.1) 301))+cnv (nod d.1.2.1) 301))+cnv (nod d.1.2.2.1) 301)) d=frk (rt d.1.2.2.2.2.1&&(d.2.2.2.2.2.1||isz d.1.2.2.2.2.1)) (Dspec_DeskOk_11 n (w64 ((w64 ((w64 ((w64 (0+cnv (nod d.1.1) 301))+cnv (nod d.1.2.1) 301))+cnv (nod d.1.2.2.1) 301))+cnv (nod d.1.2.2.2.1) 301)) d) (some false):=by
  rw[←stS_eq _ _ _ _ isz_rt]
  unfold Dspec_DeskOk_12
  rw[F.cn4,Option.bind_some]
  rw[F.sok5,none_eq]
  simp only[Option.bind_some]
  rfl
 have e4:Dspec_DeskOk_13 n (w64 ((w64 (0+cnv (nod d.1.1) 301))+cnv (nod d.1.2.1) 301)) d=frk (rt d.1.2.2.2.1&&(d.2.2.2.2.1||isz d.1.2.2.2.1)) (Dspec_DeskOk_12 n (w64 ((w64 ((w64 (0+cnv (nod d.1.1) 301))+cnv (nod d.1.2.1) 301))+cnv (nod d.1.2.2.1) 301)) d) (some false):=by
  rw[←stS_eq _ _ _ _ isz_rt]
  unfold Dspec_DeskOk_13
  rw[F.cn3,Option.bind_some]
  rw[F.sok4,none_eq]
  simp only[Option.bind_some]
  rfl
 have e3:Dspec_DeskOk_14 n (w64 (0+cnv (nod d.1.1) 301)) d=frk (rt d.1.2.2.1&&(d.2.2.2.1||isz d.1.2.2.1)) (Dspec_DeskOk_13 n (w64 ((w64 (0+cnv (nod d.1.1) 301))+cnv (nod d.1.2.1) 301)) d) (some false):=by
  rw[←stS_eq _ _ _ _ isz_rt]
  unfold Dspec_DeskOk_14
  rw[F.cn2,Option.bind_some]
  rw[F.sok3,none_eq]
  simp only[Option.bind_some]
  rfl
 have e2:Dspec_DeskOk_15 n d=frk (rt d.1.2.1&&(d.2.2.1||isz d.1.2.1)) (Dspec_DeskOk_14 n (w64 (0+cnv (nod d.1.1) 301)) d) (some false):=by
  rw[←stS_eq _ _ _ _ isz_rt]
  unfold Dspec_DeskOk_15
  rw[F.cn1,Option.bind_some]
  rw[F.sok2,none_eq]
  simp only[Option.bind_some]
  rfl
 have e1:Dspec_DeskOk n d=frk (rt d.1.1&&(d.2.1||isz d.1.1)) (Dspec_DeskOk_15 n d) (some false):=by
  rw[←stS_eq _ _ _ _ isz_rt]
  unfold Dspec_DeskOk
  rw[F.sok1,none_eq]
  simp only[Option.bind_some]
  rfl
 rw[e1,e2,e3,e4,e5,e6,e7,e8,e9]
theorem deskHeldOk{n:Nat}{d:S8×B8}(F:DF n d)(h1:Right d.1.1)(h2:Right d.1.2.1)(h3:Right d.1.2.2.1)(h4:Right d.1.2.2.2.1)(h5:Right d.1.2.2.2.2.1)(h6:Right d.1.2.2.2.2.2.1)(h7:Right d.1.2.2.2.2.2.2.1)(h8:Right d.1.2.2.2.2.2.2.2):Dimpl_Desk_held n d=some (w64 ((w64 ((w64 ((w64 ((w64 ((w64 ((w64 ((w64 (0+cnv (nod d.1.1) 301))+cnv (nod d.1.2.1) 301))+cnv (nod d.1.2.2.1) 301))+cnv (nod d.1.2.2.2.1) 301))+cnv (nod d.1.2.2.2.2.1) 301))+cnv (nod d.1.2.2.2.2.2.1) 301))+cnv (nod d.1.2.2.2.2.2.2.1) 301))+cnv (nod d.1.2.2.2.2.2.2.2) 301)):=by
 unfold Dimpl_Desk_held
 rw[F.nd1 h1,Option.bind_some,F.nd2 h2,Option.bind_some,F.nd3 h3,Option.bind_some,F.nd4 h4,Option.bind_some,F.nd5 h5,Option.bind_some,F.nd6 h6,Option.bind_some,F.nd7 h7,Option.bind_some,F.nd8 h8,Option.bind_some]
 have c1:=h1.2
 have c2:=h2.2
 have c3:=h3.2
 have c4:=h4.2
 have c5:=h5.2
 have c6:=h6.2
 have c7:=h7.2
 have c8:=h8.2
 rw[cnv_yes (t:=nod d.1.1) (left:=301) (by omega),cnv_yes (t:=nod d.1.2.1) (left:=301) (by omega),cnv_yes (t:=nod d.1.2.2.1) (left:=301) (by omega),cnv_yes (t:=nod d.1.2.2.2.1) (left:=301) (by omega),cnv_yes (t:=nod d.1.2.2.2.2.1) (left:=301) (by omega),cnv_yes (t:=nod d.1.2.2.2.2.2.1) (left:=301) (by omega),cnv_yes (t:=nod d.1.2.2.2.2.2.2.1) (left:=301) (by omega),cnv_yes (t:=nod d.1.2.2.2.2.2.2.2) (left:=301) (by omega)]
theorem good{s:Sol}{h:Bool}(g:(rt s&&(h||isz s))=true):Right s:=by
 simp only[Bool.and_eq_true] at g;exact rt_iff.1 g.1
theorem deskEq{n:Nat}{d:S8×B8}(F:DF n d):Dimpl_DeskOk n d=Dspec_DeskOk n d:=by
 rw[iChain F,sChain F]
 refine frk_congr fun g1=>frk_congr fun g2=>frk_congr fun g3=>frk_congr fun g4=>frk_congr fun g5=>frk_congr fun g6=>frk_congr fun g7=>frk_congr fun g8=>?_
 rw[deskHeldOk F (good g1) (good g2) (good g3) (good g4) (good g5) (good g6) (good g7) (good g8),Option.bind_some]
theorem deskSome{n:Nat}{d:S8×B8}(F:DF n d):∃r,Dspec_DeskOk n d=some r∧(r=true→Right d.1.1∧Right d.1.2.1∧Right d.1.2.2.1∧Right d.1.2.2.2.1∧Right d.1.2.2.2.2.1∧Right d.1.2.2.2.2.2.1∧Right d.1.2.2.2.2.2.2.1∧Right d.1.2.2.2.2.2.2.2):=by
 rw[sChain F]
 cases g1:(rt d.1.1&&(d.2.1||isz d.1.1)) with
 | false=>exact⟨false,rfl,fun h=>by cases h⟩
 | true =>
  cases g2:(rt d.1.2.1&&(d.2.2.1||isz d.1.2.1)) with
  | false=>exact⟨false,rfl,fun h=>by cases h⟩
  | true =>
   cases g3:(rt d.1.2.2.1&&(d.2.2.2.1||isz d.1.2.2.1)) with
   | false=>exact⟨false,rfl,fun h=>by cases h⟩
   | true =>
    cases g4:(rt d.1.2.2.2.1&&(d.2.2.2.2.1||isz d.1.2.2.2.1)) with
    | false=>exact⟨false,rfl,fun h=>by cases h⟩
    | true =>
     cases g5:(rt d.1.2.2.2.2.1&&(d.2.2.2.2.2.1||isz d.1.2.2.2.2.1)) with
     | false=>exact⟨false,rfl,fun h=>by cases h⟩
     | true =>
      cases g6:(rt d.1.2.2.2.2.2.1&&(d.2.2.2.2.2.2.1||isz d.1.2.2.2.2.2.1)) with
      | false=>exact⟨false,rfl,fun h=>by cases h⟩
      | true =>
       cases g7:(rt d.1.2.2.2.2.2.2.1&&(d.2.2.2.2.2.2.2.1||isz d.1.2.2.2.2.2.2.1)) with
       | false=>exact⟨false,rfl,fun h=>by cases h⟩
       | true =>
        cases g8:(rt d.1.2.2.2.2.2.2.2&&(d.2.2.2.2.2.2.2.2||isz d.1.2.2.2.2.2.2.2)) with
        | false=>exact⟨false,rfl,fun h=>by cases h⟩
        | true =>
         exact⟨_,rfl,fun _=>⟨good g1,good g2,good g3,good g4,good g5,good g6,good g7,good g8⟩⟩
structure DG(n:Nat)(d:S8×B8):Prop where
 to1:Dlaws_toSolid n d.1.1=some d.1.1
 eq1:Dlaws_eqSolid n d.1.1 d.1.1=some true
 to2:Dlaws_toSolid n d.1.2.1=some d.1.2.1
 eq2:Dlaws_eqSolid n d.1.2.1 d.1.2.1=some true
 to3:Dlaws_toSolid n d.1.2.2.1=some d.1.2.2.1
 eq3:Dlaws_eqSolid n d.1.2.2.1 d.1.2.2.1=some true
 to4:Dlaws_toSolid n d.1.2.2.2.1=some d.1.2.2.2.1
 eq4:Dlaws_eqSolid n d.1.2.2.2.1 d.1.2.2.2.1=some true
 to5:Dlaws_toSolid n d.1.2.2.2.2.1=some d.1.2.2.2.2.1
 eq5:Dlaws_eqSolid n d.1.2.2.2.2.1 d.1.2.2.2.2.1=some true
 to6:Dlaws_toSolid n d.1.2.2.2.2.2.1=some d.1.2.2.2.2.2.1
 eq6:Dlaws_eqSolid n d.1.2.2.2.2.2.1 d.1.2.2.2.2.2.1=some true
 to7:Dlaws_toSolid n d.1.2.2.2.2.2.2.1=some d.1.2.2.2.2.2.2.1
 eq7:Dlaws_eqSolid n d.1.2.2.2.2.2.2.1 d.1.2.2.2.2.2.2.1=some true
 to8:Dlaws_toSolid n d.1.2.2.2.2.2.2.2=some d.1.2.2.2.2.2.2.2
 eq8:Dlaws_eqSolid n d.1.2.2.2.2.2.2.2 d.1.2.2.2.2.2.2.2=some true
theorem DG.ev(d:S8×B8)(h1:tot d.1.1≤1048576)(h2:tot d.1.2.1≤1048576)(h3:tot d.1.2.2.1≤1048576)(h4:tot d.1.2.2.2.1≤1048576)(h5:tot d.1.2.2.2.2.1≤1048576)(h6:tot d.1.2.2.2.2.2.1≤1048576)(h7:tot d.1.2.2.2.2.2.2.1≤1048576)(h8:tot d.1.2.2.2.2.2.2.2≤1048576):Ev fun n=>DG n d:=by
 have q1:=(to _ h1).and (eqs _ h1)
 have q2:=(to _ h2).and (eqs _ h2)
 have q3:=(to _ h3).and (eqs _ h3)
 have q4:=(to _ h4).and (eqs _ h4)
 have q5:=(to _ h5).and (eqs _ h5)
 have q6:=(to _ h6).and (eqs _ h6)
 have q7:=(to _ h7).and (eqs _ h7)
 have q8:=(to _ h8).and (eqs _ h8)
 refine(q1.and (q2.and (q3.and (q4.and (q5.and (q6.and (q7.and (q8)))))))).mono fun n ⟨e1,e2,e3,e4,e5,e6,e7,e8⟩=>?_
 exact⟨e1.1,e1.2,e2.1,e2.2,e3.1,e3.2,e4.1,e4.2,e5.1,e5.2,e6.1,e6.2,e7.1,e7.2,e8.1,e8.2⟩
theorem toDesk{n:Nat}{d:S8×B8}(G:DG n d):Dlaws_toDesk n d=some d:=by
 unfold Dlaws_toDesk Dlaws_toSolidA8 Dlaws_toBoolA8
 rw[G.to1,Option.bind_some,G.to2,Option.bind_some,G.to3,Option.bind_some,G.to4,Option.bind_some,G.to5,Option.bind_some,G.to6,Option.bind_some,G.to7,Option.bind_some,G.to8,Option.bind_some]
 rfl
theorem eqDesk{n:Nat}{d:S8×B8}(G:DG n d):Dlaws_eqDesk n d d=some true:=by
 unfold Dlaws_eqDesk Dlaws_eqSolidA8 Dlaws_eqBoolA8
 simp only[G.eq1,G.eq2,G.eq3,G.eq4,G.eq5,G.eq6,G.eq7,G.eq8,Option.bind_some,Bool.not_true,frk_f,beq_self_eq_true]
end Evl.T
namespace Evl.T
open Go Evl
structure MF(n:Nat)(s:Sol):Prop where
 ma:∀k:Int,0≤k→k≤900000000→Dlaws_markSolidS n s.kids k=some (mkL s.kids k)
 hd:∀k:Int,0≤k→k≤900000000→Dlaws_heldSolid n (Sol.mk s.inn s.pl (mkL s.kids k).2) k=some (mkL s.kids k).1
 up:∀k:Int,k≤(mkL s.kids k).1∧(mkL s.kids k).1≤k+6000000
theorem MF.ev{s:Sol}(h:Lens s)(ht:tot s≤1048576):Ev fun n=>MF n s :=
 ((markAt h ht).and (heldAt h ht)).mono fun n ⟨h1,h2⟩=>⟨h1,h2,fun k=>by have:=mkL_tot (s:=s) k;omega⟩
structure DM(n:Nat)(d:Dsk):Prop where
 m1:MF n d.1.1
 m2:MF n d.1.2.1
 m3:MF n d.1.2.2.1
 m4:MF n d.1.2.2.2.1
 m5:MF n d.1.2.2.2.2.1
 m6:MF n d.1.2.2.2.2.2.1
 m7:MF n d.1.2.2.2.2.2.2.1
 m8:MF n d.1.2.2.2.2.2.2.2
def TotD (d:Dsk):Prop:=tot d.1.1≤1048576∧tot d.1.2.1≤1048576∧tot d.1.2.2.1≤1048576∧tot d.1.2.2.2.1≤1048576∧tot d.1.2.2.2.2.1≤1048576∧tot d.1.2.2.2.2.2.1≤1048576∧tot d.1.2.2.2.2.2.2.1≤1048576∧tot d.1.2.2.2.2.2.2.2≤1048576
def LenD (d:Dsk):Prop:=Lens d.1.1∧Lens d.1.2.1∧Lens d.1.2.2.1∧Lens d.1.2.2.2.1∧Lens d.1.2.2.2.2.1∧Lens d.1.2.2.2.2.2.1∧Lens d.1.2.2.2.2.2.2.1∧Lens d.1.2.2.2.2.2.2.2
theorem DM.ev{d:Dsk}(h:LenD d)(t:TotD d):Ev fun n=>DM n d:=by
 obtain⟨h1,h2,h3,h4,h5,h6,h7,h8⟩:=h
 obtain⟨t1,t2,t3,t4,t5,t6,t7,t8⟩:=t
 exact((MF.ev h1 t1).and ( (MF.ev h2 t2).and ( (MF.ev h3 t3).and ( (MF.ev h4 t4).and ( (MF.ev h5 t5).and ( (MF.ev h6 t6).and ( (MF.ev h7 t7).and (MF.ev h8 t8)))))))).mono fun n ⟨e1,e2,e3,e4,e5,e6,e7,e8⟩=>⟨e1,e2,e3,e4,e5,e6,e7,e8⟩
def dk0 (_:Dsk)(k:Int):Int:=k
def dk1 (d:Dsk)(k:Int):Int:=(mkL d.1.1.kids (dk0 d k)).1
def dk2 (d:Dsk)(k:Int):Int:=(mkL d.1.2.1.kids (dk1 d k)).1
def dk3 (d:Dsk)(k:Int):Int:=(mkL d.1.2.2.1.kids (dk2 d k)).1
def dk4 (d:Dsk)(k:Int):Int:=(mkL d.1.2.2.2.1.kids (dk3 d k)).1
def dk5 (d:Dsk)(k:Int):Int:=(mkL d.1.2.2.2.2.1.kids (dk4 d k)).1
def dk6 (d:Dsk)(k:Int):Int:=(mkL d.1.2.2.2.2.2.1.kids (dk5 d k)).1
def dk7 (d:Dsk)(k:Int):Int:=(mkL d.1.2.2.2.2.2.2.1.kids (dk6 d k)).1
def dk8 (d:Dsk)(k:Int):Int:=(mkL d.1.2.2.2.2.2.2.2.kids (dk7 d k)).1
def mkD (d:Dsk)(k:Int):Dsk:=((.mk d.1.1.inn d.1.1.pl (mkL d.1.1.kids (dk0 d k)).2,.mk d.1.2.1.inn d.1.2.1.pl (mkL d.1.2.1.kids (dk1 d k)).2,.mk d.1.2.2.1.inn d.1.2.2.1.pl (mkL d.1.2.2.1.kids (dk2 d k)).2,.mk d.1.2.2.2.1.inn d.1.2.2.2.1.pl (mkL d.1.2.2.2.1.kids (dk3 d k)).2,.mk d.1.2.2.2.2.1.inn d.1.2.2.2.2.1.pl (mkL d.1.2.2.2.2.1.kids (dk4 d k)).2,.mk d.1.2.2.2.2.2.1.inn d.1.2.2.2.2.2.1.pl (mkL d.1.2.2.2.2.2.1.kids (dk5 d k)).2,.mk d.1.2.2.2.2.2.2.1.inn d.1.2.2.2.2.2.2.1.pl (mkL d.1.2.2.2.2.2.2.1.kids (dk6 d k)).2,.mk d.1.2.2.2.2.2.2.2.inn d.1.2.2.2.2.2.2.2.pl (mkL d.1.2.2.2.2.2.2.2.kids (dk7 d k)).2),d.2)
theorem dk_le{n:Nat}{d:Dsk}(M:DM n d)(k:Int):(k≤dk0 d k∧dk0 d k≤k+0)∧(k≤dk1 d k∧dk1 d k≤k+6000000)∧(k≤dk2 d k∧dk2 d k≤k+12000000)∧(k≤dk3 d k∧dk3 d k≤k+18000000)∧(k≤dk4 d k∧dk4 d k≤k+24000000)∧(k≤dk5 d k∧dk5 d k≤k+30000000)∧(k≤dk6 d k∧dk6 d k≤k+36000000)∧(k≤dk7 d k∧dk7 d k≤k+42000000)∧(k≤dk8 d k∧dk8 d k≤k+48000000):=by
 have q0:k≤dk0 d k∧dk0 d k≤k+0:=⟨Int.le_refl _,by unfold dk0;omega⟩
 have q1:k≤dk1 d k∧dk1 d k≤k+6000000:=by have:=M.m1.up (dk0 d k);unfold dk1;omega
 have q2:k≤dk2 d k∧dk2 d k≤k+12000000:=by have:=M.m2.up (dk1 d k);unfold dk2;omega
 have q3:k≤dk3 d k∧dk3 d k≤k+18000000:=by have:=M.m3.up (dk2 d k);unfold dk3;omega
 have q4:k≤dk4 d k∧dk4 d k≤k+24000000:=by have:=M.m4.up (dk3 d k);unfold dk4;omega
 have q5:k≤dk5 d k∧dk5 d k≤k+30000000:=by have:=M.m5.up (dk4 d k);unfold dk5;omega
 have q6:k≤dk6 d k∧dk6 d k≤k+36000000:=by have:=M.m6.up (dk5 d k);unfold dk6;omega
 have q7:k≤dk7 d k∧dk7 d k≤k+42000000:=by have:=M.m7.up (dk6 d k);unfold dk7;omega
 have q8:k≤dk8 d k∧dk8 d k≤k+48000000:=by have:=M.m8.up (dk7 d k);unfold dk8;omega
 exact⟨q0,q1,q2,q3,q4,q5,q6,q7,q8⟩
theorem markDk_eq{n:Nat}{d:Dsk}(M:DM n d)(k:Int)(h0:0≤k)(h1:k≤100000000):markDk (fun l k=>Dlaws_markSolidS n l k) d k=some (dk8 d k,mkD d k):=by
 obtain⟨q0,q1,q2,q3,q4,q5,q6,q7,q8⟩:=dk_le M k
 have e1:Dlaws_markSolidS n d.1.1.kids (dk0 d k)=some (mkL d.1.1.kids (dk0 d k)):=M.m1.ma _ (by omega) (by omega)
 have e2:Dlaws_markSolidS n d.1.2.1.kids (dk1 d k)=some (mkL d.1.2.1.kids (dk1 d k)):=M.m2.ma _ (by omega) (by omega)
 have e3:Dlaws_markSolidS n d.1.2.2.1.kids (dk2 d k)=some (mkL d.1.2.2.1.kids (dk2 d k)):=M.m3.ma _ (by omega) (by omega)
 have e4:Dlaws_markSolidS n d.1.2.2.2.1.kids (dk3 d k)=some (mkL d.1.2.2.2.1.kids (dk3 d k)):=M.m4.ma _ (by omega) (by omega)
 have e5:Dlaws_markSolidS n d.1.2.2.2.2.1.kids (dk4 d k)=some (mkL d.1.2.2.2.2.1.kids (dk4 d k)):=M.m5.ma _ (by omega) (by omega)
 have e6:Dlaws_markSolidS n d.1.2.2.2.2.2.1.kids (dk5 d k)=some (mkL d.1.2.2.2.2.2.1.kids (dk5 d k)):=M.m6.ma _ (by omega) (by omega)
 have e7:Dlaws_markSolidS n d.1.2.2.2.2.2.2.1.kids (dk6 d k)=some (mkL d.1.2.2.2.2.2.2.1.kids (dk6 d k)):=M.m7.ma _ (by omega) (by omega)
 have e8:Dlaws_markSolidS n d.1.2.2.2.2.2.2.2.kids (dk7 d k)=some (mkL d.1.2.2.2.2.2.2.2.kids (dk7 d k)):=M.m8.ma _ (by omega) (by omega)
 unfold markDk
 show ((Dlaws_markSolidS n d.1.1.kids (dk0 d k)).bind _)=_
 rw[e1,Option.bind_some]
 show ((Dlaws_markSolidS n d.1.2.1.kids (dk1 d k)).bind _)=_
 rw[e2,Option.bind_some]
 show ((Dlaws_markSolidS n d.1.2.2.1.kids (dk2 d k)).bind _)=_
 rw[e3,Option.bind_some]
 show ((Dlaws_markSolidS n d.1.2.2.2.1.kids (dk3 d k)).bind _)=_
 rw[e4,Option.bind_some]
 show ((Dlaws_markSolidS n d.1.2.2.2.2.1.kids (dk4 d k)).bind _)=_
 rw[e5,Option.bind_some]
 show ((Dlaws_markSolidS n d.1.2.2.2.2.2.1.kids (dk5 d k)).bind _)=_
 rw[e6,Option.bind_some]
 show ((Dlaws_markSolidS n d.1.2.2.2.2.2.2.1.kids (dk6 d k)).bind _)=_
 rw[e7,Option.bind_some]
 show ((Dlaws_markSolidS n d.1.2.2.2.2.2.2.2.kids (dk7 d k)).bind _)=_
 rw[e8,Option.bind_some]
 rfl
theorem heldDk_eq{n:Nat}{d:Dsk}(M:DM n d)(k:Int)(h0:0≤k)(h1:k≤100000000):Dlaws_heldDesk n (mkD d k) k=some (dk8 d k):=by
 obtain⟨q0,q1,q2,q3,q4,q5,q6,q7,q8⟩:=dk_le M k
 have e1:Dlaws_heldSolid n (.mk d.1.1.inn d.1.1.pl (mkL d.1.1.kids (dk0 d k)).2) (dk0 d k)=some (dk1 d k):=M.m1.hd _ (by omega) (by omega)
 have e2:Dlaws_heldSolid n (.mk d.1.2.1.inn d.1.2.1.pl (mkL d.1.2.1.kids (dk1 d k)).2) (dk1 d k)=some (dk2 d k):=M.m2.hd _ (by omega) (by omega)
 have e3:Dlaws_heldSolid n (.mk d.1.2.2.1.inn d.1.2.2.1.pl (mkL d.1.2.2.1.kids (dk2 d k)).2) (dk2 d k)=some (dk3 d k):=M.m3.hd _ (by omega) (by omega)
 have e4:Dlaws_heldSolid n (.mk d.1.2.2.2.1.inn d.1.2.2.2.1.pl (mkL d.1.2.2.2.1.kids (dk3 d k)).2) (dk3 d k)=some (dk4 d k):=M.m4.hd _ (by omega) (by omega)
 have e5:Dlaws_heldSolid n (.mk d.1.2.2.2.2.1.inn d.1.2.2.2.2.1.pl (mkL d.1.2.2.2.2.1.kids (dk4 d k)).2) (dk4 d k)=some (dk5 d k):=M.m5.hd _ (by omega) (by omega)
 have e6:Dlaws_heldSolid n (.mk d.1.2.2.2.2.2.1.inn d.1.2.2.2.2.2.1.pl (mkL d.1.2.2.2.2.2.1.kids (dk5 d k)).2) (dk5 d k)=some (dk6 d k):=M.m6.hd _ (by omega) (by omega)
 have e7:Dlaws_heldSolid n (.mk d.1.2.2.2.2.2.2.1.inn d.1.2.2.2.2.2.2.1.pl (mkL d.1.2.2.2.2.2.2.1.kids (dk6 d k)).2) (dk6 d k)=some (dk7 d k):=M.m7.hd _ (by omega) (by omega)
 have e8:Dlaws_heldSolid n (.mk d.1.2.2.2.2.2.2.2.inn d.1.2.2.2.2.2.2.2.pl (mkL d.1.2.2.2.2.2.2.2.kids (dk7 d k)).2) (dk7 d k)=some (dk8 d k):=M.m8.hd _ (by omega) (by omega)
 have l1:decide (dk1 d k<0)=false:=decide_eq_false (by omega)
 have l2:decide (dk2 d k<0)=false:=decide_eq_false (by omega)
 have l3:decide (dk3 d k<0)=false:=decide_eq_false (by omega)
 have l4:decide (dk4 d k<0)=false:=decide_eq_false (by omega)
 have l5:decide (dk5 d k<0)=false:=decide_eq_false (by omega)
 have l6:decide (dk6 d k<0)=false:=decide_eq_false (by omega)
 have l7:decide (dk7 d k<0)=false:=decide_eq_false (by omega)
 have l8:decide (dk8 d k<0)=false:=decide_eq_false (by omega)
 have e:Dlaws_heldSolidA8 n (mkD d k).1 k=some (dk8 d k):=by
  unfold Dlaws_heldSolidA8
  show ((Dlaws_heldSolid n (.mk d.1.1.inn d.1.1.pl (mkL d.1.1.kids (dk0 d k)).2) (dk0 d k)).bind _)=_
  rw[e1,Option.bind_some,l1,frk_f]
  show ((Dlaws_heldSolid n (.mk d.1.2.1.inn d.1.2.1.pl (mkL d.1.2.1.kids (dk1 d k)).2) (dk1 d k)).bind _)=_
  rw[e2,Option.bind_some,l2,frk_f]
  show ((Dlaws_heldSolid n (.mk d.1.2.2.1.inn d.1.2.2.1.pl (mkL d.1.2.2.1.kids (dk2 d k)).2) (dk2 d k)).bind _)=_
  rw[e3,Option.bind_some,l3,frk_f]
  show ((Dlaws_heldSolid n (.mk d.1.2.2.2.1.inn d.1.2.2.2.1.pl (mkL d.1.2.2.2.1.kids (dk3 d k)).2) (dk3 d k)).bind _)=_
  rw[e4,Option.bind_some,l4,frk_f]
  show ((Dlaws_heldSolid n (.mk d.1.2.2.2.2.1.inn d.1.2.2.2.2.1.pl (mkL d.1.2.2.2.2.1.kids (dk4 d k)).2) (dk4 d k)).bind _)=_
  rw[e5,Option.bind_some,l5,frk_f]
  show ((Dlaws_heldSolid n (.mk d.1.2.2.2.2.2.1.inn d.1.2.2.2.2.2.1.pl (mkL d.1.2.2.2.2.2.1.kids (dk5 d k)).2) (dk5 d k)).bind _)=_
  rw[e6,Option.bind_some,l6,frk_f]
  show ((Dlaws_heldSolid n (.mk d.1.2.2.2.2.2.2.1.inn d.1.2.2.2.2.2.2.1.pl (mkL d.1.2.2.2.2.2.2.1.kids (dk6 d k)).2) (dk6 d k)).bind _)=_
  rw[e7,Option.bind_some,l7,frk_f]
  show ((Dlaws_heldSolid n (.mk d.1.2.2.2.2.2.2.2.inn d.1.2.2.2.2.2.2.2.pl (mkL d.1.2.2.2.2.2.2.2.kids (dk7 d k)).2) (dk7 d k)).bind _)=_
  rw[e8,Option.bind_some,l8,frk_f]
 unfold Dlaws_heldDesk
 rw[e,Option.bind_some,l8,frk_f]
theorem dk8_nn{n:Nat}{d:Dsk}(M:DM n d){k:Int}(h:0≤k):decide (dk8 d k<0)=false:=decide_eq_false (by have:=(dk_le M k).2.2.2.2.2.2.2.2;omega)
theorem dsk_eta(d:Dsk):(((d.1.1,d.1.2.1,d.1.2.2.1,d.1.2.2.2.1,d.1.2.2.2.2.1,d.1.2.2.2.2.2.1,d.1.2.2.2.2.2.2.1,d.1.2.2.2.2.2.2.2),(d.2.1,d.2.2.1,d.2.2.2.1,d.2.2.2.2.1,d.2.2.2.2.2.1,d.2.2.2.2.2.2.1,d.2.2.2.2.2.2.2.1,d.2.2.2.2.2.2.2.2)):Dsk)=d:=rfl
theorem dsk_eta2(d:Dsk):(((d.1.1,d.1.2.1,d.1.2.2.1,d.1.2.2.2.1,d.1.2.2.2.2.1,d.1.2.2.2.2.2.1,d.1.2.2.2.2.2.2.1,d.1.2.2.2.2.2.2.2),d.2):Dsk)=d:=rfl
theorem TotD.dg{d:Dsk}(t:TotD d):Ev fun n=>DG n d:=DG.ev d t.1 t.2.1 t.2.2.1 t.2.2.2.1 t.2.2.2.2.1 t.2.2.2.2.2.1 t.2.2.2.2.2.2.1 t.2.2.2.2.2.2.2
theorem sCopyD{d:Dsk}(t:TotD d):Ev fun n=>Dspec_l20Copy n d=some d:=by
 obtain⟨t1,t2,t3,t4,t5,t6,t7,t8⟩:=t
 refine((sCopyE t1).and ( (sCopyE t2).and ( (sCopyE t3).and ( (sCopyE t4).and ( (sCopyE t5).and ( (sCopyE t6).and ( (sCopyE t7).and (sCopyE t8)))))))).mono fun n ⟨e1,e2,e3,e4,e5,e6,e7,e8⟩=>?_
 unfold Dspec_l20Copy
 rw[e1,Option.bind_some,e2,Option.bind_some,e3,Option.bind_some,e4,Option.bind_some,e5,Option.bind_some,e6,Option.bind_some,e7,Option.bind_some,e8,Option.bind_some]
theorem iCopyD{d:Dsk}(t:TotD d):Ev fun n=>Dimpl_copyDesk n d=some d:=by
 obtain⟨t1,t2,t3,t4,t5,t6,t7,t8⟩:=t
 refine((iCopyE t1).and ( (iCopyE t2).and ( (iCopyE t3).and ( (iCopyE t4).and ( (iCopyE t5).and ( (iCopyE t6).and ( (iCopyE t7).and (iCopyE t8)))))))).mono fun n ⟨e1,e2,e3,e4,e5,e6,e7,e8⟩=>?_
 unfold Dimpl_copyDesk
 rw[e1,Option.bind_some,e2,Option.bind_some,e3,Option.bind_some,e4,Option.bind_some,e5,Option.bind_some,e6,Option.bind_some,e7,Option.bind_some,e8,Option.bind_some]
def isPl (i:Int):Bool:=rIn i 0 7
theorem sPlace(i:Int):Dspec_l20At i=some (isPl i):=by unfold Dspec_l20At;rw[sIn];rfl
theorem iPlace(i:Int):Dimpl_isPlace i=some (isPl i):=by unfold Dimpl_isPlace;rw[iIn];rfl
theorem isPl_cases{i:Int}(h:isPl i=true):i=0∨i=1∨i=2∨i=3∨i=4∨i=5∨i=6∨i=7:=by have:=rIn_iff.1 h;omega
def putD (d:Dsk)(i:Int)(s:Sol)(b:Bool):Dsk :=
 if i=0 then ((s,d.1.2.1,d.1.2.2.1,d.1.2.2.2.1,d.1.2.2.2.2.1,d.1.2.2.2.2.2.1,d.1.2.2.2.2.2.2.1,d.1.2.2.2.2.2.2.2),(b,d.2.2.1,d.2.2.2.1,d.2.2.2.2.1,d.2.2.2.2.2.1,d.2.2.2.2.2.2.1,d.2.2.2.2.2.2.2.1,d.2.2.2.2.2.2.2.2)) else if i=1 then ((d.1.1,s,d.1.2.2.1,d.1.2.2.2.1,d.1.2.2.2.2.1,d.1.2.2.2.2.2.1,d.1.2.2.2.2.2.2.1,d.1.2.2.2.2.2.2.2),(d.2.1,b,d.2.2.2.1,d.2.2.2.2.1,d.2.2.2.2.2.1,d.2.2.2.2.2.2.1,d.2.2.2.2.2.2.2.1,d.2.2.2.2.2.2.2.2)) else if i=2 then ((d.1.1,d.1.2.1,s,d.1.2.2.2.1,d.1.2.2.2.2.1,d.1.2.2.2.2.2.1,d.1.2.2.2.2.2.2.1,d.1.2.2.2.2.2.2.2),(d.2.1,d.2.2.1,b,d.2.2.2.2.1,d.2.2.2.2.2.1,d.2.2.2.2.2.2.1,d.2.2.2.2.2.2.2.1,d.2.2.2.2.2.2.2.2)) else if i=3 then ((d.1.1,d.1.2.1,d.1.2.2.1,s,d.1.2.2.2.2.1,d.1.2.2.2.2.2.1,d.1.2.2.2.2.2.2.1,d.1.2.2.2.2.2.2.2),(d.2.1,d.2.2.1,d.2.2.2.1,b,d.2.2.2.2.2.1,d.2.2.2.2.2.2.1,d.2.2.2.2.2.2.2.1,d.2.2.2.2.2.2.2.2)) else if i=4 then ((d.1.1,d.1.2.1,d.1.2.2.1,d.1.2.2.2.1,s,d.1.2.2.2.2.2.1,d.1.2.2.2.2.2.2.1,d.1.2.2.2.2.2.2.2),(d.2.1,d.2.2.1,d.2.2.2.1,d.2.2.2.2.1,b,d.2.2.2.2.2.2.1,d.2.2.2.2.2.2.2.1,d.2.2.2.2.2.2.2.2)) else if i=5 then ((d.1.1,d.1.2.1,d.1.2.2.1,d.1.2.2.2.1,d.1.2.2.2.2.1,s,d.1.2.2.2.2.2.2.1,d.1.2.2.2.2.2.2.2),(d.2.1,d.2.2.1,d.2.2.2.1,d.2.2.2.2.1,d.2.2.2.2.2.1,b,d.2.2.2.2.2.2.2.1,d.2.2.2.2.2.2.2.2)) else if i=6 then ((d.1.1,d.1.2.1,d.1.2.2.1,d.1.2.2.2.1,d.1.2.2.2.2.1,d.1.2.2.2.2.2.1,s,d.1.2.2.2.2.2.2.2),(d.2.1,d.2.2.1,d.2.2.2.1,d.2.2.2.2.1,d.2.2.2.2.2.1,d.2.2.2.2.2.2.1,b,d.2.2.2.2.2.2.2.2)) else if i=7 then ((d.1.1,d.1.2.1,d.1.2.2.1,d.1.2.2.2.1,d.1.2.2.2.2.1,d.1.2.2.2.2.2.1,d.1.2.2.2.2.2.2.1,s),(d.2.1,d.2.2.1,d.2.2.2.1,d.2.2.2.2.1,d.2.2.2.2.2.1,d.2.2.2.2.2.2.1,d.2.2.2.2.2.2.2.1,b)) else d
def heldAtD(d:Dsk)(i:Int):Bool:=if i=0 then d.2.1 else if i=1 then d.2.2.1 else if i=2 then d.2.2.2.1 else if i=3 then d.2.2.2.2.1 else if i=4 then d.2.2.2.2.2.1 else if i=5 then d.2.2.2.2.2.2.1 else if i=6 then d.2.2.2.2.2.2.2.1 else if i=7 then d.2.2.2.2.2.2.2.2 else false
theorem TotD.put{d:Dsk}(h:TotD d)(i:Int){s:Sol}(hs:tot s≤1048576)(b:Bool):TotD (putD d i s b):=by
 obtain⟨h1,h2,h3,h4,h5,h6,h7,h8⟩:=h
 unfold putD
 by_cases c0:i=0
 ·rw[if_pos c0];exact⟨hs,h2,h3,h4,h5,h6,h7,h8⟩
 rw[if_neg c0]
 by_cases c1:i=1
 ·rw[if_pos c1];exact⟨h1,hs,h3,h4,h5,h6,h7,h8⟩
 rw[if_neg c1]
 by_cases c2:i=2
 ·rw[if_pos c2];exact⟨h1,h2,hs,h4,h5,h6,h7,h8⟩
 rw[if_neg c2]
 by_cases c3:i=3
 ·rw[if_pos c3];exact⟨h1,h2,h3,hs,h5,h6,h7,h8⟩
 rw[if_neg c3]
 by_cases c4:i=4
 ·rw[if_pos c4];exact⟨h1,h2,h3,h4,hs,h6,h7,h8⟩
 rw[if_neg c4]
 by_cases c5:i=5
 ·rw[if_pos c5];exact⟨h1,h2,h3,h4,h5,hs,h7,h8⟩
 rw[if_neg c5]
 by_cases c6:i=6
 ·rw[if_pos c6];exact⟨h1,h2,h3,h4,h5,h6,hs,h8⟩
 rw[if_neg c6]
 by_cases c7:i=7
 ·rw[if_pos c7];exact⟨h1,h2,h3,h4,h5,h6,h7,hs⟩
 rw[if_neg c7]
 exact⟨h1,h2,h3,h4,h5,h6,h7,h8⟩
theorem LenD.put{d:Dsk}(h:LenD d)(i:Int){s:Sol}(hs:Lens s)(b:Bool):LenD (putD d i s b):=by
 obtain⟨h1,h2,h3,h4,h5,h6,h7,h8⟩:=h
 unfold putD
 by_cases c0:i=0
 ·rw[if_pos c0];exact⟨hs,h2,h3,h4,h5,h6,h7,h8⟩
 rw[if_neg c0]
 by_cases c1:i=1
 ·rw[if_pos c1];exact⟨h1,hs,h3,h4,h5,h6,h7,h8⟩
 rw[if_neg c1]
 by_cases c2:i=2
 ·rw[if_pos c2];exact⟨h1,h2,hs,h4,h5,h6,h7,h8⟩
 rw[if_neg c2]
 by_cases c3:i=3
 ·rw[if_pos c3];exact⟨h1,h2,h3,hs,h5,h6,h7,h8⟩
 rw[if_neg c3]
 by_cases c4:i=4
 ·rw[if_pos c4];exact⟨h1,h2,h3,h4,hs,h6,h7,h8⟩
 rw[if_neg c4]
 by_cases c5:i=5
 ·rw[if_pos c5];exact⟨h1,h2,h3,h4,h5,hs,h7,h8⟩
 rw[if_neg c5]
 by_cases c6:i=6
 ·rw[if_pos c6];exact⟨h1,h2,h3,h4,h5,h6,hs,h8⟩
 rw[if_neg c6]
 by_cases c7:i=7
 ·rw[if_pos c7];exact⟨h1,h2,h3,h4,h5,h6,h7,hs⟩
 rw[if_neg c7]
 exact⟨h1,h2,h3,h4,h5,h6,h7,h8⟩
end Evl.T
namespace Evl.T
open Go Evl
theorem stepSz2{f rest:Int→Option Int}{t:Nat}{Q:Int→Prop}(hA:∀left,0≤left→left≤mil→f left=some (szv t left))(hB:∀left,0≤left→left≤mil→∃v,rest left=some v∧(v<0∨Q v)) :
  ∀left,0≤left→left≤mil→∃v,((f left).bind fun v0=>frk (decide (v0<0)) (some (-1)) (rest v0))=some v∧(v<0∨(t≤1048576∧Q v)):=by
 intro left h0 h1
 unfold mil at h1
 rw[hA left h0 h1,Option.bind_some]
 by_cases hc:(t:Int)≤left
 ·rw[szv_yes hc,decide_eq_false (by omega),frk_f]
  obtain⟨v,e,h⟩:=hB (left-t) (by omega) (by unfold mil;omega)
  exact⟨v,e,h.imp id fun h=>⟨by omega,h⟩⟩
 ·rw[szv_no hc];exact⟨-1,rfl,.inl (by omega)⟩
theorem szDesk2{n:Nat}{d:Dsk}(F:DF n d):∃v,Dlaws_szDesk n d 1048576=some v∧(v<0∨(TotD d∧0≤v∧v≤mil)):=by
 have h:∃v,Dlaws_szSolidA8 n d.1 1048576=some v∧(v<0∨(tot d.1.1≤1048576∧tot d.1.2.1≤1048576∧tot d.1.2.2.1≤1048576∧tot d.1.2.2.2.1≤1048576∧tot d.1.2.2.2.2.1≤1048576∧tot d.1.2.2.2.2.2.1≤1048576∧tot d.1.2.2.2.2.2.2.1≤1048576∧tot d.1.2.2.2.2.2.2.2≤1048576∧0≤v∧v≤mil)) :=
  (stepSz2 F.sz1 (stepSz2 F.sz2 (stepSz2 F.sz3 (stepSz2 F.sz4 (stepSz2 F.sz5 (stepSz2 F.sz6 (stepSz2 F.sz7 (stepSz2 F.sz8 (fun left h0 h1=>⟨left,rfl,.inr ⟨h0,h1⟩⟩))))))))) 1048576 (by decide) (by decide)
 obtain⟨v,e,hv⟩:=h
 unfold Dlaws_szDesk
 rw[e,Option.bind_some]
 by_cases hc:v<0
 ·rw[decide_eq_true hc,frk_t];exact⟨-1,rfl,.inl (by omega)⟩
 ·rw[decide_eq_false hc,frk_f]
  exact⟨v,rfl,hv.imp id fun ⟨t1,t2,t3,t4,t5,t6,t7,t8,h0,h1⟩=>⟨⟨t1,t2,t3,t4,t5,t6,t7,t8⟩,h0,h1⟩⟩
def GD (d:Dsk):Prop:=((rt d.1.1&&(d.2.1||isz d.1.1))=true)∧((rt d.1.2.1&&(d.2.2.1||isz d.1.2.1))=true)∧((rt d.1.2.2.1&&(d.2.2.2.1||isz d.1.2.2.1))=true)∧((rt d.1.2.2.2.1&&(d.2.2.2.2.1||isz d.1.2.2.2.1))=true)∧((rt d.1.2.2.2.2.1&&(d.2.2.2.2.2.1||isz d.1.2.2.2.2.1))=true)∧((rt d.1.2.2.2.2.2.1&&(d.2.2.2.2.2.2.1||isz d.1.2.2.2.2.2.1))=true)∧((rt d.1.2.2.2.2.2.2.1&&(d.2.2.2.2.2.2.2.1||isz d.1.2.2.2.2.2.2.1))=true)∧((rt d.1.2.2.2.2.2.2.2&&(d.2.2.2.2.2.2.2.2||isz d.1.2.2.2.2.2.2.2))=true)
def hsD (d:Dsk):Int:=w64 ((w64 ((w64 ((w64 ((w64 ((w64 ((w64 ((w64 (0+cnv (nod d.1.1) 301))+cnv (nod d.1.2.1) 301))+cnv (nod d.1.2.2.1) 301))+cnv (nod d.1.2.2.2.1) 301))+cnv (nod d.1.2.2.2.2.1) 301))+cnv (nod d.1.2.2.2.2.2.1) 301))+cnv (nod d.1.2.2.2.2.2.2.1) 301))+cnv (nod d.1.2.2.2.2.2.2.2) 301)
theorem deskChain{n:Nat}{d:Dsk}(F:DF n d):Dspec_DeskOk n d=frk (rt d.1.1&&(d.2.1||isz d.1.1)) (frk (rt d.1.2.1&&(d.2.2.1||isz d.1.2.1)) (frk (rt d.1.2.2.1&&(d.2.2.2.1||isz d.1.2.2.1)) (frk (rt d.1.2.2.2.1&&(d.2.2.2.2.1||isz d.1.2.2.2.1)) (frk (rt d.1.2.2.2.2.1&&(d.2.2.2.2.2.1||isz d.1.2.2.2.2.1)) (frk (rt d.1.2.2.2.2.2.1&&(d.2.2.2.2.2.2.1||isz d.1.2.2.2.2.2.1)) (frk (rt d.1.2.2.2.2.2.2.1&&(d.2.2.2.2.2.2.2.1||isz d.1.2.2.2.2.2.2.1)) (frk (rt d.1.2.2.2.2.2.2.2&&(d.2.2.2.2.2.2.2.2||isz d.1.2.2.2.2.2.2.2)) (some (decide (hsD d≤900))) (some false)) (some false)) (some false)) (some false)) (some false)) (some false)) (some false)) (some false):=sChain F
theorem deskT{n:Nat}{d:Dsk}(F:DF n d)(h:Dspec_DeskOk n d=some true):GD d:=by
 rw[deskChain F] at h
 cases g0:(rt d.1.1&&(d.2.1||isz d.1.1)) with
 | false=>rw[g0,frk_f] at h;cases h
 | true =>
 rw[g0,frk_t] at h
 cases g1:(rt d.1.2.1&&(d.2.2.1||isz d.1.2.1)) with
 | false=>rw[g1,frk_f] at h;cases h
 | true =>
 rw[g1,frk_t] at h
 cases g2:(rt d.1.2.2.1&&(d.2.2.2.1||isz d.1.2.2.1)) with
 | false=>rw[g2,frk_f] at h;cases h
 | true =>
 rw[g2,frk_t] at h
 cases g3:(rt d.1.2.2.2.1&&(d.2.2.2.2.1||isz d.1.2.2.2.1)) with
 | false=>rw[g3,frk_f] at h;cases h
 | true =>
 rw[g3,frk_t] at h
 cases g4:(rt d.1.2.2.2.2.1&&(d.2.2.2.2.2.1||isz d.1.2.2.2.2.1)) with
 | false=>rw[g4,frk_f] at h;cases h
 | true =>
 rw[g4,frk_t] at h
 cases g5:(rt d.1.2.2.2.2.2.1&&(d.2.2.2.2.2.2.1||isz d.1.2.2.2.2.2.1)) with
 | false=>rw[g5,frk_f] at h;cases h
 | true =>
 rw[g5,frk_t] at h
 cases g6:(rt d.1.2.2.2.2.2.2.1&&(d.2.2.2.2.2.2.2.1||isz d.1.2.2.2.2.2.2.1)) with
 | false=>rw[g6,frk_f] at h;cases h
 | true =>
 rw[g6,frk_t] at h
 cases g7:(rt d.1.2.2.2.2.2.2.2&&(d.2.2.2.2.2.2.2.2||isz d.1.2.2.2.2.2.2.2)) with
 | false=>rw[g7,frk_f] at h;cases h
 | true =>
 rw[g7,frk_t] at h
 exact⟨g0,g1,g2,g3,g4,g5,g6,g7⟩
theorem GD.ok{n:Nat}{d:Dsk}(F:DF n d)(g:GD d):Dspec_DeskOk n d=some (decide (hsD d≤900))∧Dimpl_Desk_held n d=some (hsD d):=by
 obtain⟨g0,g1,g2,g3,g4,g5,g6,g7⟩:=g
 refine⟨?_,deskHeldOk F (good g0) (good g1) (good g2) (good g3) (good g4) (good g5) (good g6) (good g7)⟩
 rw[deskChain F,g0,frk_t,g1,frk_t,g2,frk_t,g3,frk_t,g4,frk_t,g5,frk_t,g6,frk_t,g7,frk_t]
theorem GD.put{d:Dsk}(h:GD d)(i:Int){s:Sol}(hs:Right s):GD (putD d i s true):=by
 obtain⟨h1,h2,h3,h4,h5,h6,h7,h8⟩:=h
 have hg:(rt s&&(true||isz s))=true:=by rw[rt_iff.2 hs];rfl
 unfold putD
 by_cases c0:i=0
 ·rw[if_pos c0];exact⟨hg,h2,h3,h4,h5,h6,h7,h8⟩
 rw[if_neg c0]
 by_cases c1:i=1
 ·rw[if_pos c1];exact⟨h1,hg,h3,h4,h5,h6,h7,h8⟩
 rw[if_neg c1]
 by_cases c2:i=2
 ·rw[if_pos c2];exact⟨h1,h2,hg,h4,h5,h6,h7,h8⟩
 rw[if_neg c2]
 by_cases c3:i=3
 ·rw[if_pos c3];exact⟨h1,h2,h3,hg,h5,h6,h7,h8⟩
 rw[if_neg c3]
 by_cases c4:i=4
 ·rw[if_pos c4];exact⟨h1,h2,h3,h4,hg,h6,h7,h8⟩
 rw[if_neg c4]
 by_cases c5:i=5
 ·rw[if_pos c5];exact⟨h1,h2,h3,h4,h5,hg,h7,h8⟩
 rw[if_neg c5]
 by_cases c6:i=6
 ·rw[if_pos c6];exact⟨h1,h2,h3,h4,h5,h6,hg,h8⟩
 rw[if_neg c6]
 by_cases c7:i=7
 ·rw[if_pos c7];exact⟨h1,h2,h3,h4,h5,h6,h7,hg⟩
 rw[if_neg c7]
 exact⟨h1,h2,h3,h4,h5,h6,h7,h8⟩
end Evl.T
namespace Evl.T
open Go Evl
def slotD(d:Dsk)(i:Int):Sol:=if i=0 then d.1.1 else if i=1 then d.1.2.1 else if i=2 then d.1.2.2.1 else if i=3 then d.1.2.2.2.1 else if i=4 then d.1.2.2.2.2.1 else if i=5 then d.1.2.2.2.2.2.1 else if i=6 then d.1.2.2.2.2.2.2.1 else d.1.2.2.2.2.2.2.2
theorem good_rt{s:Sol}{b:Bool}(h:(rt s&&b)=true):Right s:=rt_iff.1 (Bool.and_eq_true_iff.1 h).1
theorem GD.slot{d:Dsk}(g:GD d)(i:Int):Right (slotD d i):=by
 obtain⟨h0,h1,h2,h3,h4,h5,h6,h7⟩:=g
 unfold slotD
 split
 ·exact good_rt h0
 ·split
  ·exact good_rt h1
  ·split
   ·exact good_rt h2
   ·split
    ·exact good_rt h3
    ·split
     ·exact good_rt h4
     ·split
      ·exact good_rt h5
      ·split
       ·exact good_rt h6
       ·exact good_rt h7
theorem ksStep{n:Nat}{d:Dsk}{s:Sol}{i:Int}(hp:isPl i=true)(hc:Dspec_l20Copy n d=some d)(hs:Dspec_l8Copy n s=some s) :
  Dspec_l20Keeps n d i s=(Dspec_DeskOk n (putD d i s true)).bind fun v2=>frk (!v2) ((Dspec_l20Copy n d).bind fun v3=>some (v3,3)) (some (putD d i s true,0)):=by
 unfold Dspec_l20Keeps
 rw[hc,Option.bind_some,hs,Option.bind_some]
 unfold Dspec_l20Keeps_0
 rw[hc]
 obtain⟨⟨⟨i0,p0,k0⟩,⟨i1,p1,k1⟩,⟨i2,p2,k2⟩,⟨i3,p3,k3⟩,⟨i4,p4,k4⟩,⟨i5,p5,k5⟩,⟨i6,p6,k6⟩,⟨i7,p7,k7⟩⟩,b0,b1,b2,b3,b4,b5,b6,b7⟩:=d
 obtain⟨i8,p8,k8⟩:=s
 rcases isPl_cases hp with rfl | rfl | rfl | rfl | rfl | rfl | rfl | rfl <;> rfl
theorem kiStep{n:Nat}{d:Dsk}{s:Sol}{i:Int}(hp:isPl i=true)(hc:Dimpl_copyDesk n d=some d)(hs:Dimpl_copySolid n s=some s) :
  Dimpl_keep n d i s=(Dimpl_Desk_held n (putD d i s true)).bind fun v2=>frk (decide (v2>900)) ((Dimpl_copyDesk n d).bind fun v3=>some (v3,3)) (some (putD d i s true,0)):=by
 unfold Dimpl_keep
 rw[hc,Option.bind_some,hs,Option.bind_some]
 unfold Dimpl_keep_0
 rw[hc]
 obtain⟨⟨⟨i0,p0,k0⟩,⟨i1,p1,k1⟩,⟨i2,p2,k2⟩,⟨i3,p3,k3⟩,⟨i4,p4,k4⟩,⟨i5,p5,k5⟩,⟨i6,p6,k6⟩,⟨i7,p7,k7⟩⟩,b0,b1,b2,b3,b4,b5,b6,b7⟩:=d
 obtain⟨i8,p8,k8⟩:=s
 rcases isPl_cases hp with rfl | rfl | rfl | rfl | rfl | rfl | rfl | rfl <;> rfl
theorem keepEv{d:Dsk}(h:LenD d)(ht:TotD d)(g:GD d){i:Int}(hp:isPl i=true){t:Sol}(hr:Right t):∃r c,(r=d∨r=putD d i t true)∧Ev fun n=>Dspec_l20Keeps n d i t=some (r,c)∧Dimpl_keep n d i t=some (r,c):=by
 have tl:=hr.1.tw.lens
 have tt:tot t≤1048576:=by have:=hr.1.tw.tot;have:=hr.2;omega
 have g':=g.put i hr
 have E:=(sCopyD ht).and ((iCopyD ht).and ((sCopyE tt).and ((iCopyE tt).and (DF.ev (putD d i t true) (h.put i tl true)))))
 by_cases h9:hsD (putD d i t true)≤900
 ·refine⟨putD d i t true,0,.inr rfl,E.mono fun n ⟨c1,c2,k1,k2,F⟩=>?_⟩
  obtain⟨q1,q2⟩:=GD.ok F g'
  rw[ksStep hp c1 k1,kiStep hp c2 k2,q1,q2,Option.bind_some,Option.bind_some,decide_eq_true h9,decide_eq_false (by omega)]
  exact⟨rfl,rfl⟩
 ·refine⟨d,3,.inl rfl,E.mono fun n ⟨c1,c2,k1,k2,F⟩=>?_⟩
  obtain⟨q1,q2⟩:=GD.ok F g'
  rw[ksStep hp c1 k1,kiStep hp c2 k2,q1,q2,Option.bind_some,Option.bind_some,decide_eq_false h9,decide_eq_true (by omega),c1,c2]
  exact⟨rfl,rfl⟩
open Classical in
theorem deskEv{d:Dsk}(h:LenD d):∃r,(r=true→GD d)∧Ev fun n=>Dspec_DeskOk n d=some r∧Dimpl_DeskOk n d=some r:=by
 by_cases g:GD d
 ·refine⟨decide (hsD d≤900),fun _=>g,(DF.ev d h).mono fun n F=>?_⟩
  have q:=(GD.ok F g).1
  exact⟨q,by rw[deskEq F];exact q⟩
 ·refine⟨false,fun e=>absurd e (by simp),(DF.ev d h).mono fun n F=>?_⟩
  obtain⟨r,h1,-⟩:=deskSome F
  have:r=false:=by
   cases r with
   | false=>rfl
   | true=>exact absurd (deskT F h1) g
  subst this
  exact⟨h1,by rw[deskEq F];exact h1⟩
end Evl.T
namespace Evl.T
open Go Evl
set_option maxHeartbeats 1000000 in
theorem sMix1{n:Nat}{d:Dsk}{i a b op:Int}(ha:isPl a=true)(hb:isPl b=true):Dspec_Mix_1 n i a b op false d=frk (!heldAtD d a) (Dspec_Mix_2 n d) (frk (!heldAtD d b) (Dspec_Mix_2 n d) ((Dspec_Put n (slotD d a) (slotD d b) op).bind fun v=>Dspec_Mix_4 n i (!v.2) d v.1.inn v.1.pl.A v.1.pl.B v.1.pl.C v.1.pl.D v.1.kids)):=by
 rcases isPl_cases ha with rfl | rfl | rfl | rfl | rfl | rfl | rfl | rfl <;> rcases isPl_cases hb with rfl | rfl | rfl | rfl | rfl | rfl | rfl | rfl <;> rfl
set_option maxHeartbeats 1000000 in
theorem iMix1{n:Nat}{d:Dsk}{i a b op:Int}(ha:isPl a=true)(hb:isPl b=true):Dimpl_Mix_1 n i a b op false d=frk (!heldAtD d a) (Dimpl_Mix_2 n d) (frk (!heldAtD d b) (Dimpl_Mix_2 n d) ((Dimpl_put n (slotD d a) (slotD d b) op).bind fun v=>Dimpl_Mix_4 n i (!v.2) d v.1.inn v.1.pl.A v.1.pl.B v.1.pl.C v.1.pl.D v.1.kids)):=by
 rcases isPl_cases ha with rfl | rfl | rfl | rfl | rfl | rfl | rfl | rfl <;> rcases isPl_cases hb with rfl | rfl | rfl | rfl | rfl | rfl | rfl | rfl <;> rfl
theorem iOpB(x:Int):Dimpl_isOp x=some (rIn x 1 4):=by unfold Dimpl_isOp;rw[iIn];rfl
theorem mixEq{d:Dsk}(h:LenD d)(ht:TotD d)(i a b op:Int):∃r c,(r=d∨∃t,Right t∧r=putD d i t true)∧Ev fun n=>Dspec_Mix n d i a b op=some (r,c)∧Dimpl_Mix n d i a b op=some (r,c):=by
 obtain⟨rd,hrd,E1⟩:=deskEv h
 have E:=E1.and ((sCopyD ht).and (iCopyD ht))
 by_cases hok:rd=true∧isPl i=true∧isPl a=true∧isPl b=true∧rIn op 1 4=true
 ·obtain⟨rfl,hi,ha,hb,ho⟩:=hok
  have g:=hrd rfl
  have go:∀n,Dspec_DeskOk n d=some true→Dimpl_DeskOk n d=some true→Dspec_Mix n d i a b op=Dspec_Mix_1 n i a b op false d∧Dimpl_Mix n d i a b op=Dimpl_Mix_1 n i a b op false d:=by
   intro n h1 h2
   unfold Dspec_Mix Dimpl_Mix
   rw[h1,h2]
   simp only[sPlace,iPlace,sIn,iOpB,hi,ha,hb,ho,Option.bind_some,Bool.not_true,frk_f]
   exact⟨trivial,trivial⟩
  cases hha:heldAtD d a with
  | false =>
   refine⟨d,2,.inl rfl,E.mono fun n ⟨⟨h1,h2⟩,c1,c2⟩=>?_⟩
   obtain⟨q1,q2⟩:=go n h1 h2
   rw[q1,q2,sMix1 ha hb,iMix1 ha hb,hha,Bool.not_false,frk_t,frk_t]
   unfold Dspec_Mix_2 Dimpl_Mix_2
   rw[c1,c2];exact⟨rfl,rfl⟩
  | true =>
   cases hhb:heldAtD d b with
   | false =>
    refine⟨d,2,.inl rfl,E.mono fun n ⟨⟨h1,h2⟩,c1,c2⟩=>?_⟩
    obtain⟨q1,q2⟩:=go n h1 h2
    rw[q1,q2,sMix1 ha hb,iMix1 ha hb,hha,hhb,Bool.not_false,Bool.not_true,frk_f,frk_f,frk_t,frk_t]
    unfold Dspec_Mix_2 Dimpl_Mix_2
    rw[c1,c2];exact⟨rfl,rfl⟩
   | true =>
    have ra:=g.slot a
    have rb:=g.slot b
    obtain⟨z,ok,hB,hz,-,hy,hE⟩:=putEqS (slotD d a) (slotD d b) ra.1.tw.lens rb.1.tw.lens op
    obtain⟨y,sb,hy1,hy2,hy3,hy4⟩:=hy ⟨ra,rb,ho⟩
    cases ok with
    | false =>
     refine⟨d,3,.inl rfl,(E.and hE).mono fun n ⟨⟨⟨h1,h2⟩,c1,c2⟩,f1,f2⟩=>?_⟩
     obtain⟨q1,q2⟩:=go n h1 h2
     rw[q1,q2,sMix1 ha hb,iMix1 ha hb,hha,hhb,Bool.not_true,frk_f,frk_f,frk_f,frk_f,f1,f2 ⟨ra,rb,ho⟩,Option.bind_some,Option.bind_some]
     unfold Dspec_Mix_4 Dimpl_Mix_4
     rw[Bool.not_false,frk_t,frk_t,c1,c2];exact⟨rfl,rfl⟩
    | true =>
     obtain rfl:=hy3 rfl
     obtain⟨t,t1,t2,t3,t4⟩:=tidied hy1.rt
     have hrt:Right t:=⟨t1,Nat.le_trans t2 hz⟩
     obtain⟨r,c,hr,E3⟩:=keepEv h ht g hi hrt
     refine⟨r,c,hr.imp id fun e=>⟨t,hrt,e⟩,(E.and (hE.and (E3.and (t3.ev.and t4.ev)))).mono fun n ⟨⟨⟨h1,h2⟩,c1,c2⟩,⟨f1,f2⟩,⟨k1,k2⟩,f6,f7⟩=>?_⟩
     obtain⟨q1,q2⟩:=go n h1 h2
     have f6':Dspec_l12Tidy n z=some t:=f6
     have f7':Dimpl_tidy n z=some t:=f7
     rw[q1,q2,sMix1 ha hb,iMix1 ha hb,hha,hhb,Bool.not_true,frk_f,frk_f,frk_f,frk_f,f1,f2 ⟨ra,rb,ho⟩,Option.bind_some,Option.bind_some]
     unfold Dspec_Mix_4 Dimpl_Mix_4
     rw[Bool.not_true,frk_f,frk_f]
     simp only[sol_eq',f6',f7',k1,k2,Option.bind_some]
     exact⟨trivial,trivial⟩
 ·refine⟨d,1,.inl rfl,E.mono fun n ⟨⟨h1,h2⟩,c1,c2⟩=>?_⟩
  unfold Dspec_Mix Dimpl_Mix Dspec_Mix_0 Dimpl_Mix_0
  rw[h1,h2,c1,c2]
  simp only[sPlace,iPlace,sIn,iOpB,Option.bind_some]
  refine⟨?_,?_⟩
  ·cases rd with
   | false=>rfl
   | true =>
    cases hi:isPl i with
    | false=>rfl
    | true =>
     cases ha:isPl a with
     | false=>rfl
     | true =>
      cases hb:isPl b with
      | false=>rfl
      | true =>
       cases ho:rIn op 1 4 with
       | true=>exact absurd ⟨rfl,hi,ha,hb,ho⟩ hok
       | false =>
        simp only[Bool.not_true,Bool.not_false,frk_f]
        unfold Dspec_Mix_1
        rw[c1];rfl
  ·cases hi:isPl i with
   | false=>rfl
   | true =>
    cases ha:isPl a with
    | false=>rfl
    | true =>
     cases hb:isPl b with
     | false=>rfl
     | true =>
      cases ho:rIn op 1 4 with
      | false=>rfl
      | true =>
       cases rd with
       | true=>exact absurd ⟨rfl,hi,ha,hb,ho⟩ hok
       | false =>
        simp only[Bool.not_true,Bool.not_false,frk_f]
        unfold Dimpl_Mix_1
        rw[c2];rfl
theorem finMix{n:Nat}{d r:Dsk}{i a b op c v:Int}(hsz:Dlaws_szDesk n d 1048576=some v)(hv:¬v<0)(hS:Dspec_Mix n d i a b op=some (r,c))(hI:Dimpl_Mix n d i a b op=some (r,c))(G:DG n d)(Gr:DG n r)(M:DM n d)(Mr:DM n r) :
  Dlaws_FnExactMix n d.1.1.kids d.1.2.1.kids d.1.2.2.1.kids d.1.2.2.2.1.kids d.1.2.2.2.2.1.kids d.1.2.2.2.2.2.1.kids d.1.2.2.2.2.2.2.1.kids d.1.2.2.2.2.2.2.2.kids d i a b op=some true:=by
 have e1:Dlaws_toDesk n d=some d:=toDesk G
 have e2:Dlaws_eqDesk n d d=some true:=eqDesk G
 have e3:Dlaws_eqDesk n r r=some true:=eqDesk Gr
 have m1:=markDk_eq M 1 (by decide) (by decide)
 have m2:=markDk_eq Mr 1 (by decide) (by decide)
 have m3:=heldDk_eq Mr 1 (by decide) (by decide)
 have d0:decide (v<0)=false:=decide_eq_false hv
 have d1:=dk8_nn M (k:=1) (by decide)
 have d2:=dk8_nn Mr (k:=1) (by decide)
 simp only[Dlaws_FnExactMix,Dlaws_FnExactMix_0,Dlaws_FnExactMix_1,Dlaws_FnExactMix_2,Dlaws_FnExactMix_3,Dlaws_FnExactMix_4,sol_eq,sol_eq',dsk_eta,dsk_eta2,hsz,hS,hI,e1,e2,e3,m1,m2,m3,d0,d1,d2,Option.bind_some,Bool.not_true,frk_f,bne_self_eq_false]
theorem plain_Mix{G1 G2 G3 G4:Int→Prop}(d:Dsk)(h:LenD d)(i:Int)(_:G1 i)(a:Int)(_:G2 a)(b:Int)(_:G3 b)(op:Int)(_:G4 op):∃n,Dlaws_FnExactMix n d.1.1.kids d.1.2.1.kids d.1.2.2.1.kids d.1.2.2.2.1.kids d.1.2.2.2.2.1.kids d.1.2.2.2.2.2.1.kids d.1.2.2.2.2.2.2.1.kids d.1.2.2.2.2.2.2.2.kids d i a b op=some true:=by
 obtain⟨N,hF⟩:=DF.ev d h
 obtain⟨v,hv,hT⟩:=szDesk2 (hF N (Nat.le_refl N))
 by_cases hc:v<0
 ·refine⟨N,?_⟩
  have d0:decide (v<0)=true:=decide_eq_true hc
  simp only[Dlaws_FnExactMix,sol_eq,dsk_eta2,hv,d0,Option.bind_some,frk_t]
 ·obtain⟨ht,-,-⟩:=hT.resolve_left hc
  obtain⟨r,c,hr,E⟩:=mixEq h ht i a b op
  have hr':LenD r∧TotD r:=by
   rcases hr with rfl | ⟨t,hrt,rfl⟩
   ·exact⟨h,ht⟩
   ·exact⟨h.put i hrt.1.tw.lens true,ht.put i (by have:=hrt.1.tw.tot;have:=hrt.2;omega) true⟩
  obtain⟨hz,tz⟩:=hr'
  obtain⟨m,hm⟩:=(DF.ev d h).and (E.and (ht.dg.and (tz.dg.and ((DM.ev h ht).and (DM.ev hz tz)))))
  obtain⟨F,⟨hS,hI⟩,g1,g2,m1,m2⟩:=hm m (Nat.le_refl m)
  obtain⟨w,hw,-⟩:=szDesk2 F
  refine⟨m,?_⟩
  by_cases hc2:w<0
  ·have d0:decide (w<0)=true:=decide_eq_true hc2
   simp only[Dlaws_FnExactMix,sol_eq,dsk_eta2,hw,d0,Option.bind_some,frk_t]
  ·exact finMix hw hc2 hS hI g1 g2 m1 m2
end Evl.T
