
/- Texts that belong together,joined. No condition. -/
import Derived.Test.YtaaljnljnkdiaaaGreatJp
import Derived.Test.YtaaljnljnkdiaaaGreatJm
namespace Evl.T
open Go Evl
theorem wth_iff(l:List Pl)(p:Pl):wth l p=true↔∃i,i<l.length∧(cl2 (gt l i) p=true∨∃j,i<j∧j<l.length∧(cl3 (gt l i) (gt l j) p=true∨∃k,j<k∧k<l.length∧cl4 (gt l i) (gt l j) (gt l k) p=true)):=by
 unfold wth sAny3 sAny4
 simp only[List.any_eq_true,List.mem_range'_1,Bool.or_eq_true]
 constructor
 ·rintro⟨i,hi,h | ⟨j,hj,h | ⟨k,hk,h⟩⟩⟩
  ·exact⟨i,by omega,.inl h⟩
  ·exact⟨i,by omega,.inr ⟨j,by omega,by omega,.inl h⟩⟩
  ·exact⟨i,by omega,.inr ⟨j,by omega,by omega,.inr ⟨k,by omega,by omega,h⟩⟩⟩
 ·rintro⟨i,hi,h | ⟨j,hj,hj2,h | ⟨k,hk,hk2,h⟩⟩⟩
  ·exact⟨i,by omega,.inl h⟩
  ·exact⟨i,by omega,.inr ⟨j,by omega,.inl h⟩⟩
  ·exact⟨i,by omega,.inr ⟨j,by omega,.inr ⟨k,by omega,h⟩⟩⟩
theorem wth_less{l1 l2:List Pl}{x p:Pl}(h:wth (l1++x::l2) p=false):wth (l1++l2) p=false:=by
 have key:¬wth (l1++x::l2) p=true:=by simp[h]
 rw[←Bool.not_eq_true]
 intro h2
 apply key
 rw[wth_iff] at h2 ⊢
 let f:Nat→Nat:=fun i=>if i<l1.length then i else i+1
 have fd:∀i,f i=if i<l1.length then i else i+1:=fun _=>rfl
 have f1:∀i j,i<j→f i<f j:=fun i j hij=>by
  rw[fd,fd]
  split <;> split <;> omega
 have f2:∀i,i<(l1++l2).length→f i<(l1++x::l2).length:=fun i hi=>by
  simp only[List.length_append,List.length_cons] at hi ⊢
  rw[fd]
  split <;> omega
 have f3:∀i,gt (l1++x::l2) (f i)=gt (l1++l2) i:=fun i=>by
  unfold gt
  show (((l1++x::l2)[if i<l1.length then i else i+1]?).getD _)=_
  split
  ·rename_i hi;rw[List.getElem?_append_left hi,List.getElem?_append_left hi]
  ·rename_i hi
   rw[List.getElem?_append_right (by omega),List.getElem?_append_right (by omega),show i+1-l1.length=(i-l1.length)+1 by omega,List.getElem?_cons_succ]
 obtain⟨i,hi,h | ⟨j,hj,hj2,h | ⟨k,hk,hk2,h⟩⟩⟩:=h2
 ·exact⟨f i,f2 i hi,.inl (by rw[f3];exact h)⟩
 ·exact⟨f i,f2 i hi,.inr ⟨f j,f1 _ _ hj,f2 j hj2,.inl (by rw[f3,f3];exact h)⟩⟩
 ·exact⟨f i,f2 i hi,.inr ⟨f j,f1 _ _ hj,f2 j hj2,.inr ⟨f k,f1 _ _ hk,f2 k hk2,by rw[f3,f3,f3];exact h⟩⟩⟩
theorem Rt.less{s:Sol}{path:List Pl}(h:Rt s path):∀(l1 l2:List Pl) (x:Pl),path=l1++x::l2→Rt s (l1++l2):=by
 induction h with
 | leaf hz=>intro _ _ _ _;exact .leaf hz
 | @node p a b path h1 h2 h3 h4 _ _ iha ihb =>
  intro l1 l2 x e
  subst e
  refine .node h1 (by simp at h2 ⊢;omega) (wth_less h3) (wth_less h4) ?_ ?_
  ·have:=iha l1 (l2++[p]) x (by simp)
   simpa using this
  ·have:=ihb l1 (l2++[flp p]) x (by simp)
   simpa using this
theorem Rt.lens{s:Sol}{path:List Pl}(h:Rt s path):Lens s:=by
 induction h with
 | leaf hz=>exact .mk (by simp[big]) (by simp)
 | node _ _ _ _ _ _ iha ihb =>
  refine .mk (by simp[big]) fun x hx=>?_
  simp only[List.mem_cons,List.not_mem_nil,or_false] at hx
  rcases hx with rfl | rfl
  ·exact iha
  ·exact ihb
end Evl.T
namespace Evl.T
open Go Evl
def plEq (p q:Pl):Bool:=p.A==q.A&&(p.B==q.B&&(p.C==q.C&&(p.D==q.D&&true)))
theorem plEq_iff(p q:Pl):plEq p q=true↔p=q:=by
 cases p;cases q;simp[plEq]
theorem plEq_no{p q:Pl}(h:p≠q):plEq p q=false:=by
 rw[←Bool.not_eq_true,plEq_iff];exact h
theorem iSameStep(n:Nat)(self:Sol×Sol→Option Bool)(i j:Bool)(p q:Pl)(k l:List Sol):Dimpl_SameTree_b n self (.mk i p k,.mk j q l) =
  frk (i==j) (frk (plEq p q) ((frk ((k.length:Int) != (l.length:Int)) (some false) (loopN (Dslices_EqualFuncfimpl_SameTree_in_0 n self l k (k.length:Int)) n 0)).bind fun v0=>some v0) (some false)) (some false):=rfl
open Classical in
theorem kidsLoop(self:Sol×Sol→Option Bool)(F:(Int→Option Bool)→Int→Option Bool)(k l:List Sol)(hl:k.length≤big)(hkl:k.length=l.length)(hs:∀x∈k,∀y,self (x,y)=some (decide (x=y)))
  (hF:∀rec (t:Int),F rec t=frk (decide (t<(k.length:Int))) ((lget k t).bind fun v0=>(lget l t).bind fun v1=>(self (v0,v1)).bind fun v2=>frk (!v2) (some false) (rec (w64 (t+1)))) (some true)) (n:Nat) (hn:k.length<n) :
  loopN F n 0=some (decide (k=l)):=by
 have:=search (F:=F) (len:=k.length) (b:=fun t=>decide (k[t]?≠l[t]?)) (hit:=some false) (miss:=some true) hl ?_ ?_ k.length 0 n (by omega) hn
 ·rw[show (0:Int)=((0:Nat):Int) from rfl,this]
  by_cases h:k=l
  ·subst h
   have:(List.range' 0 k.length).any (fun t=>decide (k[t]?≠k[t]?))=false:=by simp
   rw[this];simp
  ·have:(List.range' 0 k.length).any (fun t=>decide (k[t]?≠l[t]?))=true:=by
    rw[List.any_eq_true]
    apply Classical.byContradiction
    intro hno
    apply h
    apply List.ext_getElem?
    intro t
    rcases Nat.lt_or_ge t k.length with ht | ht
    ·apply Classical.byContradiction
     intro hne
     exact hno ⟨t,by simp;omega,by simpa using hne⟩
    ·rw[List.getElem?_eq_none ht,List.getElem?_eq_none (by omega)]
   rw[this];simp[h]
 ·intro rec t ht
  obtain⟨x,hx⟩:∃x,k[t]?=some x:=⟨k[t],List.getElem?_eq_getElem ht⟩
  obtain⟨y,hy⟩:∃y,l[t]?=some y:=⟨l[t]'(by omega),List.getElem?_eq_getElem (by omega)⟩
  rw[hF,lt_dec ht,frk_t,lget_nat,lget_nat,hx,hy,Option.bind_some,Option.bind_some,hs x (List.mem_of_getElem? hx) y,Option.bind_some]
  by_cases h:x=y
  ·subst h;simp[frk_f]
  ·simp[h,frk_t]
 ·intro rec
  rw[hF,lt_self,frk_f]
open Classical in
theorem iSame:∀a,Lens a→E2 fun n m=>∀b,loopN (Dimpl_SameTree_b n) m (a,b)=some (decide (a=b)):=by
 refine sol_ind fun i p k ih hl=>?_
 cases hl with
 | mk hk hx =>
  have h1:=E2.all fun x hxm=>ih x hxm (hx x hxm)
  have h2:E2 fun n _=>k.length<n:=⟨k.length+1,fun n hn _ _=>by omega⟩
  refine E2.suc ((h1.and h2).mono fun n m ⟨h1,h2⟩ b=>?_)
  obtain⟨j,q,l⟩:=b
  rw[loop_suc,iSameStep]
  by_cases e1:i=j
  ·subst e1
   rw[beq_self_eq_true,frk_t]
   by_cases e2:p=q
   ·subst e2
    rw[(plEq_iff p p).2 rfl,frk_t]
    by_cases e3:k.length=l.length
    ·rw[show ((k.length:Int) != (l.length:Int))=false by simp[e3],frk_f,kidsLoop _ (Dslices_EqualFuncfimpl_SameTree_in_0 n (loopN (Dimpl_SameTree_b n) m) l k (k.length:Int)) k l hk e3 h1 (fun _ _=>rfl) n h2]
     simp
    ·rw[show ((k.length:Int) != (l.length:Int))=true by simp;omega,frk_t]
     have:k≠l:=fun e=>e3 (by rw[e])
     simp[this]
   ·rw[plEq_no e2,frk_f];simp[e2]
  ·rw[show (i==j)=false by simp[e1],frk_f];simp[e1]
end Evl.T
namespace Evl.T
open Go Evl
def sm (f:Pl→Int):List (Int×Pl)→Int
 | []=>0
 | x::r=>x.1*f x.2+sm f r
theorem sm_cons(f:Pl→Int)(x:Int×Pl)(r:List (Int×Pl)):sm f (x::r)=x.1*f x.2+sm f r:=rfl
theorem sm_nil(f:Pl→Int):sm f []=0:=rfl
structure Cert(c:List (Int×Pl)):Prop where
 pos:∀x∈c,0<x.1
 a:sm Pl.A c=0
 b:sm Pl.B c=0
 cc:sm Pl.C c=0
 d:sm Pl.D c≤0
 ne:c≠[]
def tw (t:List (Int×Int×Pl)):List (Int×Pl):=t.map fun x=>(x.1,x.2.2)
def tv (t:List (Int×Int×Pl)):List (Int×Pl):=t.map fun x=>(x.2.1,x.2.2)
def tm (a b:Int)(t:List (Int×Int×Pl)):List (Int×Pl):=t.map fun x=>(a*x.1+b*x.2.1,x.2.2)
theorem sm_tm(f:Pl→Int)(a b:Int)(t:List (Int×Int×Pl)):sm f (tm a b t)=a*sm f (tw t)+b*sm f (tv t):=by
 induction t with
 | nil=>simp[tm,tw,tv,sm]
 | cons x r ih =>
  simp only[tm,tw,tv,List.map_cons,sm_cons] at ih ⊢
  rw[ih];grind
def pst (c:List (Int×Pl)):List (Int×Pl):=c.filter fun x=>decide (0<x.1)
theorem sm_pst(f:Pl→Int)(c:List (Int×Pl))(h:∀x∈c,0≤x.1):sm f (pst c)=sm f c:=by
 induction c with
 | nil=>rfl
 | cons x r ih =>
  have ih:=ih fun y hy=>h y (List.mem_cons_of_mem _ hy)
  have hx:=h x List.mem_cons_self
  unfold pst at ih ⊢
  by_cases hp:0<x.1
  ·rw[List.filter_cons_of_pos (by simpa using hp),sm_cons,sm_cons,ih]
  ·rw[List.filter_cons_of_neg (by simpa using hp),sm_cons,ih,show x.1=0 by omega];omega
theorem pst_pos{c:List (Int×Pl)}{x:Int×Pl}(h:x∈pst c):0<x.1:=by
 unfold pst at h;simpa using (List.mem_filter.1 h).2
theorem pst_sub(c:List (Int×Pl)):(pst c).Sublist c:=List.filter_sublist
theorem pst_lt{c:List (Int×Pl)}{x:Int×Pl}(h:x∈c)(h0:x.1=0):(pst c).length<c.length:=by
 rcases Nat.lt_or_ge (pst c).length c.length with h1 | h1
 ·exact h1
 ·have e:=(pst_sub c).eq_of_length_le h1
  rw[←e] at h;have:=pst_pos h;omega
theorem mul_can{a b c:Int}(h:a*c≤b*c)(hc:0<c):a≤b:=Int.le_of_mul_le_mul_right h hc
theorem most(t:List (Int×Int×Pl))(h:∀x∈t,0<x.1)(hn:t≠[]):∃m∈t,∀x∈t,x.2.1*m.1≤m.2.1*x.1:=by
 induction t with
 | nil=>exact absurd rfl hn
 | cons x r ih =>
  have hx:=h x List.mem_cons_self
  by_cases hr:r=[]
  ·subst hr
   exact⟨x,List.mem_cons_self,fun y hy=>by rw[List.mem_singleton.1 hy];exact Int.le_refl _⟩
  ·obtain⟨m,hm,h1⟩:=ih (fun y hy=>h y (List.mem_cons_of_mem _ hy)) hr
   have hmp:=h m (List.mem_cons_of_mem _ hm)
   by_cases hc:x.2.1*m.1≤m.2.1*x.1
   ·refine⟨m,List.mem_cons_of_mem _ hm,fun y hy=>?_⟩
    rcases List.mem_cons.1 hy with rfl | hy
    ·exact hc
    ·exact h1 y hy
   ·refine⟨x,List.mem_cons_self,fun y hy=>?_⟩
    rcases List.mem_cons.1 hy with rfl | hy
    ·exact Int.le_refl _
    ·have hyp:=h y (List.mem_cons_of_mem _ hy)
     have h2:=h1 y hy
     refine mul_can (c:=m.1) ?_ hmp
     have h3:y.2.1*m.1*x.1≤m.2.1*y.1*x.1:=Int.mul_le_mul_of_nonneg_right h2 (by omega)
     have h4:m.2.1*x.1*y.1≤x.2.1*m.1*y.1:=Int.mul_le_mul_of_nonneg_right (by omega) (by omega)
     have e1:y.2.1*x.1*m.1=y.2.1*m.1*x.1:=by grind
     have e2:m.2.1*y.1*x.1=m.2.1*x.1*y.1:=by grind
     have e3:x.2.1*y.1*m.1=x.2.1*m.1*y.1:=by grind
     omega
theorem least(t:List (Int×Int×Pl))(h:∀x∈t,0<x.1)(hn:t≠[]):∃m∈t,∀x∈t,m.2.1*x.1≤x.2.1*m.1:=by
 obtain⟨m,hm,h1⟩:=most (t.map fun x=>(x.1,-x.2.1,x.2.2)) (fun x hx=>by
  obtain⟨y,hy,rfl⟩:=List.mem_map.1 hx;exact h y hy) (by simpa using hn)
 obtain⟨k,hk,rfl⟩:=List.mem_map.1 hm
 refine⟨k,hk,fun x hx=>?_⟩
 have:=h1 _ (List.mem_map.2 ⟨x,hx,rfl⟩)
 simp only[Int.neg_mul] at this
 omega
theorem snd_tm(a b:Int)(t:List (Int×Int×Pl)):(tm a b t).map (·.2)=t.map (·.2.2):=by simp[tm]
theorem red(t:List (Int×Int×Pl))(hc:Cert (tw t))(ha:sm Pl.A (tv t)=0)(hb:sm Pl.B (tv t)=0)(hcc:sm Pl.C (tv t)=0)
  (hne:∃x∈t,∃y∈t,x.1*y.2.1≠y.1*x.2.1):∃c,Cert c∧c.length<t.length∧(c.map (·.2)).Sublist (t.map (·.2.2)):=by
 have hp:∀x∈t,0<x.1:=fun x hx=>hc.pos _ (List.mem_map.2 ⟨x,hx,rfl⟩)
 obtain⟨x,hx,y,hy,hxy⟩:=hne
 have hn:t≠[]:=fun h=>by rw[h] at hx;cases hx
 obtain⟨m,hm,h1⟩:=most t hp hn
 obtain⟨k,hk,h2⟩:=least t hp hn
 have hmp:=hp m hm;have hkp:=hp k hk
 have hlt:k.2.1*m.1<m.2.1*k.1:=by
  rcases Int.lt_or_le (k.2.1*m.1) (m.2.1*k.1) with h | h
  ·exact h
  ·exfalso
   have same:∀z∈t,z.2.1*m.1=m.2.1*z.1:=fun z hz=>by
    have a1:=h1 z hz;have a2:=h2 z hz
    have hzp:=hp z hz
    have b1:m.2.1*k.1*z.1≤k.2.1*m.1*z.1:=Int.mul_le_mul_of_nonneg_right h (by omega)
    have b2:k.2.1*z.1*m.1≤z.2.1*k.1*m.1:=Int.mul_le_mul_of_nonneg_right a2 (by omega)
    have b3:m.2.1*z.1≤z.2.1*m.1:=mul_can (c:=k.1) (by
     have e1:m.2.1*z.1*k.1=m.2.1*k.1*z.1:=by grind
     have e2:k.2.1*m.1*z.1=k.2.1*z.1*m.1:=by grind
     have e3:z.2.1*m.1*k.1=z.2.1*k.1*m.1:=by grind
     omega) hkp
    omega
   have s1:=same x hx;have s2:=same y hy
   apply hxy
   have:(x.1*y.2.1)*m.1=(y.1*x.2.1)*m.1:=by grind
   exact Int.eq_of_mul_eq_mul_right (by omega) this
 have main:∀(a b:Int),(∀z∈t,0≤a*z.1+b*z.2.1)→(∃z∈t,0<a*z.1+b*z.2.1)→(∃z∈t,a*z.1+b*z.2.1=0)→a*sm Pl.D (tw t)+b*sm Pl.D (tv t)≤0 →
   ∃c,Cert c∧c.length<t.length∧(c.map (·.2)).Sublist (t.map (·.2.2)):=by
  intro a b q1 q2 q3 q4
  have hge:∀z∈tm a b t,0≤z.1:=fun z hz=>by obtain⟨w,hw,rfl⟩:=List.mem_map.1 hz;exact q1 w hw
  refine⟨pst (tm a b t),⟨fun z hz=>pst_pos hz,?_,?_,?_,?_,?_⟩,?_,?_⟩
  ·rw[sm_pst _ _ hge,sm_tm,hc.a,ha];simp
  ·rw[sm_pst _ _ hge,sm_tm,hc.b,hb];simp
  ·rw[sm_pst _ _ hge,sm_tm,hc.cc,hcc];simp
  ·rw[sm_pst _ _ hge,sm_tm];exact q4
  ·obtain⟨z,hz,h0⟩:=q2
   intro h
   have:(a*z.1+b*z.2.1,z.2.2)∈pst (tm a b t):=List.mem_filter.2 ⟨List.mem_map.2 ⟨z,hz,rfl⟩,by simpa using h0⟩
   rw[h] at this;cases this
  ·obtain⟨z,hz,h0⟩:=q3
   have:=pst_lt (c:=tm a b t) (x:=(a*z.1+b*z.2.1,z.2.2)) (List.mem_map.2 ⟨z,hz,rfl⟩) h0
   rwa [show (tm a b t).length=t.length by simp[tm]] at this
  ·rw[←snd_tm a b t];exact(pst_sub _).map _
 have hD:=hc.d
 by_cases hs:m.2.1*sm Pl.D (tw t)+(-m.1)*sm Pl.D (tv t)≤0
 ·refine main m.2.1 (-m.1) (fun z hz=>?_) ⟨k,hk,?_⟩ ⟨m,hm,?_⟩ hs
  ·have:=h1 z hz;rw[Int.neg_mul,Int.mul_comm m.1];omega
  ·rw[Int.neg_mul,Int.mul_comm m.1];omega
  ·grind
 ·refine main (-k.2.1) k.1 (fun z hz=>?_) ⟨m,hm,?_⟩ ⟨k,hk,?_⟩ ?_
  ·have:=h2 z hz;rw[Int.neg_mul,Int.mul_comm k.1];omega
  ·rw[Int.neg_mul,Int.mul_comm k.1];omega
  ·grind
  ·have q1:0<(m.2.1*sm Pl.D (tw t)+(-m.1)*sm Pl.D (tv t))*k.1:=Int.mul_pos (by omega) hkp
   have q2:(m.2.1*k.1-k.2.1*m.1)*sm Pl.D (tw t)≤0:=Int.mul_nonpos_of_nonneg_of_nonpos (by omega) hD
   refine mul_can (c:=m.1) ?_ hmp
   have e:((-k.2.1)*sm Pl.D (tw t)+k.1*sm Pl.D (tv t))*m.1=(m.2.1*k.1-k.2.1*m.1)*sm Pl.D (tw t)-(m.2.1*sm Pl.D (tw t)+(-m.1)*sm Pl.D (tv t))*k.1:=by grind
   rw[e];omega
theorem sub_get{x:Pl}{r:List Pl}:∀{l:List Pl},(x::r).Sublist l→∃j,j<l.length∧gt l j=x∧r.Sublist (l.drop (j+1)):=by
 intro l
 induction l with
 | nil=>intro h;cases h
 | cons y l ih =>
  intro h
  cases h with
  | cons _ h =>
   obtain⟨j,h1,h2,h3⟩:=ih h
   exact⟨j+1,by simp only[List.length_cons];omega,h2,h3⟩
  | cons_cons _ h=>exact⟨0,by simp,rfl,h⟩
theorem gt_drop(l:List Pl)(i j:Nat):gt (l.drop i) j=gt l (i+j):=by unfold gt;rw[List.getElem?_drop]
theorem get_sub{l:List Pl}{i:Nat}{r:List Pl}(h:i<l.length)(hr:r.Sublist (l.drop (i+1))):(gt l i::r).Sublist (l.drop i):=by
 rw[List.drop_eq_getElem_cons h,show gt l i=l[i] by unfold gt;rw[List.getElem?_eq_getElem h];rfl]
 exact hr.cons_cons _
theorem drop_up{l r:List Pl}{i j:Nat}(h:i≤j)(hr:r.Sublist (l.drop j)):r.Sublist (l.drop i):=by
 have e:l.drop j=(l.drop i).drop (j-i):=by rw[List.drop_drop];congr 1;omega
 rw[e] at hr
 exact hr.trans (List.drop_sublist _ _)
theorem drop_any{l r:List Pl}{j:Nat}(hr:r.Sublist (l.drop j)):r.Sublist l:=drop_up (Nat.zero_le j) hr
theorem wth_sub(l:List Pl)(p:Pl):wth l p=true↔(∃q,[q].Sublist l∧cl2 q p=true)∨(∃q r,[q,r].Sublist l∧cl3 q r p=true)∨(∃q r s,[q,r,s].Sublist l∧cl4 q r s p=true):=by
 rw[wth_iff]
 constructor
 ·rintro⟨i,hi,h | ⟨j,hj,hj2,h | ⟨k,hk,hk2,h⟩⟩⟩
  ·exact .inl ⟨_,drop_any (get_sub hi (List.nil_sublist _)),h⟩
  ·exact .inr (.inl ⟨_,_,drop_any (get_sub hi (drop_up (j:=j) hj (get_sub hj2 (List.nil_sublist _)))),h⟩)
  ·exact .inr (.inr ⟨_,_,_,drop_any (get_sub hi (drop_up (j:=j) hj (get_sub hj2 (drop_up (j:=k) hk (get_sub hk2 (List.nil_sublist _)))))),h⟩)
 ·rintro(⟨q,h1,h⟩ | ⟨q,r,h1,h⟩ | ⟨q,r,s,h1,h⟩)
  ·obtain⟨i,hi,rfl,_⟩:=sub_get h1
   exact⟨i,hi,.inl h⟩
  ·obtain⟨i,hi,rfl,h2⟩:=sub_get h1
   obtain⟨j,hj,rfl,_⟩:=sub_get h2
   rw[gt_drop] at h;rw[List.length_drop] at hj
   exact⟨i,hi,.inr ⟨i+1+j,by omega,by omega,.inl h⟩⟩
  ·obtain⟨i,hi,rfl,h2⟩:=sub_get h1
   obtain⟨j,hj,rfl,h3⟩:=sub_get h2
   obtain⟨k,hk,rfl,_⟩:=sub_get h3
   rw[gt_drop,gt_drop,gt_drop] at h;rw[List.length_drop] at hj hk;rw[List.length_drop] at hk
   exact⟨i,hi,.inr ⟨i+1+j,by omega,by omega,.inr ⟨i+1+(j+1+k),by omega,by omega,h⟩⟩⟩
inductive Opn:List Pl→Prop
 | nil:Opn []
 | snoc {l p}:Opn l→wth l p=false→Opn (l++[p])
theorem sub_snoc{r l:List Pl}{p q:Pl}(h:(r++[p]).Sublist (l++[q])):(r++[p]).Sublist l∨(p=q∧r.Sublist l):=by
 have h:=h.reverse
 rw[List.reverse_append,List.reverse_append] at h
 simp only[List.reverse_singleton,List.singleton_append] at h
 cases h with
 | cons _ h=>left;have:=h.reverse;simpa using this
 | cons_cons _ h=>right;exact⟨rfl,by have:=h.reverse;simpa using this⟩
theorem Opn.last{l:List Pl}(h:Opn l){r:List Pl}{p:Pl}(hs:(r++[p]).Sublist l):∃l',r.Sublist l'∧wth l' p=false:=by
 induction h with
 | nil=>have:=hs.length_le;simp at this
 | @snoc l q _ hw ih =>
  rcases sub_snoc hs with h | ⟨rfl,h⟩
  ·exact ih h
  ·exact⟨l,h,hw⟩
def Nz (p:Pl):Prop:=p.A≠0∨p.B≠0∨p.C≠0
theorem pOk_Nz{p:Pl}(h:pOk p=true):Nz p:=by
 unfold pOk at h;simp only[Bool.and_eq_true,decide_eq_true_eq] at h;exact h.2.2.2.2.1
theorem cr_dep(p q:Pl):cr0 p q=0∧cr1 p q=0∧cr2 p q=0→Nz p→Nz q→∃x y,x≠0∧y≠0∧x*p.A+y*q.A=0∧x*p.B+y*q.B=0∧x*p.C+y*q.C=0:=by
 obtain⟨a,b,c,d⟩:=p;obtain⟨e,f,g,i⟩:=q
 unfold Nz cr0 cr1 cr2
 simp only
 rintro⟨h0,h1,h2⟩ hp hq
 have z:∀x y:Int,x≠0→x*y=0→y=0:=fun x y hx h=>(Int.mul_eq_zero.1 h).resolve_left hx
 by_cases ha:a=0
 ·by_cases hb:b=0
  ·have hc:c≠0:=by rcases hp with h | h | h <;> first | exact absurd ha h | exact absurd hb h | exact h
   refine⟨g,-c,?_,by omega,?_,?_,?_⟩
   ·rintro rfl
    have:=z c e hc (by grind);have:=z c f hc (by grind)
    rcases hq with h | h | h <;> omega
   ·grind
   ·grind
   ·grind
  ·refine⟨f,-b,?_,by omega,?_,?_,?_⟩
   ·rintro rfl
    have:=z b e hb (by grind);have:=z b g hb (by grind)
    rcases hq with h | h | h <;> omega
   ·grind
   ·grind
   ·grind
 ·refine⟨e,-a,?_,by omega,?_,?_,?_⟩
  ·rintro rfl
   have:=z a f ha (by grind);have:=z a g ha (by grind)
   rcases hq with h | h | h <;> omega
  ·grind
  ·grind
  ·grind
end Evl.T
namespace Evl.T
open Go Evl
theorem sm_app(f:Pl→Int)(a b:List (Int×Pl)):sm f (a++b)=sm f a+sm f b:=by
 induction a with
 | nil=>simp[sm]
 | cons x r ih=>simp only[List.cons_append,sm_cons,ih];omega
theorem sm_zero(f:Pl→Int)(b:List (Int×Pl)):sm f (b.map fun x=>((0:Int),x.2))=0:=by
 induction b with
 | nil=>rfl
 | cons x r ih=>simp only[List.map_cons,sm_cons,ih];omega
theorem red2(pre:List (Int×Int×Pl))(rest:List (Int×Pl))(hc:Cert (tw pre++rest))(ha:sm Pl.A (tv pre)=0)(hb:sm Pl.B (tv pre)=0)(hcc:sm Pl.C (tv pre)=0)
  (hne:(∃x∈pre,∃y∈pre,x.1*y.2.1≠y.1*x.2.1)∨(rest≠[]∧∃x∈pre,x.2.1≠0)) :
  ∃c,Cert c∧c.length<(tw pre++rest).length∧(c.map (·.2)).Sublist ((tw pre++rest).map (·.2)):=by
 let t:=pre++rest.map fun x=>(x.1,(0:Int),x.2)
 have e1:tw t=tw pre++rest:=by simp[t,tw,Function.comp_def]
 have e2:∀f,sm f (tv t)=sm f (tv pre):=fun f=>by
  have:tv t=tv pre++rest.map fun x=>((0:Int),x.2):=by simp[t,tv,Function.comp_def]
  rw[this,sm_app,sm_zero];omega
 have e3:t.map (·.2.2)=(tw pre++rest).map (·.2):=by simp[t,tw,Function.comp_def]
 have e4:t.length=(tw pre++rest).length:=by simp[t,tw]
 obtain⟨c,h1,h2,h3⟩:=red t (by rw[e1];exact hc) (by rw[e2];exact ha) (by rw[e2];exact hb) (by rw[e2];exact hcc) (by
  rcases hne with ⟨x,hx,y,hy,h⟩ | ⟨hr,x,hx,h⟩
  ·exact⟨x,List.mem_append_left _ hx,y,List.mem_append_left _ hy,h⟩
  ·obtain⟨y,r,rfl⟩:=List.exists_cons_of_ne_nil hr
   refine⟨x,List.mem_append_left _ hx,(y.1,0,y.2),List.mem_append_right _ (by simp),?_⟩
   have hy:0<y.1:=hc.pos y (List.mem_append_right _ (by simp))
   intro h0
   simp only[Int.mul_zero] at h0
   rcases Int.mul_eq_zero.1 h0.symm with h1 | h1
   ·omega
   ·exact h h1)
 exact⟨c,h1,by omega,by rw[←e3];exact h3⟩
theorem same2{w1 w2:Int}{p q:Pl}(h1:0<w1)(h2:0<w2)(hq:Nz q)(ha:w1*p.A+w2*q.A=0)(hb:w1*p.B+w2*q.B=0)(hc:w1*p.C+w2*q.C=0)
  (hd:w1*p.D+w2*q.D≤0):cl2 p q=true:=by
 obtain⟨a,b,c,d⟩:=p;obtain⟨e,f,g,i⟩:=q
 simp only at ha hb hc hd
 have z:∀y:Int,w1*y=0→y=0:=fun y h=>(Int.mul_eq_zero.1 h).resolve_left (by omega)
 have hpos:0<d3 e f g e f g:=d3_pos (fun h=>by
  unfold Nz at hq;simp only at hq
  rcases hq with h' | h' | h'
  ·exact h' h.1
  ·exact h' h.2.1
  ·exact h' h.2.2)
 unfold cl2
 rw[decide_eq_true_iff]
 simp only[cr0,cr1,cr2,dt]
 refine⟨⟨z _ (by grind),z _ (by grind),z _ (by grind),?_⟩,?_⟩
 ·have e1:w1*(a*e+b*f+c*g)=-(w2*d3 e f g e f g):=by unfold d3;grind
  have e2:0<w2*d3 e f g e f g:=Int.mul_pos h2 hpos
  rcases Int.lt_or_le (a*e+b*f+c*g) 0 with h | h
  ·exact h
  ·have:=Int.mul_nonneg (Int.le_of_lt h1) h;omega
 ·have n:∀x y:Int,w1*x+w2*y=0→w1*(x.natAbs:Int)=w2*(y.natAbs:Int):=fun x y h=>by
   have:=na_mul (a:=w1) (b:=x) (c:=w2) (d:=-y) (by grind)
   rw[Int.natAbs_neg] at this
   rwa [Int.natAbs_of_nonneg (a:=w1) (by omega),Int.natAbs_of_nonneg (a:=w2) (by omega)] at this
  have na:=n _ _ ha;have nb:=n _ _ hb;have nc:=n _ _ hc
  push_cast
  refine mul_can (c:=w1) ?_ h1
  have e1:((↑e.natAbs+↑f.natAbs+↑g.natAbs)*d+(↑a.natAbs+↑b.natAbs+↑c.natAbs)*i)*w1=((e.natAbs:Int)+f.natAbs+g.natAbs)*(w1*d+w2*i):=by grind
  rw[e1,Int.zero_mul]
  exact Int.mul_nonpos_of_nonneg_of_nonpos (by omega) hd
theorem sgn_of{w k x y:Int}(hw:0<w)(hk:0<k)(h:w*x=k*y):(0<y→0<x)∧(y<0→x<0)∧w*(x.natAbs:Int)=k*(y.natAbs:Int):=by
 refine⟨fun hy=>?_,fun hy=>?_,?_⟩
 ·have:=Int.mul_pos hk hy
  rcases Int.lt_or_le 0 x with h1 | h1
  ·exact h1
  ·have:=Int.mul_nonpos_of_nonneg_of_nonpos (Int.le_of_lt hw) h1;omega
 ·have:k*y<0:=Int.mul_neg_of_pos_of_neg hk hy
  rcases Int.lt_or_le x 0 with h1 | h1
  ·exact h1
  ·have:=Int.mul_nonneg (Int.le_of_lt hw) h1;omega
 ·have:=na_mul h
  rwa [Int.natAbs_of_nonneg (a:=w) (by omega),Int.natAbs_of_nonneg (a:=k) (by omega)] at this
theorem same3{w1 w2 w3 x y z:Int}{p q r:Pl}(h1:0<w1)(h2:0<w2)(h3:0<w3)(hz:z≠0)(hx:w3*x=w1*z)(hy:w3*y=w2*z)
  (hd:w1*p.D+w2*q.D+w3*r.D≤0):sk x y z p.D q.D r.D=true:=by
 have sx:=sgn_of h3 h1 hx;have sy:=sgn_of h3 h2 hy
 unfold sk
 rw[decide_eq_true_iff]
 refine⟨?_,?_⟩
 ·rcases Int.lt_or_lt_of_ne hz with h | h
  ·exact .inr ⟨sx.2.1 h,sy.2.1 h,h⟩
  ·exact .inl ⟨sx.1 h,sy.1 h,h⟩
 ·refine mul_can (c:=w3) ?_ h3
  have e:((x.natAbs:Int)*p.D+(y.natAbs:Int)*q.D+(z.natAbs:Int)*r.D)*w3=(z.natAbs:Int)*(w1*p.D+w2*q.D+w3*r.D):=by
   have a1:=sx.2.2;have a2:=sy.2.2;grind
  rw[e,Int.zero_mul]
  exact Int.mul_nonpos_of_nonneg_of_nonpos (by omega) hd
theorem same4{w1 w2 w3 w4:Int}{p q r s:Pl}(h1:0<w1)(h2:0<w2)(h3:0<w3)(h4:0<w4)(hz:0-det3 p q r≠0)
  (hx:w4*det3 q r s=w1*(0-det3 p q r)) (hy:w4*(0-det3 p r s)=w2*(0-det3 p q r)) (hv:w4*det3 p q s=w3*(0-det3 p q r))
  (hd:w1*p.D+w2*q.D+w3*r.D+w4*s.D≤0):cl4 p q r s=true:=by
 have sx:=sgn_of h4 h1 hx;have sy:=sgn_of h4 h2 hy;have sv:=sgn_of h4 h3 hv
 unfold cl4
 generalize det3 q r s=a at *
 generalize (0-det3 p r s)=b at *
 generalize det3 p q s=c at *
 generalize (0-det3 p q r)=z at *
 rw[decide_eq_true_iff]
 refine⟨?_,?_⟩
 ·rcases Int.lt_or_lt_of_ne hz with h | h
  ·exact .inr ⟨sx.2.1 h,sy.2.1 h,sv.2.1 h,h⟩
  ·exact .inl ⟨sx.1 h,sy.1 h,sv.1 h,h⟩
 ·refine mul_can (c:=w4) ?_ h4
  have e:((a.natAbs:Int)*p.D+(b.natAbs:Int)*q.D+(c.natAbs:Int)*r.D+(z.natAbs:Int)*s.D)*w4=(z.natAbs:Int)*(w1*p.D+w2*q.D+w3*r.D+w4*s.D):=by
   have a1:=sx.2.2;have a2:=sy.2.2;have a3:=sv.2.2;grind
  rw[e,Int.zero_mul]
  exact Int.mul_nonpos_of_nonneg_of_nonpos (by omega) hd
theorem cross_dep{p q r:Pl}(h:det3 p q r=0) :
  (cr0 q r*p.A+cr0 r p*q.A+cr0 p q*r.A=0∧cr0 q r*p.B+cr0 r p*q.B+cr0 p q*r.B=0∧cr0 q r*p.C+cr0 r p*q.C+cr0 p q*r.C=0) ∧
  (cr1 q r*p.A+cr1 r p*q.A+cr1 p q*r.A=0∧cr1 q r*p.B+cr1 r p*q.B+cr1 p q*r.B=0∧cr1 q r*p.C+cr1 r p*q.C+cr1 p q*r.C=0) ∧
  (cr2 q r*p.A+cr2 r p*q.A+cr2 p q*r.A=0∧cr2 q r*p.B+cr2 r p*q.B+cr2 p q*r.B=0∧cr2 q r*p.C+cr2 r p*q.C+cr2 p q*r.C=0):=by
 obtain⟨a,b,c,d⟩:=p;obtain⟨e,f,g,i⟩:=q;obtain⟨j,k,l,m⟩:=r
 simp only[det3,cr0,cr1,cr2] at h ⊢
 refine⟨⟨?_,?_,?_⟩,⟨?_,?_,?_⟩,?_,?_,?_⟩ <;> grind
theorem det_dep(p q r s:Pl) :
  det3 q r s*p.A+(0-det3 p r s)*q.A+det3 p q s*r.A+(0-det3 p q r)*s.A=0 ∧
  det3 q r s*p.B+(0-det3 p r s)*q.B+det3 p q s*r.B+(0-det3 p q r)*s.B=0 ∧
  det3 q r s*p.C+(0-det3 p r s)*q.C+det3 p q s*r.C+(0-det3 p q r)*s.C=0:=by
 obtain⟨a,b,c,d⟩:=p;obtain⟨e,f,g,i⟩:=q;obtain⟨j,k,l,m⟩:=r;obtain⟨u,v,w,x⟩:=s
 simp only[det3]
 refine⟨?_,?_,?_⟩ <;> grind
theorem det_zero{w1 w2 w3:Int}{p q r:Pl}(h1:0<w1)(ha:w1*p.A+w2*q.A+w3*r.A=0)(hb:w1*p.B+w2*q.B+w3*r.B=0)(hc:w1*p.C+w2*q.C+w3*r.C=0):det3 p q r=0:=by
 obtain⟨a,b,c,d⟩:=p;obtain⟨e,f,g,i⟩:=q;obtain⟨j,k,l,m⟩:=r
 simp only[det3] at ha hb hc ⊢
 refine(Int.mul_eq_zero.1 (show w1*_=0 from ?_)).resolve_left (by omega)
 have e1:w1*a=-(w2*e)-w3*j:=by omega
 have e2:w1*b=-(w2*f)-w3*k:=by omega
 have e3:w1*c=-(w2*g)-w3*l:=by omega
 rw[Int.mul_add,Int.mul_add,←Int.mul_assoc,←Int.mul_assoc,←Int.mul_assoc,e1,e2,e3]
 grind
theorem dep3{p q r:Pl}(h:det3 p q r=0)(hp:Nz p)(hq:Nz q):∃x y z:Int,(x≠0∨z≠0) ∧
  x*p.A+y*q.A+z*r.A=0∧x*p.B+y*q.B+z*r.B=0∧x*p.C+y*q.C+z*r.C=0:=by
 by_cases hw:cr0 p q=0∧cr1 p q=0∧cr2 p q=0
 ·obtain⟨x,y,h1,h2,h3,h4,h5⟩:=cr_dep p q hw hp hq
  exact⟨x,y,0,.inl h1,by omega,by omega,by omega⟩
 ·obtain⟨c0,c1,c2⟩:=cross_dep h
  by_cases h0:cr0 p q=0
  ·by_cases h1:cr1 p q=0
   ·exact⟨_,_,_,.inr fun h2=>hw ⟨h0,h1,h2⟩,c2⟩
   ·exact⟨_,_,_,.inr h1,c1⟩
  ·exact⟨_,_,_,.inr h0,c0⟩
end Evl.T
namespace Evl.T
open Go Evl
theorem no_cert{l:List Pl}(ho:Opn l)(hz:∀q∈l,Nz q):∀(n:Nat) (c:List (Int×Pl)),c.length<n→Cert c→(c.map (·.2)).Sublist l→False:=by
 intro n
 induction n with
 | zero=>intro c h;omega
 | succ n ih =>
  intro c hn hc hs
  have go:(∃c',Cert c'∧c'.length<c.length∧(c'.map (·.2)).Sublist (c.map (·.2)))→False:=fun ⟨c',h1,h2,h3⟩=>ih c' (by omega) h1 (h3.trans hs)
  have nz:∀x∈c,Nz x.2:=fun x hx=>hz _ (hs.subset (List.mem_map.2 ⟨x,hx,rfl⟩))
  have ps:=hc.pos
  have ha:=hc.a;have hb:=hc.b;have hcc:=hc.cc;have hd:=hc.d
  match c,hc,hs,go,nz,ps,ha,hb,hcc,hd with
  | [],hc,_,_,_,_,_,_,_,_=>exact hc.ne rfl
  | [(w,p)],_,_,_,nz,ps,ha,hb,hcc,_ =>
   have hw:=ps _ (List.mem_singleton.2 rfl)
   have hn:=nz _ (List.mem_singleton.2 rfl)
   simp only[sm,Int.add_zero] at ha hb hcc hw
   have z:∀y:Int,w*y=0→y=0:=fun y h=>(Int.mul_eq_zero.1 h).resolve_left (by omega)
   rcases hn with h | h | h
   ·exact h (z _ ha)
   ·exact h (z _ hb)
   ·exact h (z _ hcc)
  | [(w1,p),(w2,q)],_,hs,_,nz,ps,ha,hb,hcc,hd =>
   have h1:0<w1:=ps (w1,p) (by simp)
   have h2:0<w2:=ps (w2,q) (by simp)
   have nq:Nz q:=nz (w2,q) (by simp)
   simp only[sm,Int.add_zero] at ha hb hcc hd
   have hcl:=same2 h1 h2 nq ha hb hcc hd
   obtain⟨l',h3,h4⟩:=ho.last (r:=[p]) (p:=q) hs
   rw[(wth_sub l' q).2 (.inl ⟨p,h3,hcl⟩)] at h4
   cases h4
  | [(w1,p),(w2,q),(w3,r)],hc,hs,go,nz,ps,ha,hb,hcc,hd =>
   have h1:0<w1:=ps (w1,p) (by simp)
   have h2:0<w2:=ps (w2,q) (by simp)
   have h3:0<w3:=ps (w3,r) (by simp)
   have np:Nz p:=nz (w1,p) (by simp)
   have nq:Nz q:=nz (w2,q) (by simp)
   simp only[sm,Int.add_zero] at ha hb hcc hd
   have hdet:det3 p q r=0:=det_zero (w2:=w2) (w3:=w3) h1 (by omega) (by omega) (by omega)
   by_cases hw:cr0 p q=0∧cr1 p q=0∧cr2 p q=0
   ·obtain⟨x,y,hx,hy,e1,e2,e3⟩:=cr_dep p q hw np nq
    refine go (red2 [(w1,x,p),(w2,y,q)] [(w3,r)] hc ?_ ?_ ?_ (.inr ⟨by simp,(w1,x,p),by simp,hx⟩))
    ·simp only[tv,List.map_cons,List.map_nil,sm];omega
    ·simp only[tv,List.map_cons,List.map_nil,sm];omega
    ·simp only[tv,List.map_cons,List.map_nil,sm];omega
   ·obtain⟨c0,c1,c2⟩:=cross_dep hdet
    obtain⟨⟨a1,a2,a3⟩,b1,b2,b3⟩:=par3 hdet
    have pX:=prj a1 a2 a3;have pY:=prj b1 b2 b3
    have key:∀x y z:Int,z≠0→(x*p.A+y*q.A+z*r.A=0∧x*p.B+y*q.B+z*r.B=0∧x*p.C+y*q.C+z*r.C=0) →
      d3 (cr0 q r) (cr1 q r) (cr2 q r) (cr0 p q) (cr1 p q) (cr2 p q)*z=x*d3 (cr0 p q) (cr1 p q) (cr2 p q) (cr0 p q) (cr1 p q) (cr2 p q) →
      d3 (cr0 r p) (cr1 r p) (cr2 r p) (cr0 p q) (cr1 p q) (cr2 p q)*z=y*d3 (cr0 p q) (cr1 p q) (cr2 p q) (cr0 p q) (cr1 p q) (cr2 p q)→False:=by
     intro x y z hz0 ⟨d1,d2,d3'⟩ hX hY
     by_cases hx:w3*x=w1*z
     ·by_cases hy:w3*y=w2*z
      ·have hk:=same3 (p:=p) (q:=q) (r:=r) h1 h2 h3 hz0 hx hy (by omega)
       rw[sk_cl3 hdet hw hz0 hX hY] at hk
       obtain⟨l',h3,h4⟩:=ho.last (r:=[p,q]) (p:=r) hs
       rw[(wth_sub l' r).2 (.inr (.inl ⟨p,q,h3,hk⟩))] at h4
       cases h4
      ·refine go (red2 [(w1,x,p),(w2,y,q),(w3,z,r)] [] hc ?_ ?_ ?_ (.inl ⟨(w3,z,r),by simp,(w2,y,q),by simp,hy⟩))
       ·simp only[tv,List.map_cons,List.map_nil,sm];omega
       ·simp only[tv,List.map_cons,List.map_nil,sm];omega
       ·simp only[tv,List.map_cons,List.map_nil,sm];omega
     ·refine go (red2 [(w1,x,p),(w2,y,q),(w3,z,r)] [] hc ?_ ?_ ?_ (.inl ⟨(w3,z,r),by simp,(w1,x,p),by simp,hx⟩))
      ·simp only[tv,List.map_cons,List.map_nil,sm];omega
      ·simp only[tv,List.map_cons,List.map_nil,sm];omega
      ·simp only[tv,List.map_cons,List.map_nil,sm];omega
    by_cases h0:cr0 p q=0
    ·by_cases h1:cr1 p q=0
     ·exact key _ _ _ (fun h2=>hw ⟨h0,h1,h2⟩) c2 pX.2.2 pY.2.2
     ·exact key _ _ _ h1 c1 pX.2.1 pY.2.1
    ·exact key _ _ _ h0 c0 pX.1 pY.1
  | (w1,p)::(w2,q)::(w3,r)::(w4,s)::rest,hc,hs,go,nz,ps,ha,hb,hcc,hd =>
   have h1:0<w1:=ps (w1,p) (by simp)
   have h2:0<w2:=ps (w2,q) (by simp)
   have h3:0<w3:=ps (w3,r) (by simp)
   have h4:0<w4:=ps (w4,s) (by simp)
   have np:Nz p:=nz (w1,p) (by simp)
   have nq:Nz q:=nz (w2,q) (by simp)
   by_cases hz0:0-det3 p q r=0
   ·obtain⟨x,y,z,hxz,e1,e2,e3⟩:=dep3 (p:=p) (q:=q) (r:=r) (by omega) np nq
    refine go (red2 [(w1,x,p),(w2,y,q),(w3,z,r)] ((w4,s)::rest) hc ?_ ?_ ?_ (.inr ⟨by simp,?_⟩))
    ·simp only[tv,List.map_cons,List.map_nil,sm];omega
    ·simp only[tv,List.map_cons,List.map_nil,sm];omega
    ·simp only[tv,List.map_cons,List.map_nil,sm];omega
    ·rcases hxz with h | h
     ·exact⟨(w1,x,p),by simp,h⟩
     ·exact⟨(w3,z,r),by simp,h⟩
   ·obtain⟨e1,e2,e3⟩:=det_dep p q r s
    have rd:=red2 [(w1,det3 q r s,p),(w2,0-det3 p r s,q),(w3,det3 p q s,r),(w4,0-det3 p q r,s)] rest hc
     (by simp only[tv,List.map_cons,List.map_nil,sm];omega) (by simp only[tv,List.map_cons,List.map_nil,sm];omega) (by simp only[tv,List.map_cons,List.map_nil,sm];omega)
    by_cases hr:rest=[]
    ·subst hr
     by_cases hx:w4*det3 q r s=w1*(0-det3 p q r)
     ·by_cases hy:w4*(0-det3 p r s)=w2*(0-det3 p q r)
      ·by_cases hv:w4*det3 p q s=w3*(0-det3 p q r)
       ·simp only[sm,Int.add_zero] at hd
        have hk:=same4 h1 h2 h3 h4 hz0 hx hy hv (by omega)
        obtain⟨l',h3,h4⟩:=ho.last (r:=[p,q,r]) (p:=s) hs
        rw[(wth_sub l' s).2 (.inr (.inr ⟨p,q,r,h3,hk⟩))] at h4
        cases h4
       ·exact go (rd (.inl ⟨(w4,0-det3 p q r,s),by simp,(w3,det3 p q s,r),by simp,hv⟩))
      ·exact go (rd (.inl ⟨(w4,0-det3 p q r,s),by simp,(w2,0-det3 p r s,q),by simp,hy⟩))
     ·exact go (rd (.inl ⟨(w4,0-det3 p q r,s),by simp,(w1,det3 q r s,p),by simp,hx⟩))
    ·exact go (rd (.inr ⟨hr,(w4,0-det3 p q r,s),by simp,hz0⟩))
def Half (l:List Pl)(p:Pl):Prop:=∃(c:List (Int×Pl)) (m:Int),0<m∧c≠[]∧(∀x∈c,0<x.1)∧(c.map (·.2)).Sublist l ∧
 sm Pl.A c+m*p.A=0∧sm Pl.B c+m*p.B=0∧sm Pl.C c+m*p.C=0∧sm Pl.D c+m*p.D≤0
theorem half2{p q:Pl}{l:List Pl}(hs:[q].Sublist l)(hq:Nz q)(h:cl2 q p=true):Half l p:=by
 unfold cl2 at h
 rw[decide_eq_true_iff] at h
 obtain⟨⟨h0,h1,h2,h3⟩,h4⟩:=h
 obtain⟨a,b,c,d⟩:=p;obtain⟨e,f,g,i⟩:=q
 simp only[cr0,cr1,cr2,dt,Nz] at h0 h1 h2 h3 h4 hq
 have hN:0<d3 e f g e f g:=d3_pos (fun h=>by
  rcases hq with h' | h' | h'
  ·exact h' h.1
  ·exact h' h.2.1
  ·exact h' h.2.2)
 have ca:(0-(e*a+f*b+g*c))*e+d3 e f g e f g*a=0:=by unfold d3;grind
 have cb:(0-(e*a+f*b+g*c))*f+d3 e f g e f g*b=0:=by unfold d3;grind
 have cc:(0-(e*a+f*b+g*c))*g+d3 e f g e f g*c=0:=by unfold d3;grind
 generalize d3 e f g e f g=N at *
 have hM:0<0-(e*a+f*b+g*c):=by omega
 generalize 0-(e*a+f*b+g*c)=M at *
 refine⟨[(M,⟨e,f,g,i⟩)],N,hN,by simp,?_,hs,?_,?_,?_,?_⟩
 ·intro x hx;rw[List.mem_singleton.1 hx];exact hM
 ·simp only[sm];omega
 ·simp only[sm];omega
 ·simp only[sm];omega
 ·simp only[sm,Int.add_zero]
  have n:∀x y:Int,M*x+N*y=0→M*(x.natAbs:Int)=N*(y.natAbs:Int):=fun x y h=>by
   have:=na_mul (a:=M) (b:=x) (c:=N) (d:=-y) (by grind)
   rw[Int.natAbs_neg] at this
   rwa [Int.natAbs_of_nonneg (a:=M) (by omega),Int.natAbs_of_nonneg (a:=N) (by omega)] at this
  have na:=n _ _ ca;have nb:=n _ _ cb;have nc:=n _ _ cc
  push_cast at h4
  have hQ:0<(e.natAbs:Int)+f.natAbs+g.natAbs:=by
   rcases hq with h' | h' | h' <;> omega
  refine mul_can (c:=(e.natAbs:Int)+f.natAbs+g.natAbs) ?_ hQ
  have e1:(M*i+N*d)*((e.natAbs:Int)+f.natAbs+g.natAbs)=N*(((a.natAbs:Int)+b.natAbs+c.natAbs)*i+((e.natAbs:Int)+f.natAbs+g.natAbs)*d):=by grind
  rw[e1,Int.zero_mul]
  exact Int.mul_nonpos_of_nonneg_of_nonpos (by omega) h4
theorem lin3{x0 x1 x2 y0 y1 y2 w0 w1 w2 a b c:Int}(h0:x0*a+y0*b+w0*c=0)(h1:x1*a+y1*b+w1*c=0)(h2:x2*a+y2*b+w2*c=0) :
  d3 x0 x1 x2 w0 w1 w2*a+d3 y0 y1 y2 w0 w1 w2*b+d3 w0 w1 w2 w0 w1 w2*c=0:=by
 have e:d3 x0 x1 x2 w0 w1 w2*a+d3 y0 y1 y2 w0 w1 w2*b+d3 w0 w1 w2 w0 w1 w2*c=w0*(x0*a+y0*b+w0*c)+w1*(x1*a+y1*b+w1*c)+w2*(x2*a+y2*b+w2*c):=by unfold d3;grind
 rw[e,h0,h1,h2];simp
theorem half3{p q r:Pl}{l:List Pl}(hs:[q,r].Sublist l)(h:cl3 q r p=true):Half l p:=by
 unfold cl3 at h
 rw[decide_eq_true_iff] at h
 obtain⟨h0,h1,⟨h2,h3⟩,h4⟩:=h
 obtain⟨⟨c1,c2,c3⟩,⟨c4,c5,c6⟩,c7,c8,c9⟩:=cross_dep h0
 refine⟨[(d3 (cr0 r p) (cr1 r p) (cr2 r p) (cr0 q r) (cr1 q r) (cr2 q r),q),(d3 (cr0 p q) (cr1 p q) (cr2 p q) (cr0 q r) (cr1 q r) (cr2 q r),r)],d3 (cr0 q r) (cr1 q r) (cr2 q r) (cr0 q r) (cr1 q r) (cr2 q r),h1,by simp,?_,hs,?_,?_,?_,?_⟩
 ·intro x hx
  simp only[List.mem_cons,List.not_mem_nil,or_false] at hx
  rcases hx with rfl | rfl
  ·exact h2
  ·exact h3
 ·simp only[sm,Int.add_zero];exact lin3 c1 c4 c7
 ·simp only[sm,Int.add_zero];exact lin3 c2 c5 c8
 ·simp only[sm,Int.add_zero];exact lin3 c3 c6 c9
 ·simp only[sm];omega
theorem half4{p q r s:Pl}{l:List Pl}(hs:[q,r,s].Sublist l)(h:cl4 q r s p=true):Half l p:=by
 unfold cl4 at h
 rw[decide_eq_true_iff] at h
 obtain⟨h0,h4⟩:=h
 obtain⟨c1,c2,c3⟩:=det_dep q r s p
 generalize det3 r s p=a at *
 generalize (0-det3 q s p)=b at *
 generalize det3 q r p=c at *
 generalize (0-det3 q r s)=z at *
 have ps:0<(a.natAbs:Int)∧0<(b.natAbs:Int)∧0<(c.natAbs:Int)∧0<(z.natAbs:Int):=by omega
 have key:∀x y u v:Int,a*x+b*y+c*u+z*v=0→(a.natAbs:Int)*x+((b.natAbs:Int)*y+((c.natAbs:Int)*u+0))+(z.natAbs:Int)*v=0:=fun x y u v h=>by
  rcases h0 with h0 | h0
  ·rw[Int.natAbs_of_nonneg (by omega),Int.natAbs_of_nonneg (by omega),Int.natAbs_of_nonneg (by omega),Int.natAbs_of_nonneg (by omega)];omega
  ·rw[Int.ofNat_natAbs_of_nonpos (by omega),Int.ofNat_natAbs_of_nonpos (by omega),Int.ofNat_natAbs_of_nonpos (by omega),Int.ofNat_natAbs_of_nonpos (by omega)];grind
 refine⟨[((a.natAbs:Int),q),((b.natAbs:Int),r),((c.natAbs:Int),s)],(z.natAbs:Int),ps.2.2.2,by simp,?_,hs,key _ _ _ _ c1,key _ _ _ _ c2,key _ _ _ _ c3,?_⟩
 ·intro x hx
  simp only[List.mem_cons,List.not_mem_nil,or_false] at hx
  rcases hx with rfl | rfl | rfl
  ·exact ps.1
  ·exact ps.2.1
  ·exact ps.2.2.1
 ·simp only[sm];omega
theorem half_of{l:List Pl}{p:Pl}(hz:∀q∈l,Nz q)(h:wth l p=true):Half l p:=by
 rcases(wth_sub l p).1 h with ⟨q,h1,h2⟩ | ⟨q,r,h1,h2⟩ | ⟨q,r,s,h1,h2⟩
 ·exact half2 h1 (hz q (h1.subset List.mem_cons_self)) h2
 ·exact half3 h1 h2
 ·exact half4 h1 h2
theorem pad{l:List Pl}:∀{c:List (Int×Pl)},(c.map (·.2)).Sublist l→(∀x∈c,0<x.1)→∃z:List (Int×Pl),z.map (·.2)=l∧(∀x∈z,0≤x.1)∧∀f,sm f z=sm f c:=by
 induction l with
 | nil =>
  intro c h _
  have:c=[]:=by have:=h.length_le;simpa using this
  subst this
  exact⟨[],rfl,by simp,fun _=>rfl⟩
 | cons y l ih =>
  intro c h hp
  have skip:(c.map (·.2)).Sublist l→∃z:List (Int×Pl),z.map (·.2)=y::l∧(∀x∈z,0≤x.1)∧∀f,sm f z=sm f c:=fun h=>by
   obtain⟨z,h1,h2,h3⟩:=ih h hp
   refine⟨(0,y)::z,by simp[h1],fun x hx=>?_,fun f=>?_⟩
   ·rcases List.mem_cons.1 hx with rfl | hx
    ·exact Int.le_refl _
    ·exact h2 x hx
   ·rw[sm_cons,h3];omega
  match c,h,hp,skip with
  | [],_,_,skip=>exact skip (List.nil_sublist _)
  | x::c,h,hp,skip =>
   simp only[List.map_cons] at h
   cases h with
   | cons _ h=>exact skip h
   | cons_cons _ h =>
    obtain⟨z,h1,h2,h3⟩:=ih h fun x hx=>hp x (List.mem_cons_of_mem _ hx)
    refine⟨(x.1,x.2)::z,by simp[h1],fun w hw=>?_,fun f=>?_⟩
    ·rcases List.mem_cons.1 hw with rfl | hw
     ·exact Int.le_of_lt (hp x List.mem_cons_self)
     ·exact h2 w hw
    ·rw[sm_cons,sm_cons,h3]
def mix (a b:Int):List (Int×Pl)→List (Int×Pl)→List (Int×Pl)
 | x::c,y::d=>(a*x.1+b*y.1,x.2)::mix a b c d
 | _,_=>[]
theorem sm_mix(f:Pl→Int)(a b:Int):∀(c d:List (Int×Pl)),c.map (·.2)=d.map (·.2)→sm f (mix a b c d)=a*sm f c+b*sm f d
 | [],[],_=>by simp[mix,sm]
 | x::c,y::d,h=>by
  simp only[List.map_cons,List.cons.injEq] at h
  simp only[mix,sm_cons]
  rw[sm_mix f a b c d h.2,h.1];grind
 | [],_::_,h=>by simp at h
 | _::_,[],h=>by simp at h
theorem mix_snd(a b:Int):∀(c d:List (Int×Pl)),c.map (·.2)=d.map (·.2)→(mix a b c d).map (·.2)=c.map (·.2)
 | [],[],_=>rfl
 | x::c,y::d,h=>by
  simp only[List.map_cons,List.cons.injEq] at h
  simp only[mix,List.map_cons]
  rw[mix_snd a b c d h.2]
 | [],_::_,h=>by simp at h
 | _::_,[],h=>by simp at h
theorem mix_ge{a b:Int}(ha:0≤a)(hb:0≤b):∀(c d:List (Int×Pl)),(∀x∈c,0≤x.1)→(∀x∈d,0≤x.1)→∀x∈mix a b c d,0≤x.1
 | [],_,_,_=>by simp[mix]
 | _::_,[],_,_=>by simp[mix]
 | x::c,y::d,hc,hd=>by
  intro z hz
  simp only[mix] at hz
  rcases List.mem_cons.1 hz with rfl | hz
  ·have h1:=Int.mul_nonneg ha (hc x List.mem_cons_self)
   have h2:=Int.mul_nonneg hb (hd y List.mem_cons_self)
   show 0≤a*x.1+b*y.1
   omega
  ·exact mix_ge ha hb c d (fun w hw=>hc w (List.mem_cons_of_mem _ hw)) (fun w hw=>hd w (List.mem_cons_of_mem _ hw)) z hz
theorem sm_pos{c:List (Int×Pl)}(h:∀x∈c,0<x.1)(hn:c≠[]):0<sm (fun _=>1) c:=by
 have ge:∀c:List (Int×Pl),(∀x∈c,0<x.1)→0≤sm (fun _=>1) c:=fun c=>by
  induction c with
  | nil=>intro _;exact Int.le_refl _
  | cons x r ih =>
   intro h
   have h1:=h x List.mem_cons_self
   have h2:=ih fun y hy=>h y (List.mem_cons_of_mem _ hy)
   rw[sm_cons];omega
 obtain⟨x,r,rfl⟩:=List.exists_cons_of_ne_nil hn
 have h1:=h x List.mem_cons_self
 have h2:=ge r fun y hy=>h y (List.mem_cons_of_mem _ hy)
 rw[sm_cons];omega
theorem flip_room{l:List Pl}(ho:Opn l)(hz:∀q∈l,Nz q)(p:Pl):wth l p=false∨wth l (flp p)=false:=by
 cases h1:wth l p with
 | false=>exact .inl rfl
 | true =>
  cases h2:wth l (flp p) with
  | false=>exact .inr rfl
  | true =>
   exfalso
   obtain⟨c,m,hm,hcn,hcp,hcs,ca,cb,cc,cd⟩:=half_of hz h1
   obtain⟨d,k,hk,hdn,hdp,hds,da,db,dc,dd⟩:=half_of hz h2
   obtain⟨z,z1,z2,z3⟩:=pad hcs hcp
   obtain⟨y,y1,y2,y3⟩:=pad hds hdp
   have hzy:z.map (·.2)=y.map (·.2):=by rw[z1,y1]
   have ge:=mix_ge (a:=k) (b:=m) (by omega) (by omega) z y z2 y2
   have e:∀f,sm f (pst (mix k m z y))=k*sm f c+m*sm f d:=fun f=>by rw[sm_pst _ _ ge,sm_mix f k m z y hzy,z3,y3]
   simp only[flp] at da db dc dd
   refine no_cert ho hz _ (pst (mix k m z y)) (Nat.lt_succ_self _) ⟨fun x hx=>pst_pos hx,?_,?_,?_,?_,?_⟩ ?_
   ·rw[e];grind
   ·rw[e];grind
   ·rw[e];grind
   ·rw[e]
    have e1:k*sm Pl.D c+m*sm Pl.D d=k*(sm Pl.D c+m*p.D)+m*(sm Pl.D d+k*(0-p.D)):=by grind
    rw[e1]
    have h1:=Int.mul_nonpos_of_nonneg_of_nonpos (Int.le_of_lt hk) cd
    have h2:=Int.mul_nonpos_of_nonneg_of_nonpos (Int.le_of_lt hm) dd
    omega
   ·intro h
    have:=e fun _=>1
    rw[h,sm_nil] at this
    have h1:=Int.mul_pos hk (sm_pos hcp hcn)
    have h2:=Int.mul_pos hm (sm_pos hdp hdn)
    omega
   ·have:=(pst_sub (mix k m z y)).map (·.2)
    rw[mix_snd k m z y hzy,z1] at this
    exact this
end Evl.T
namespace Evl.T
open Go Evl
mutual
def mk1:Sol→Int→Int×Sol
 | .mk _ _ kids,k=>((mkL kids (k+1+1+1+1+1)).1,.mk (Int.tmod k 3==0) ⟨k+1,k+1+1,k+1+1+1,k+1+1+1+1⟩ (mkL kids (k+1+1+1+1+1)).2)
def mkL:List Sol→Int→Int×List Sol
 | [],k=>(k,[])
 | x::xs,k=>((mkL xs (mk1 x k).1).1,(mk1 x k).2::(mkL xs (mk1 x k).1).2)
end
theorem mkL_nil(k:Int):mkL [] k=(k,[]):=by rw[mkL]
theorem mkL_cons(x:Sol)(xs:List Sol)(k:Int):mkL (x::xs) k=((mkL xs (mk1 x k).1).1,(mk1 x k).2::(mkL xs (mk1 x k).1).2):=by rw[mkL]
mutual
theorem mk1_fst:∀(x:Sol) (k:Int),(mk1 x k).1=k+5+5*(tot x:Int)
 | .mk i p kids,k=>by
  rw[mk1]
  have:=mkL_fst kids (k+1+1+1+1+1)
  rw[tot_mk]
  show (mkL kids (k+1+1+1+1+1)).1=_
  rw[this];push_cast;omega
theorem mkL_fst:∀(l:List Sol) (k:Int),(mkL l k).1=k+5*((l.length:Int)+(totL l:Int))
 | [],k=>by rw[mkL,totL];simp
 | x::xs,k=>by
  rw[mkL]
  have h1:=mk1_fst x k
  have h2:=mkL_fst xs (mk1 x k).1
  show (mkL xs (mk1 x k).1).1=_
  rw[h2,h1,totL,List.length_cons];push_cast;omega
end
theorem mkL_len:∀(l:List Sol) (k:Int),(mkL l k).2.length=l.length
 | [],k=>by rw[mkL]
 | x::xs,k=>by rw[mkL];simp[mkL_len xs]
def gig:Int:=1000000000
theorem wk{k:Int}(h0:0≤k)(h1:k+5≤gig):w64 (k+1)=k+1∧w64 (k+1+1)=k+1+1∧w64 (k+1+1+1)=k+1+1+1∧w64 (k+1+1+1+1)=k+1+1+1+1∧w64 (k+1+1+1+1+1)=k+1+1+1+1+1:=by
 unfold gig at h1
 refine⟨?_,?_,?_,?_,?_⟩ <;> exact w64_id (by omega) (by omega)
theorem lget_mid(P:List Sol)(y:Sol)(r:List Sol):lget (P++y::r) ((P.length:Nat):Int)=some y:=by
 rw[lget_nat,List.getElem?_append_right (Nat.le_refl _)];simp
theorem set_mid'(P:List Sol)(y z:Sol)(r:List Sol):(P++y::r).set (Int.toNat ((P.length:Nat):Int)) z=P++z::r:=by
 rw[Int.toNat_natCast,List.set_append_right _ _ (Nat.le_refl _)];simp
theorem markLoop(n:Nat)(self:List Sol×Int→Option (Int×List Sol)):∀(r P:List Sol) (m:Nat) (k:Int),(∀x∈r,∀k:Int,0≤k→k+5*(tot x:Int)≤gig→self (x.kids,k)=some (mkL x.kids k))→r.length<m→P.length+r.length<big→0≤k→k+5*((r.length:Int)+(totL r:Int))≤gig →
  loopN (Dlaws_markSolidS_1 n self) m (k,((P.length:Nat):Int),P++r)=some ((mkL r k).1,P++(mkL r k).2):=by
 intro r
 induction r with
 | nil =>
  intro P m k hs hm hb h0 h1
  obtain⟨m,rfl⟩:∃q,m=q+1:=⟨m-1,by omega⟩
  rw[loop_suc]
  simp only[Dlaws_markSolidS_1,List.append_nil,lt_self,frk_f,mkL_nil]
 | cons x r ih =>
  intro P m k hs hm hb h0 h1
  simp only[List.length_cons] at hm hb h1
  obtain⟨m,rfl⟩:∃q,m=q+1:=⟨m-1,by omega⟩
  rw[totL] at h1
  push_cast at h1
  obtain⟨w1,w2,w3,w4,w5⟩:=wk h0 (by omega)
  have hlt:∀y:Sol,decide (((P.length:Nat):Int)<((P++y::r).length:Int))=true:=fun y=>by simp;omega
  obtain⟨xi,xp,xk⟩:=x
  have hself:self (xk,k+1+1+1+1+1)=some (mkL xk (k+1+1+1+1+1)):=hs _ List.mem_cons_self (k+1+1+1+1+1) (by omega) (by omega)
  have hsuc:w64 (((P.length:Nat):Int)+1)=(((P++[(mk1 (.mk xi xp xk) k).2]).length:Nat):Int):=by rw[w64_suc (by omega)];simp
  rw[loop_suc]
  simp only[Dlaws_markSolidS_1,Dlaws_markSolidS_0,hlt,frk_t,lget_mid,set_mid',Option.bind_some,Sol.inn,Sol.pl,Sol.kids,w1,w2,w3,w4,w5]
  rw[hself,Option.bind_some,hsuc]
  have e:(Sol.mk (Int.tmod k 3==0) ⟨k+1,k+1+1,k+1+1+1,k+1+1+1+1⟩ (mkL xk (k+1+1+1+1+1)).2)=(mk1 (.mk xi xp xk) k).2:=by rw[mk1]
  have e1:(mkL xk (k+1+1+1+1+1)).1=(mk1 (.mk xi xp xk) k).1:=by rw[mk1]
  rw[e,e1,show P++(mk1 (.mk xi xp xk) k).2::r=(P++[(mk1 (.mk xi xp xk) k).2])++r by simp]
  have hf:=mk1_fst (.mk xi xp xk) k
  rw[ih (P++[(mk1 (.mk xi xp xk) k).2]) m (mk1 (.mk xi xp xk) k).1 (fun y hy=>hs y (List.mem_cons_of_mem _ hy)) (by omega) (by simp;omega) (by omega) (by omega),mkL_cons]
  simp
theorem markOk:∀s,Lens s→tot s≤1048576→E2 fun n m=>∀k:Int,0≤k→k+5*(tot s:Int)≤gig→loopN (Dlaws_markSolidS_b n) m (s.kids,k)=some (mkL s.kids k):=by
 refine sol_ind fun i p k ih hl ht=>?_
 rw[tot_mk] at ht
 cases hl with
 | mk hb hk =>
  have h1:=E2.all fun x hx=>ih x hx (hk x hx) (by have:=tot_le hx;omega)
  have h2:E2 fun n _=>k.length<n:=⟨k.length+1,fun n hn _ _=>by omega⟩
  refine E2.suc ((h1.and h2).mono fun n m ⟨h1,h2⟩ q hq0 hq1=>?_)
  rw[tot_mk] at hq1
  push_cast at hq1
  rw[loop_suc]
  show loopN (Dlaws_markSolidS_1 n _) n (q,0,k)=some (mkL k q)
  have:=markLoop n (loopN (Dlaws_markSolidS_b n) m) k [] n q h1 h2 (by simp;unfold big;omega) hq0 hq1
  simpa using this
inductive Tw:Sol→Prop
 | leaf {i p}:Tw (.mk i p [])
 | node {i p a b}:Tw a→Tw b→Tw (.mk i p [a,b])
theorem Tw.lens{s:Sol}(h:Tw s):Lens s:=by
 induction h with
 | leaf=>exact .mk (by simp[big]) (by simp)
 | node _ _ iha ihb =>
  refine .mk (by simp[big]) fun x hx=>?_
  simp only[List.mem_cons,List.not_mem_nil,or_false] at hx
  rcases hx with rfl | rfl
  ·exact iha
  ·exact ihb
theorem Tw.tot{s:Sol}(h:Tw s):Evl.T.tot s=2*nod s:=by
 induction h with
 | leaf=>rw[tot_mk,nod_leaf];simp[totL]
 | node _ _ iha ihb=>rw[tot_mk,nod2];simp only[totL,List.length_cons,List.length_nil,iha,ihb];omega
theorem Rt.tw{s:Sol}{l:List Pl}(h:Rt s l):Tw s:=by
 induction h with
 | leaf _=>exact .leaf
 | node _ _ _ _ _ _ iha ihb=>exact .node iha ihb
theorem markAt{s:Sol}(h:Lens s)(ht:tot s≤1048576):Ev fun n=>∀k:Int,0≤k→k≤900000000→Dlaws_markSolidS n s.kids k=some (mkL s.kids k) :=
 (markOk s h ht).ev.mono fun n hn k h0 h1=>hn k h0 (by unfold gig;omega)
theorem mkL_tot{s:Sol}(k:Int):(mkL s.kids k).1=k+5*(tot s:Int):=by
 rw[mkL_fst];cases s;rw[tot_mk];push_cast;rfl
end Evl.T
namespace Evl.T
open Go Evl
theorem heldLoop(n:Nat)(self:List Sol×Int→Option Int)(L:List Sol)(hL:L.length≤big):∀(r:List Sol) (i m:Nat) (k:Int),(∀x∈r,∀k:Int,0≤k→k+5*(tot x:Int)≤gig→self ((mkL x.kids k).2,k)=some (mkL x.kids k).1)→L.drop i=(mkL r k).2→i≤L.length→r.length<m→0≤k→k+5*((r.length:Int)+(totL r:Int))≤gig →
  loopN (Dlaws_heldSolidS_0 n self L) m (k,(i:Int))=some (mkL r k).1:=by
 intro r
 induction r with
 | nil =>
  intro i m k hs hd hi hm h0 h1
  obtain⟨m,rfl⟩:∃q,m=q+1:=⟨m-1,by omega⟩
  rw[mkL_nil] at hd
  have:i=L.length:=by have:=List.drop_eq_nil_iff.1 hd;omega
  subst this
  rw[loop_suc]
  simp only[Dlaws_heldSolidS_0,lt_self,frk_f,mkL_nil]
 | cons x r ih =>
  intro i m k hs hd hi hm h0 h1
  simp only[List.length_cons] at hm h1
  obtain⟨m,rfl⟩:∃q,m=q+1:=⟨m-1,by omega⟩
  rw[totL] at h1
  push_cast at h1
  obtain⟨w1,w2,w3,w4,w5⟩:=wk h0 (by omega)
  rw[mkL_cons] at hd
  obtain⟨hil,hx,hd',-⟩:=drop_get hd
  obtain⟨xi,xp,xk⟩:=x
  have hself:self ((mkL xk (k+1+1+1+1+1)).2,k+1+1+1+1+1)=some (mkL xk (k+1+1+1+1+1)).1:=hs _ List.mem_cons_self (k+1+1+1+1+1) (by omega) (by omega)
  have hf:=mk1_fst (.mk xi xp xk) k
  have e1:(mkL xk (k+1+1+1+1+1)).1=(mk1 (.mk xi xp xk) k).1:=by rw[mk1]
  have hnn:decide ((mkL xk (k+1+1+1+1+1)).1<0)=false:=decide_eq_false (by rw[e1];omega)
  rw[loop_suc]
  simp only[Dlaws_heldSolidS_0,lt_dec hil,frk_t,lget_nat,hx,Option.bind_some,w1,w2,w3,w4,w5]
  simp only[mk1,Sol.inn,Sol.pl,Sol.kids,beq_self_eq_true,Bool.not_true,frk_f,bne_self_eq_false]
  rw[hself,Option.bind_some,hnn,frk_f,w64_suc (by omega),e1]
  rw[ih (i+1) m (mk1 (.mk xi xp xk) k).1 (fun y hy=>hs y (List.mem_cons_of_mem _ hy)) hd' (by omega) (by omega) (by omega) (by omega),mkL_cons]
theorem heldOk:∀s,Lens s→tot s≤1048576→E2 fun n m=>∀k:Int,0≤k→k+5*(tot s:Int)≤gig→loopN (Dlaws_heldSolidS_b n) m ((mkL s.kids k).2,k)=some (mkL s.kids k).1:=by
 refine sol_ind fun i p k ih hl ht=>?_
 rw[tot_mk] at ht
 cases hl with
 | mk hb hk =>
  have h1:=E2.all fun x hx=>ih x hx (hk x hx) (by have:=tot_le hx;omega)
  have h2:E2 fun n _=>k.length<n:=⟨k.length+1,fun n hn _ _=>by omega⟩
  refine E2.suc ((h1.and h2).mono fun n m ⟨h1,h2⟩ q hq0 hq1=>?_)
  rw[tot_mk] at hq1
  push_cast at hq1
  rw[loop_suc]
  show loopN (Dlaws_heldSolidS_0 n _ (mkL k q).2) n (q,0)=some (mkL k q).1
  exact heldLoop n (loopN (Dlaws_heldSolidS_b n) m) (mkL k q).2 (by rw[mkL_len];exact hb) k 0 n q h1 (by simp) (by omega) h2 hq0 hq1
theorem heldAt{s:Sol}(h:Lens s)(ht:tot s≤1048576):Ev fun n=>∀k:Int,0≤k→k≤900000000→Dlaws_heldSolid n (Sol.mk s.inn s.pl (mkL s.kids k).2) k=some (mkL s.kids k).1 :=
 (heldOk s h ht).ev.mono fun n hn k h0 h1=>by
  have h2:=hn k h0 (by unfold gig;omega)
  have h3:=mkL_fst s.kids k
  unfold Dlaws_heldSolid Dlaws_heldSolidS
  have e:loopN (Dlaws_heldSolidS_b n) n ((mkL s.kids k).2,k)=some (mkL s.kids k).1:=h2
  show ((loopN (Dlaws_heldSolidS_b n) n ((mkL s.kids k).2,k)).bind _)=_
  rw[e,Option.bind_some,decide_eq_false (by omega),frk_f]
end Evl.T
namespace Evl.T
open Go Evl
inductive Mp(f:Pl→Pl):Sol→Sol→Prop
 | leaf {i p}:Mp f (.mk i p []) (.mk i ⟨0,0,0,0⟩ [])
 | node {i p a b x y}:Mp f a x→Mp f b y→Mp f (.mk i p [a,b]) (.mk false (f p) [x,y])
theorem Mp.out{f:Pl→Pl}{s x:Sol}(h:Mp f s x):Tw x∧nod x=nod s:=by
 induction h with
 | leaf=>exact⟨.leaf,by rw[nod_leaf,nod_leaf]⟩
 | node _ _ iha ihb=>exact⟨.node iha.1 ihb.1,by rw[nod2,nod2,iha.2,ihb.2]⟩
theorem Mp.exists{s:Sol}(h:Tw s)(f:Pl→Pl):∃x,Mp f s x:=by
 induction h with
 | leaf=>exact⟨_,.leaf⟩
 | node _ _ iha ihb=>obtain⟨x,hx⟩:=iha;obtain⟨y,hy⟩:=ihb;exact⟨_,.node hx hy⟩
end Evl.T
namespace Evl.T
open Go Evl
theorem ap64{k:Nat}(h:k≤1048576):apB 64 k=true:=by
 simp only[apB,Bool.and_eq_true,decide_eq_true_eq];omega
theorem copyLoop{F:(Int×List Sol→Option Sol)→Int×List Sol→Option Sol}{self:Sol→Option Sol}{l:List Sol}{R:List Sol→Option Sol}(hl:l.length≤1048576)(hs:∀x∈l,self x=some x)
  (hF:∀rec (t:Int) (d:List Sol),F rec (t,d)=frk (decide (t<(l.length:Int))) ((lget l t).bind fun v0=>(self v0).bind fun v1=>chk (apB 64 (d.length+1)) (rec (w64 (t+1),d++[v1]))) (R d)) :
  ∀(r:List Sol) (k m:Nat),l.drop k=r→k≤l.length→r.length<m→loopN F m ((k:Int),l.take k)=R l:=by
 intro r
 induction r with
 | nil =>
  intro k m hr hk hm
  obtain⟨m,rfl⟩:∃j,m=j+1:=⟨m-1,by omega⟩
  have hk:k=l.length:=by have:=List.drop_eq_nil_iff.1 hr;omega
  rw[loop_suc,hF,hk,lt_self,frk_f,List.take_length]
 | cons x r ih =>
  intro k m hr hk hm
  simp only[List.length_cons] at hm
  obtain⟨m,rfl⟩:∃j,m=j+1:=⟨m-1,by omega⟩
  obtain⟨hkl,hx,hr',hmem⟩:=drop_get hr
  have ht:(l.take k).length=k:=by rw[List.length_take];omega
  rw[loop_suc,hF,lt_dec hkl,frk_t,lget_nat,hx,Option.bind_some,hs x hmem,Option.bind_some,chk_eq (ap64 (by rw[ht];omega)),w64_suc (by unfold big;omega)]
  have e:l.take k++[x]=l.take (k+1):=by rw[List.take_add_one,hx];simp
  rw[e]
  exact ih (k+1) m hr' (by omega) (by omega)
theorem sCopy:∀s,tot s≤1048576→E2 fun n m=>loopN (Dspec_l8Copy_b n) m s=some s:=by
 refine sol_ind fun i p k ih hl=>?_
 rw[tot_mk] at hl
 have h1:=E2.all fun x hx=>ih x hx (by have:=tot_le hx;omega)
 have h2:E2 fun n _=>k.length<n:=⟨k.length+1,fun n hn _ _=>by omega⟩
 refine E2.suc ((h1.and h2).mono fun n m ⟨h1,h2⟩=>?_)
 rw[loop_suc]
 exact copyLoop (F:=Dspec_l8Copy_0 n (loopN (Dspec_l8Copy_b n) m) i p.A p.B p.C p.D k false 0 0 0 0 i p.A p.B p.C p.D) (l:=k) (R:=fun d=>some (.mk i p d)) (by omega) h1 (fun _ _ _=>rfl) k 0 n (by simp) (by omega) h2
theorem iCopy:∀s,tot s≤1048576→E2 fun n m=>loopN (Dimpl_copySolid_b n) m s=some s:=by
 refine sol_ind fun i p k ih hl=>?_
 rw[tot_mk] at hl
 have h1:=E2.all fun x hx=>ih x hx (by have:=tot_le hx;omega)
 have h2:E2 fun n _=>k.length<n:=⟨k.length+1,fun n hn _ _=>by omega⟩
 refine E2.suc ((h1.and h2).mono fun n m ⟨h1,h2⟩=>?_)
 rw[loop_suc]
 exact copyLoop (F:=Dimpl_copySolid_0 n (loopN (Dimpl_copySolid_b n) m) k (k.length:Int) false 0 0 0 0 i p.A p.B p.C p.D) (l:=k) (R:=fun d=>some (.mk i p d)) (by omega) h1 (fun _ _ _=>rfl) k 0 n (by simp) (by omega) h2
theorem sCopyE{s:Sol}(h:tot s≤1048576):Ev fun n=>Dspec_l8Copy n s=some s:=(sCopy s h).ev
theorem iCopyE{s:Sol}(h:tot s≤1048576):Ev fun n=>Dimpl_copySolid n s=some s:=(iCopy s h).ev
end Evl.T
namespace Evl.T
open Go Evl
theorem iNodesStep(n:Nat)(self:Sol→Option Int)(i:Bool)(p:Pl)(k:List Sol):Dimpl_Solid_nodes_b n self (.mk i p k)=frk ((k.length:Int)==0) (some 0) ((lget k 0).bind fun v1=>(self v1).bind fun v2=>(lget k 1).bind fun v3=>(self v3).bind fun v4=>some (w64 ((w64 (1+v2))+v4))):=rfl
theorem iNodes{s:Sol}{path:List Pl}(h:Rt s path):nod s≤1000000→E2 fun n m=>loopN (Dimpl_Solid_nodes_b n) m s=some ((nod s:Nat):Int):=by
 induction h with
 | @leaf i p path hz=>intro _;exact E2.suc (E2.of fun n m=>by rw[loop_suc,iNodesStep,nod_leaf];rfl)
 | @node p a b path h1 h2 h3 h4 _ _ iha ihb =>
  intro hn
  rw[nod2] at hn
  refine E2.suc (((iha (by omega)).and (ihb (by omega))).mono fun n m ⟨h1,h2⟩=>?_)
  rw[loop_suc,iNodesStep,show ((([a,b]:List Sol).length:Int)==0)=false from rfl,frk_f]
  show ((some a).bind _)=_
  rw[Option.bind_some,h1,Option.bind_some]
  show ((some b).bind _)=_
  rw[Option.bind_some,h2,Option.bind_some,w64_id (x:=1+((nod a:Nat):Int)) (by omega) (by omega),w64_id (by omega) (by omega),nod2]
  congr 1;omega
end Evl.T
namespace Evl.T
open Go Evl
def zs:Sol:=.mk false ⟨0,0,0,0⟩ []
abbrev S8:=Sol×Sol×Sol×Sol×Sol×Sol×Sol×Sol
abbrev B8:=Bool×Bool×Bool×Bool×Bool×Bool×Bool×Bool
theorem zs_right:Right zs:=⟨.leaf rfl,by unfold zs;rw[nod_leaf];omega⟩
open Classical in
theorem none_iff(s:Sol):Dspec_l20None s=some (decide (s=zs)):=by
 obtain⟨i,p,k⟩:=s
 unfold zs
 show frk (!i) (frk (plEq p ⟨0,0,0,0⟩) (some ((k.length:Int)==0)) (some false)) (some false)=_
 cases i with
 | true=>rw[Bool.not_true,frk_f];simp
 | false =>
  rw[Bool.not_false,frk_t]
  by_cases hp:p=⟨0,0,0,0⟩
  ·subst hp
   rw[(plEq_iff _ _).2 rfl,frk_t]
   cases k with
   | nil=>simp
   | cons x k =>
    have:((((x::k):List Sol).length:Int)==0)=false:=by simp;omega
    rw[this];simp
  ·rw[plEq_no hp,frk_f];simp[hp]
def stI (ok z h:Bool)(rest:Option Bool):Option Bool:=frk (!ok) (some false) (frk (!h) (frk (!z) (some false) rest) rest)
def stS (ok z h:Bool)(rest:Option Bool):Option Bool:=frk h (frk (!ok) (some false) (frk (!h) (frk (!z) (some false) rest) rest)) (frk (!h) (frk (!z) (some false) rest) rest)
theorem stI_eq(ok z h:Bool)(rest:Option Bool):stI ok z h rest=frk (ok&&(h||z)) rest (some false):=by
 cases ok <;> cases z <;> cases h <;> rfl
theorem stS_eq(ok z h:Bool)(rest:Option Bool)(hz:z=true→ok=true):stS ok z h rest=frk (ok&&(h||z)) rest (some false):=by
 cases ok <;> cases z <;> cases h <;> first | rfl | (have:=hz rfl;cases this)
theorem frk_congr{b:Bool}{x y z:Option Bool}(h:b=true→x=y):frk b x z=frk b y z:=by
 cases b
 ·rfl
 ·exact h rfl
theorem stepSz{f rest:Int→Option Int}{t:Nat}{Q:Prop}(hA:∀left,0≤left→left≤mil→f left=some (szv t left))(hB:∀left,0≤left→left≤mil→∃v,rest left=some v∧(v<0∨Q)) :
  ∀left,0≤left→left≤mil→∃v,((f left).bind fun v0=>frk (decide (v0<0)) (some (-1)) (rest v0))=some v∧(v<0∨(t≤1048576∧Q)):=by
 intro left h0 h1
 unfold mil at h1
 rw[hA left h0 h1,Option.bind_some]
 by_cases hc:(t:Int)≤left
 ·rw[szv_yes hc,decide_eq_false (by omega),frk_f]
  obtain⟨v,e,h⟩:=hB (left-t) (by omega) (by unfold mil;omega)
  exact⟨v,e,h.imp id fun h=>⟨by omega,h⟩⟩
 ·rw[szv_no hc];exact⟨-1,rfl,.inl (by omega)⟩
theorem szAll(s:Sol)(h:Lens s):Ev fun n=>∀left:Int,0≤left→left≤mil→Dlaws_szSolid n s left=some (szv (tot s) left):=(szOk s h).ev
open Classical in
theorem iNodesR(s:Sol):Ev fun n=>Right s→Dimpl_Solid_nodes n s=some ((nod s:Nat):Int):=by
 by_cases h:Right s
 ·exact((iNodes h.1 (by have:=h.2;omega)).ev).mono fun n e _=>e
 ·exact Ev.of fun n h'=>absurd h' h
open Classical in
noncomputable def rt(s:Sol):Bool:=decide (Right s)
open Classical in
noncomputable def isz(s:Sol):Bool:=decide (s=zs)
theorem rt_iff{s:Sol}:rt s=true↔Right s:=by unfold rt;simp
theorem isz_rt{s:Sol}(h:isz s=true):rt s=true:=by
 unfold isz at h;simp only[decide_eq_true_eq] at h;subst h;exact rt_iff.2 zs_right
theorem none_eq(s:Sol):Dspec_l20None s=some (isz s):=none_iff s
def Desk8(d:S8×B8):Prop:=Lens d.1.1∧Lens d.1.2.1∧Lens d.1.2.2.1∧Lens d.1.2.2.2.1∧Lens d.1.2.2.2.2.1∧Lens d.1.2.2.2.2.2.1∧Lens d.1.2.2.2.2.2.2.1∧Lens d.1.2.2.2.2.2.2.2
structure DF(n:Nat)(d:S8×B8):Prop where
 sz1:∀left:Int,0≤left→left≤mil→Dlaws_szSolid n d.1.1 left=some (szv (tot d.1.1) left)
 sok1:Dspec_SolidOk n d.1.1=some (rt d.1.1)
 iok1:Dimpl_SolidOk n d.1.1=some (rt d.1.1)
 cn1:Dspec_l8Count n d.1.1 301=some (cnv (nod d.1.1) 301)
 nd1:Right d.1.1→Dimpl_Solid_nodes n d.1.1=some ((nod d.1.1:Nat):Int)
 sm1:Dimpl_SameTree n d.1.1 zs=some (isz d.1.1)
 sz2:∀left:Int,0≤left→left≤mil→Dlaws_szSolid n d.1.2.1 left=some (szv (tot d.1.2.1) left)
 sok2:Dspec_SolidOk n d.1.2.1=some (rt d.1.2.1)
 iok2:Dimpl_SolidOk n d.1.2.1=some (rt d.1.2.1)
 cn2:Dspec_l8Count n d.1.2.1 301=some (cnv (nod d.1.2.1) 301)
 nd2:Right d.1.2.1→Dimpl_Solid_nodes n d.1.2.1=some ((nod d.1.2.1:Nat):Int)
 sm2:Dimpl_SameTree n d.1.2.1 zs=some (isz d.1.2.1)
 sz3:∀left:Int,0≤left→left≤mil→Dlaws_szSolid n d.1.2.2.1 left=some (szv (tot d.1.2.2.1) left)
 sok3:Dspec_SolidOk n d.1.2.2.1=some (rt d.1.2.2.1)
 iok3:Dimpl_SolidOk n d.1.2.2.1=some (rt d.1.2.2.1)
 cn3:Dspec_l8Count n d.1.2.2.1 301=some (cnv (nod d.1.2.2.1) 301)
 nd3:Right d.1.2.2.1→Dimpl_Solid_nodes n d.1.2.2.1=some ((nod d.1.2.2.1:Nat):Int)
 sm3:Dimpl_SameTree n d.1.2.2.1 zs=some (isz d.1.2.2.1)
 sz4:∀left:Int,0≤left→left≤mil→Dlaws_szSolid n d.1.2.2.2.1 left=some (szv (tot d.1.2.2.2.1) left)
 sok4:Dspec_SolidOk n d.1.2.2.2.1=some (rt d.1.2.2.2.1)
 iok4:Dimpl_SolidOk n d.1.2.2.2.1=some (rt d.1.2.2.2.1)
 cn4:Dspec_l8Count n d.1.2.2.2.1 301=some (cnv (nod d.1.2.2.2.1) 301)
 nd4:Right d.1.2.2.2.1→Dimpl_Solid_nodes n d.1.2.2.2.1=some ((nod d.1.2.2.2.1:Nat):Int)
 sm4:Dimpl_SameTree n d.1.2.2.2.1 zs=some (isz d.1.2.2.2.1)
 sz5:∀left:Int,0≤left→left≤mil→Dlaws_szSolid n d.1.2.2.2.2.1 left=some (szv (tot d.1.2.2.2.2.1) left)
 sok5:Dspec_SolidOk n d.1.2.2.2.2.1=some (rt d.1.2.2.2.2.1)
 iok5:Dimpl_SolidOk n d.1.2.2.2.2.1=some (rt d.1.2.2.2.2.1)
 cn5:Dspec_l8Count n d.1.2.2.2.2.1 301=some (cnv (nod d.1.2.2.2.2.1) 301)
 nd5:Right d.1.2.2.2.2.1→Dimpl_Solid_nodes n d.1.2.2.2.2.1=some ((nod d.1.2.2.2.2.1:Nat):Int)
 sm5:Dimpl_SameTree n d.1.2.2.2.2.1 zs=some (isz d.1.2.2.2.2.1)
 sz6:∀left:Int,0≤left→left≤mil→Dlaws_szSolid n d.1.2.2.2.2.2.1 left=some (szv (tot d.1.2.2.2.2.2.1) left)
 sok6:Dspec_SolidOk n d.1.2.2.2.2.2.1=some (rt d.1.2.2.2.2.2.1)
 iok6:Dimpl_SolidOk n d.1.2.2.2.2.2.1=some (rt d.1.2.2.2.2.2.1)
 cn6:Dspec_l8Count n d.1.2.2.2.2.2.1 301=some (cnv (nod d.1.2.2.2.2.2.1) 301)
 nd6:Right d.1.2.2.2.2.2.1→Dimpl_Solid_nodes n d.1.2.2.2.2.2.1=some ((nod d.1.2.2.2.2.2.1:Nat):Int)
 sm6:Dimpl_SameTree n d.1.2.2.2.2.2.1 zs=some (isz d.1.2.2.2.2.2.1)
 sz7:∀left:Int,0≤left→left≤mil→Dlaws_szSolid n d.1.2.2.2.2.2.2.1 left=some (szv (tot d.1.2.2.2.2.2.2.1) left)
 sok7:Dspec_SolidOk n d.1.2.2.2.2.2.2.1=some (rt d.1.2.2.2.2.2.2.1)
 iok7:Dimpl_SolidOk n d.1.2.2.2.2.2.2.1=some (rt d.1.2.2.2.2.2.2.1)
 cn7:Dspec_l8Count n d.1.2.2.2.2.2.2.1 301=some (cnv (nod d.1.2.2.2.2.2.2.1) 301)
 nd7:Right d.1.2.2.2.2.2.2.1→Dimpl_Solid_nodes n d.1.2.2.2.2.2.2.1=some ((nod d.1.2.2.2.2.2.2.1:Nat):Int)
 sm7:Dimpl_SameTree n d.1.2.2.2.2.2.2.1 zs=some (isz d.1.2.2.2.2.2.2.1)
 sz8:∀left:Int,0≤left→left≤mil→Dlaws_szSolid n d.1.2.2.2.2.2.2.2 left=some (szv (tot d.1.2.2.2.2.2.2.2) left)
 sok8:Dspec_SolidOk n d.1.2.2.2.2.2.2.2=some (rt d.1.2.2.2.2.2.2.2)
 iok8:Dimpl_SolidOk n d.1.2.2.2.2.2.2.2=some (rt d.1.2.2.2.2.2.2.2)
 cn8:Dspec_l8Count n d.1.2.2.2.2.2.2.2 301=some (cnv (nod d.1.2.2.2.2.2.2.2) 301)
 nd8:Right d.1.2.2.2.2.2.2.2→Dimpl_Solid_nodes n d.1.2.2.2.2.2.2.2=some ((nod d.1.2.2.2.2.2.2.2:Nat):Int)
 sm8:Dimpl_SameTree n d.1.2.2.2.2.2.2.2 zs=some (isz d.1.2.2.2.2.2.2.2)
theorem DF.ev(d:S8×B8)(h:Desk8 d):Ev fun n=>DF n d:=by
 obtain⟨h1,h2,h3,h4,h5,h6,h7,h8⟩:=h
 have q1:=(szAll _ h1).and ((sSolidOk _ h1).and ((iSolidOk d.1.1).and ((cnt _ h1).and ((iNodesR d.1.1).and ((iSame _ h1).ev)))))
 have q2:=(szAll _ h2).and ((sSolidOk _ h2).and ((iSolidOk d.1.2.1).and ((cnt _ h2).and ((iNodesR d.1.2.1).and ((iSame _ h2).ev)))))
 have q3:=(szAll _ h3).and ((sSolidOk _ h3).and ((iSolidOk d.1.2.2.1).and ((cnt _ h3).and ((iNodesR d.1.2.2.1).and ((iSame _ h3).ev)))))
 have q4:=(szAll _ h4).and ((sSolidOk _ h4).and ((iSolidOk d.1.2.2.2.1).and ((cnt _ h4).and ((iNodesR d.1.2.2.2.1).and ((iSame _ h4).ev)))))
 have q5:=(szAll _ h5).and ((sSolidOk _ h5).and ((iSolidOk d.1.2.2.2.2.1).and ((cnt _ h5).and ((iNodesR d.1.2.2.2.2.1).and ((iSame _ h5).ev)))))
 have q6:=(szAll _ h6).and ((sSolidOk _ h6).and ((iSolidOk d.1.2.2.2.2.2.1).and ((cnt _ h6).and ((iNodesR d.1.2.2.2.2.2.1).and ((iSame _ h6).ev)))))
 have q7:=(szAll _ h7).and ((sSolidOk _ h7).and ((iSolidOk d.1.2.2.2.2.2.2.1).and ((cnt _ h7).and ((iNodesR d.1.2.2.2.2.2.2.1).and ((iSame _ h7).ev)))))
 have q8:=(szAll _ h8).and ((sSolidOk _ h8).and ((iSolidOk d.1.2.2.2.2.2.2.2).and ((cnt _ h8).and ((iNodesR d.1.2.2.2.2.2.2.2).and ((iSame _ h8).ev)))))
 refine(q1.and (q2.and (q3.and (q4.and (q5.and (q6.and (q7.and (q8)))))))).mono fun n ⟨e1,e2,e3,e4,e5,e6,e7,e8⟩=>?_
 exact⟨e1.1,e1.2.1,e1.2.2.1,e1.2.2.2.1,e1.2.2.2.2.1,e1.2.2.2.2.2 zs,e2.1,e2.2.1,e2.2.2.1,e2.2.2.2.1,e2.2.2.2.2.1,e2.2.2.2.2.2 zs,e3.1,e3.2.1,e3.2.2.1,e3.2.2.2.1,e3.2.2.2.2.1,e3.2.2.2.2.2 zs,e4.1,e4.2.1,e4.2.2.1,e4.2.2.2.1,e4.2.2.2.2.1,e4.2.2.2.2.2 zs,e5.1,e5.2.1,e5.2.2.1,e5.2.2.2.1,e5.2.2.2.2.1,e5.2.2.2.2.2 zs,e6.1,e6.2.1,e6.2.2.1,e6.2.2.2.1,e6.2.2.2.2.1,e6.2.2.2.2.2 zs,e7.1,e7.2.1,e7.2.2.1,e7.2.2.2.1,e7.2.2.2.2.1,e7.2.2.2.2.2 zs,e8.1,e8.2.1,e8.2.2.1,e8.2.2.2.1,e8.2.2.2.2.1,e8.2.2.2.2.2 zs⟩
theorem szDesk{n:Nat}{d:S8×B8}(F:DF n d):∃v,Dlaws_szDesk n d 1048576=some v∧(v<0∨(tot d.1.1≤1048576∧tot d.1.2.1≤1048576∧tot d.1.2.2.1≤1048576∧tot d.1.2.2.2.1≤1048576∧tot d.1.2.2.2.2.1≤1048576∧tot d.1.2.2.2.2.2.1≤1048576∧tot d.1.2.2.2.2.2.2.1≤1048576∧tot d.1.2.2.2.2.2.2.2≤1048576∧True)):=by
 have h:∃v,Dlaws_szSolidA8 n d.1 1048576=some v∧(v<0∨(tot d.1.1≤1048576∧tot d.1.2.1≤1048576∧tot d.1.2.2.1≤1048576∧tot d.1.2.2.2.1≤1048576∧tot d.1.2.2.2.2.1≤1048576∧tot d.1.2.2.2.2.2.1≤1048576∧tot d.1.2.2.2.2.2.2.1≤1048576∧tot d.1.2.2.2.2.2.2.2≤1048576∧True)):=by
  exact(stepSz F.sz1 (stepSz F.sz2 (stepSz F.sz3 (stepSz F.sz4 (stepSz F.sz5 (stepSz F.sz6 (stepSz F.sz7 (stepSz F.sz8 (fun left _ _=>⟨left,rfl,.inr trivial⟩))))))))) 1048576 (by decide) (by decide)
 obtain⟨v,e,hv⟩:=h
 unfold Dlaws_szDesk
 rw[e,Option.bind_some]
 by_cases hc:v<0
 ·rw[decide_eq_true hc,frk_t];exact⟨-1,rfl,.inl (by omega)⟩
 ·rw[decide_eq_false hc,frk_f];exact⟨v,rfl,hv⟩
theorem iChain{n:Nat}{d:S8×B8}(F:DF n d):Dimpl_DeskOk n d=frk (rt d.1.1&&(d.2.1||isz d.1.1)) (frk (rt d.1.2.1&&(d.2.2.1||isz d.1.2.1)) (frk (rt d.1.2.2.1&&(d.2.2.2.1||isz d.1.2.2.1)) (frk (rt d.1.2.2.2.1&&(d.2.2.2.2.1||isz d.1.2.2.2.1)) (frk (rt d.1.2.2.2.2.1&&(d.2.2.2.2.2.1||isz d.1.2.2.2.2.1)) (frk (rt d.1.2.2.2.2.2.1&&(d.2.2.2.2.2.2.1||isz d.1.2.2.2.2.2.1)) (frk (rt d.1.2.2.2.2.2.2.1&&(d.2.2.2.2.2.2.2.1||isz d.1.2.2.2.2.2.2.1)) (frk (rt d.1.2.2.2.2.2.2.2&&(d.2.2.2.2.2.2.2.2||isz d.1.2.2.2.2.2.2.2)) ((Dimpl_Desk_held n d).bind fun v=>some (decide (v≤900))) (some false)) (some false)) (some false)) (some false)) (some false)) (some false)) (some false)) (some false):=by
 have e8:Dimpl_DeskOk_9 n d=frk (rt d.1.2.2.2.2.2.2.2&&(d.2.2.2.2.2.2.2.2||isz d.1.2.2.2.2.2.2.2)) (Dimpl_DeskOk_8 n d) (some false):=by
  rw[←stI_eq]
  unfold Dimpl_DeskOk_9
  show (Dimpl_SolidOk n d.1.2.2.2.2.2.2.2).bind _=_
  rw[F.iok8,Option.bind_some]
  show frk _ _ (frk _ ((Dimpl_SameTree n d.1.2.2.2.2.2.2.2 zs).bind _) _)=_
  rw[F.sm8,Option.bind_some]
  rfl
 have e7:Dimpl_DeskOk_10 n d=frk (rt d.1.2.2.2.2.2.2.1&&(d.2.2.2.2.2.2.2.1||isz d.1.2.2.2.2.2.2.1)) (Dimpl_DeskOk_9 n d) (some false):=by
  rw[←stI_eq]
  unfold Dimpl_DeskOk_10
  show (Dimpl_SolidOk n d.1.2.2.2.2.2.2.1).bind _=_
  rw[F.iok7,Option.bind_some]
  show frk _ _ (frk _ ((Dimpl_SameTree n d.1.2.2.2.2.2.2.1 zs).bind _) _)=_
  rw[F.sm7,Option.bind_some]
  rfl
 have e6:Dimpl_DeskOk_11 n d=frk (rt d.1.2.2.2.2.2.1&&(d.2.2.2.2.2.2.1||isz d.1.2.2.2.2.2.1)) (Dimpl_DeskOk_10 n d) (some false):=by
  rw[←stI_eq]
  unfold Dimpl_DeskOk_11
  show (Dimpl_SolidOk n d.1.2.2.2.2.2.1).bind _=_
  rw[F.iok6,Option.bind_some]
  show frk _ _ (frk _ ((Dimpl_SameTree n d.1.2.2.2.2.2.1 zs).bind _) _)=_
  rw[F.sm6,Option.bind_some]
  rfl
 have e5:Dimpl_DeskOk_12 n d=frk (rt d.1.2.2.2.2.1&&(d.2.2.2.2.2.1||isz d.1.2.2.2.2.1)) (Dimpl_DeskOk_11 n d) (some false):=by
  rw[←stI_eq]
  unfold Dimpl_DeskOk_12
  show (Dimpl_SolidOk n d.1.2.2.2.2.1).bind _=_
  rw[F.iok5,Option.bind_some]
  show frk _ _ (frk _ ((Dimpl_SameTree n d.1.2.2.2.2.1 zs).bind _) _)=_
  rw[F.sm5,Option.bind_some]
  rfl
 have e4:Dimpl_DeskOk_13 n d=frk (rt d.1.2.2.2.1&&(d.2.2.2.2.1||isz d.1.2.2.2.1)) (Dimpl_DeskOk_12 n d) (some false):=by
  rw[←stI_eq]
  unfold Dimpl_DeskOk_13
  show (Dimpl_SolidOk n d.1.2.2.2.1).bind _=_
  rw[F.iok4,Option.bind_some]
  show frk _ _ (frk _ ((Dimpl_SameTree n d.1.2.2.2.1 zs).bind _) _)=_
  rw[F.sm4,Option.bind_some]
  rfl
 have e3:Dimpl_DeskOk_14 n d=frk (rt d.1.2.2.1&&(d.2.2.2.1||isz d.1.2.2.1)) (Dimpl_DeskOk_13 n d) (some false):=by
  rw[←stI_eq]
  unfold Dimpl_DeskOk_14
  show (Dimpl_SolidOk n d.1.2.2.1).bind _=_
  rw[F.iok3,Option.bind_some]
  show frk _ _ (frk _ ((Dimpl_SameTree n d.1.2.2.1 zs).bind _) _)=_
  rw[F.sm3,Option.bind_some]
  rfl
 have e2:Dimpl_DeskOk_15 n d=frk (rt d.1.2.1&&(d.2.2.1||isz d.1.2.1)) (Dimpl_DeskOk_14 n d) (some false):=by
  rw[←stI_eq]
  unfold Dimpl_DeskOk_15
  show (Dimpl_SolidOk n d.1.2.1).bind _=_
  rw[F.iok2,Option.bind_some]
  show frk _ _ (frk _ ((Dimpl_SameTree n d.1.2.1 zs).bind _) _)=_
  rw[F.sm2,Option.bind_some]
  rfl
 have e1:Dimpl_DeskOk n d=frk (rt d.1.1&&(d.2.1||isz d.1.1)) (Dimpl_DeskOk_15 n d) (some false):=by
  rw[←stI_eq]
  unfold Dimpl_DeskOk
  show (Dimpl_SolidOk n d.1.1).bind _=_
  rw[F.iok1,Option.bind_some]
  show frk _ _ (frk _ ((Dimpl_SameTree n d.1.1 zs).bind _) _)=_
  rw[F.sm1,Option.bind_some]
  rfl
 rw[e1,e2,e3,e4,e5,e6,e7,e8]
 rfl
theorem sChain{n:Nat}{d:S8×B8}(F:DF n d):Dspec_DeskOk n d=frk (rt d.1.1&&(d.2.1||isz d.1.1)) (frk (rt d.1.2.1&&(d.2.2.1||isz d.1.2.1)) (frk (rt d.1.2.2.1&&(d.2.2.2.1||isz d.1.2.2.1)) (frk (rt d.1.2.2.2.1&&(d.2.2.2.2.1||isz d.1.2.2.2.1)) (frk (rt d.1.2.2.2.2.1&&(d.2.2.2.2.2.1||isz d.1.2.2.2.2.1)) (frk (rt d.1.2.2.2.2.2.1&&(d.2.2.2.2.2.2.1||isz d.1.2.2.2.2.2.1)) (frk (rt d.1.2.2.2.2.2.2.1&&(d.2.2.2.2.2.2.2.1||isz d.1.2.2.2.2.2.2.1)) (frk (rt d.1.2.2.2.2.2.2.2&&(d.2.2.2.2.2.2.2.2||isz d.1.2.2.2.2.2.2.2)) (some (decide ((w64 ((w64 ((w64 ((w64 ((w64 ((w64 ((w64 ((w64 (0+cnv (nod d.1.1) 301))+cnv (nod d.1.2.1) 301))+cnv (nod d.1.2.2.1) 301))+cnv (nod d.1.2.2.2.1) 301))+cnv (nod d.1.2.2.2.2.1) 301))+cnv (nod d.1.2.2.2.2.2.1) 301))+cnv (nod d.1.2.2.2.2.2.2.1) 301))+cnv (nod d.1.2.2.2.2.2.2.2) 301))≤900))) (some false)) (some false)) (some false)) (some false)) (some false)) (some false)) (some false)) (some false):=by
 have e9:Dspec_DeskOk_8 n (w64 ((w64 ((w64 ((w64 ((w64 ((w64 ((w64 (0+cnv (nod d.1.1) 301))+cnv (nod d.1.2.1) 301))+cnv (nod d.1.2.2.1) 301))+cnv (nod d.1.2.2.2.1) 301))+cnv (nod d.1.2.2.2.2.1) 301))+cnv (nod d.1.2.2.2.2.2.1) 301))+cnv (nod d.1.2.2.2.2.2.2.1) 301)) d=some (decide ((w64 ((w64 ((w64 ((w64 ((w64 ((w64 ((w64 ((w64 (0+cnv (nod d.1.1) 301))+cnv (nod d.1.2.1) 301))+cnv (nod d.1.2.2.1) 301))+cnv (nod d.1.2.2.2.1) 301))+cnv (nod d.1.2.2.2.2.1) 301))+cnv (nod d.1.2.2.2.2.2.1) 301))+cnv (nod d.1.2.2.2.2.2.2.1) 301))+cnv (nod d.1.2.2.2.2.2.2.2) 301))≤900)):=by
  unfold Dspec_DeskOk_8
  rw[F.cn8,Option.bind_some]
 have e8:Dspec_DeskOk_9 n (w64 ((w64 ((w64 ((w64 ((w64 ((w64 (0+cnv (nod d.1.1) 301))+cnv (nod d.1.2.1) 301))+cnv (nod d.1.2.2.1) 301))+cnv (nod d.1.2.2.2.1) 301))+cnv (nod d.1.2.2.2.2.1) 301))+cnv (nod d.1.2.2.2.2.2.1) 301)) d=frk (rt d.1.2.2.2.2.2.2.2&&(d.2.2.2.2.2.2.2.2||isz d.1.2.2.2.2.2.2.2)) (Dspec_DeskOk_8 n (w64 ((w64 ((w64 ((w64 ((w64 ((w64 ((w64 (0+cnv (nod d.1.1) 301))+cnv (nod d.1.2.1) 301))+cnv (nod d.1.2.2.1) 301))+cnv (nod d.1.2.2.2.1) 301))+cnv (nod d.1.2.2.2.2.1) 301))+cnv (nod d.1.2.2.2.2.2.1) 301))+cnv (nod d.1.2.2.2.2.2.2.1) 301)) d) (some false):=by
  rw[←stS_eq _ _ _ _ isz_rt]
  unfold Dspec_DeskOk_9
  rw[F.cn7,Option.bind_some]
  rw[F.sok8,none_eq]
  simp only[Option.bind_some]
  rfl
 have e7:Dspec_DeskOk_10 n (w64 ((w64 ((w64 ((w64 ((w64 (0+cnv (nod d.1.1) 301))+cnv (nod d.1.2.1) 301))+cnv (nod d.1.2.2.1) 301))+cnv (nod d.1.2.2.2.1) 301))+cnv (nod d.1.2.2.2.2.1) 301)) d=frk (rt d.1.2.2.2.2.2.2.1&&(d.2.2.2.2.2.2.2.1||isz d.1.2.2.2.2.2.2.1)) (Dspec_DeskOk_9 n (w64 ((w64 ((w64 ((w64 ((w64 ((w64 (0+cnv (nod d.1.1) 301))+cnv (nod d.1.2.1) 301))+cnv (nod d.1.2.2.1) 301))+cnv (nod d.1.2.2.2.1) 301))+cnv (nod d.1.2.2.2.2.1) 301))+cnv (nod d.1.2.2.2.2.2.1) 301)) d) (some false):=by
  rw[←stS_eq _ _ _ _ isz_rt]
  unfold Dspec_DeskOk_10
  rw[F.cn6,Option.bind_some]
  rw[F.sok7,none_eq]
  simp only[Option.bind_some]
  rfl
 have e6:Dspec_DeskOk_11 n (w64 ((w64 ((w64 ((w64 (0+cnv (nod d.1.1) 301))+cnv (nod d.1.2.1) 301))+cnv (nod d.1.2.2.1) 301))+cnv (nod d.1.2.2.2.1) 301)) d=frk (rt d.1.2.2.2.2.2.1&&(d.2.2.2.2.2.2.1||isz d.1.2.2.2.2.2.1)) (Dspec_DeskOk_10 n (w64 ((w64 ((w64 ((w64 ((w64 (0+cnv (nod d.1.1) 301))+cnv (nod d.1.2.1) 301))+cnv (nod d.1.2.2.1) 301))+cnv (nod d.1.2.2.2.1) 301))+cnv (nod d.1.2.2.2.2.1) 301)) d) (some false):=by
  rw[←stS_eq _ _ _ _ isz_rt]
  unfold Dspec_DeskOk_11
  rw[F.cn5,Option.bind_some]
  rw[F.sok6,none_eq]
  simp only[Option.bind_some]
  rfl
 have e5:Dspec_DeskOk_12 n (w64 ((w64 ((w64 (0+cnv (nod d.1.1) 301))+cnv (nod d.1.2.1) 301))+cnv (nod d.1.2.2.1) 301)) d=frk (rt d.1.2.2.2.2.1&&(d.2.2.2.2.2.1||isz d.1.2.2.2.2.1)) (Dspec_DeskOk_11 n (w64 ((w64 ((w64 ((w64 (0+cnv (nod d.1.1) 301))+cnv (nod d.1.2.1) 301))+cnv (nod d.1.2.2.1) 301))+cnv (nod d.1.2.2.2.1) 301)) d) (some false):=by
  rw[←stS_eq _ _ _ _ isz_rt]
  unfold Dspec_DeskOk_12
  rw[F.cn4,Option.bind_some]
  rw[F.sok5,none_eq]
  simp only[Option.bind_some]
  rfl
 have e4:Dspec_DeskOk_13 n (w64 ((w64 (0+cnv (nod d.1.1) 301))+cnv (nod d.1.2.1) 301)) d=frk (rt d.1.2.2.2.1&&(d.2.2.2.2.1||isz d.1.2.2.2.1)) (Dspec_DeskOk_12 n (w64 ((w64 ((w64 (0+cnv (nod d.1.1) 301))+cnv (nod d.1.2.1) 301))+cnv (nod d.1.2.2.1) 301)) d) (some false):=by
  rw[←stS_eq _ _ _ _ isz_rt]
  unfold Dspec_DeskOk_13
  rw[F.cn3,Option.bind_some]
  rw[F.sok4,none_eq]
  simp only[Option.bind_some]
  rfl
 have e3:Dspec_DeskOk_14 n (w64 (0+cnv (nod d.1.1) 301)) d=frk (rt d.1.2.2.1&&(d.2.2.2.1||isz d.1.2.2.1)) (Dspec_DeskOk_13 n (w64 ((w64 (0+cnv (nod d.1.1) 301))+cnv (nod d.1.2.1) 301)) d) (some false):=by
  rw[←stS_eq _ _ _ _ isz_rt]
  unfold Dspec_DeskOk_14
  rw[F.cn2,Option.bind_some]
  rw[F.sok3,none_eq]
  simp only[Option.bind_some]
  rfl
 have e2:Dspec_DeskOk_15 n d=frk (rt d.1.2.1&&(d.2.2.1||isz d.1.2.1)) (Dspec_DeskOk_14 n (w64 (0+cnv (nod d.1.1) 301)) d) (some false):=by
  rw[←stS_eq _ _ _ _ isz_rt]
  unfold Dspec_DeskOk_15
  rw[F.cn1,Option.bind_some]
  rw[F.sok2,none_eq]
  simp only[Option.bind_some]
  rfl
 have e1:Dspec_DeskOk n d=frk (rt d.1.1&&(d.2.1||isz d.1.1)) (Dspec_DeskOk_15 n d) (some false):=by
  rw[←stS_eq _ _ _ _ isz_rt]
  unfold Dspec_DeskOk
  rw[F.sok1,none_eq]
  simp only[Option.bind_some]
  rfl
 rw[e1,e2,e3,e4,e5,e6,e7,e8,e9]
theorem deskHeldOk{n:Nat}{d:S8×B8}(F:DF n d)(h1:Right d.1.1)(h2:Right d.1.2.1)(h3:Right d.1.2.2.1)(h4:Right d.1.2.2.2.1)(h5:Right d.1.2.2.2.2.1)(h6:Right d.1.2.2.2.2.2.1)(h7:Right d.1.2.2.2.2.2.2.1)(h8:Right d.1.2.2.2.2.2.2.2):Dimpl_Desk_held n d=some (w64 ((w64 ((w64 ((w64 ((w64 ((w64 ((w64 ((w64 (0+cnv (nod d.1.1) 301))+cnv (nod d.1.2.1) 301))+cnv (nod d.1.2.2.1) 301))+cnv (nod d.1.2.2.2.1) 301))+cnv (nod d.1.2.2.2.2.1) 301))+cnv (nod d.1.2.2.2.2.2.1) 301))+cnv (nod d.1.2.2.2.2.2.2.1) 301))+cnv (nod d.1.2.2.2.2.2.2.2) 301)):=by
 unfold Dimpl_Desk_held
 rw[F.nd1 h1,Option.bind_some,F.nd2 h2,Option.bind_some,F.nd3 h3,Option.bind_some,F.nd4 h4,Option.bind_some,F.nd5 h5,Option.bind_some,F.nd6 h6,Option.bind_some,F.nd7 h7,Option.bind_some,F.nd8 h8,Option.bind_some]
 have c1:=h1.2
 have c2:=h2.2
 have c3:=h3.2
 have c4:=h4.2
 have c5:=h5.2
 have c6:=h6.2
 have c7:=h7.2
 have c8:=h8.2
 rw[cnv_yes (t:=nod d.1.1) (left:=301) (by omega),cnv_yes (t:=nod d.1.2.1) (left:=301) (by omega),cnv_yes (t:=nod d.1.2.2.1) (left:=301) (by omega),cnv_yes (t:=nod d.1.2.2.2.1) (left:=301) (by omega),cnv_yes (t:=nod d.1.2.2.2.2.1) (left:=301) (by omega),cnv_yes (t:=nod d.1.2.2.2.2.2.1) (left:=301) (by omega),cnv_yes (t:=nod d.1.2.2.2.2.2.2.1) (left:=301) (by omega),cnv_yes (t:=nod d.1.2.2.2.2.2.2.2) (left:=301) (by omega)]
theorem good{s:Sol}{h:Bool}(g:(rt s&&(h||isz s))=true):Right s:=by
 simp only[Bool.and_eq_true] at g;exact rt_iff.1 g.1
theorem deskEq{n:Nat}{d:S8×B8}(F:DF n d):Dimpl_DeskOk n d=Dspec_DeskOk n d:=by
 rw[iChain F,sChain F]
 refine frk_congr fun g1=>frk_congr fun g2=>frk_congr fun g3=>frk_congr fun g4=>frk_congr fun g5=>frk_congr fun g6=>frk_congr fun g7=>frk_congr fun g8=>?_
 rw[deskHeldOk F (good g1) (good g2) (good g3) (good g4) (good g5) (good g6) (good g7) (good g8),Option.bind_some]
theorem deskSome{n:Nat}{d:S8×B8}(F:DF n d):∃r,Dspec_DeskOk n d=some r∧(r=true→Right d.1.1∧Right d.1.2.1∧Right d.1.2.2.1∧Right d.1.2.2.2.1∧Right d.1.2.2.2.2.1∧Right d.1.2.2.2.2.2.1∧Right d.1.2.2.2.2.2.2.1∧Right d.1.2.2.2.2.2.2.2):=by
 rw[sChain F]
 cases g1:(rt d.1.1&&(d.2.1||isz d.1.1)) with
 | false=>exact⟨false,rfl,fun h=>by cases h⟩
 | true =>
  cases g2:(rt d.1.2.1&&(d.2.2.1||isz d.1.2.1)) with
  | false=>exact⟨false,rfl,fun h=>by cases h⟩
  | true =>
   cases g3:(rt d.1.2.2.1&&(d.2.2.2.1||isz d.1.2.2.1)) with
   | false=>exact⟨false,rfl,fun h=>by cases h⟩
   | true =>
    cases g4:(rt d.1.2.2.2.1&&(d.2.2.2.2.1||isz d.1.2.2.2.1)) with
    | false=>exact⟨false,rfl,fun h=>by cases h⟩
    | true =>
     cases g5:(rt d.1.2.2.2.2.1&&(d.2.2.2.2.2.1||isz d.1.2.2.2.2.1)) with
     | false=>exact⟨false,rfl,fun h=>by cases h⟩
     | true =>
      cases g6:(rt d.1.2.2.2.2.2.1&&(d.2.2.2.2.2.2.1||isz d.1.2.2.2.2.2.1)) with
      | false=>exact⟨false,rfl,fun h=>by cases h⟩
      | true =>
       cases g7:(rt d.1.2.2.2.2.2.2.1&&(d.2.2.2.2.2.2.2.1||isz d.1.2.2.2.2.2.2.1)) with
       | false=>exact⟨false,rfl,fun h=>by cases h⟩
       | true =>
        cases g8:(rt d.1.2.2.2.2.2.2.2&&(d.2.2.2.2.2.2.2.2||isz d.1.2.2.2.2.2.2.2)) with
        | false=>exact⟨false,rfl,fun h=>by cases h⟩
        | true =>
         exact⟨_,rfl,fun _=>⟨good g1,good g2,good g3,good g4,good g5,good g6,good g7,good g8⟩⟩
structure DG(n:Nat)(d:S8×B8):Prop where
 to1:Dlaws_toSolid n d.1.1=some d.1.1
 eq1:Dlaws_eqSolid n d.1.1 d.1.1=some true
 to2:Dlaws_toSolid n d.1.2.1=some d.1.2.1
 eq2:Dlaws_eqSolid n d.1.2.1 d.1.2.1=some true
 to3:Dlaws_toSolid n d.1.2.2.1=some d.1.2.2.1
 eq3:Dlaws_eqSolid n d.1.2.2.1 d.1.2.2.1=some true
 to4:Dlaws_toSolid n d.1.2.2.2.1=some d.1.2.2.2.1
 eq4:Dlaws_eqSolid n d.1.2.2.2.1 d.1.2.2.2.1=some true
 to5:Dlaws_toSolid n d.1.2.2.2.2.1=some d.1.2.2.2.2.1
 eq5:Dlaws_eqSolid n d.1.2.2.2.2.1 d.1.2.2.2.2.1=some true
 to6:Dlaws_toSolid n d.1.2.2.2.2.2.1=some d.1.2.2.2.2.2.1
 eq6:Dlaws_eqSolid n d.1.2.2.2.2.2.1 d.1.2.2.2.2.2.1=some true
 to7:Dlaws_toSolid n d.1.2.2.2.2.2.2.1=some d.1.2.2.2.2.2.2.1
 eq7:Dlaws_eqSolid n d.1.2.2.2.2.2.2.1 d.1.2.2.2.2.2.2.1=some true
 to8:Dlaws_toSolid n d.1.2.2.2.2.2.2.2=some d.1.2.2.2.2.2.2.2
 eq8:Dlaws_eqSolid n d.1.2.2.2.2.2.2.2 d.1.2.2.2.2.2.2.2=some true
theorem DG.ev(d:S8×B8)(h1:tot d.1.1≤1048576)(h2:tot d.1.2.1≤1048576)(h3:tot d.1.2.2.1≤1048576)(h4:tot d.1.2.2.2.1≤1048576)(h5:tot d.1.2.2.2.2.1≤1048576)(h6:tot d.1.2.2.2.2.2.1≤1048576)(h7:tot d.1.2.2.2.2.2.2.1≤1048576)(h8:tot d.1.2.2.2.2.2.2.2≤1048576):Ev fun n=>DG n d:=by
 have q1:=(to _ h1).and (eqs _ h1)
 have q2:=(to _ h2).and (eqs _ h2)
 have q3:=(to _ h3).and (eqs _ h3)
 have q4:=(to _ h4).and (eqs _ h4)
 have q5:=(to _ h5).and (eqs _ h5)
 have q6:=(to _ h6).and (eqs _ h6)
 have q7:=(to _ h7).and (eqs _ h7)
 have q8:=(to _ h8).and (eqs _ h8)
 refine(q1.and (q2.and (q3.and (q4.and (q5.and (q6.and (q7.and (q8)))))))).mono fun n ⟨e1,e2,e3,e4,e5,e6,e7,e8⟩=>?_
 exact⟨e1.1,e1.2,e2.1,e2.2,e3.1,e3.2,e4.1,e4.2,e5.1,e5.2,e6.1,e6.2,e7.1,e7.2,e8.1,e8.2⟩
theorem toDesk{n:Nat}{d:S8×B8}(G:DG n d):Dlaws_toDesk n d=some d:=by
 unfold Dlaws_toDesk Dlaws_toSolidA8 Dlaws_toBoolA8
 rw[G.to1,Option.bind_some,G.to2,Option.bind_some,G.to3,Option.bind_some,G.to4,Option.bind_some,G.to5,Option.bind_some,G.to6,Option.bind_some,G.to7,Option.bind_some,G.to8,Option.bind_some]
 rfl
theorem eqDesk{n:Nat}{d:S8×B8}(G:DG n d):Dlaws_eqDesk n d d=some true:=by
 unfold Dlaws_eqDesk Dlaws_eqSolidA8 Dlaws_eqBoolA8
 simp only[G.eq1,G.eq2,G.eq3,G.eq4,G.eq5,G.eq6,G.eq7,G.eq8,Option.bind_some,Bool.not_true,frk_f,beq_self_eq_true]
end Evl.T
namespace Evl.T
open Go Evl
structure MF(n:Nat)(s:Sol):Prop where
 ma:∀k:Int,0≤k→k≤900000000→Dlaws_markSolidS n s.kids k=some (mkL s.kids k)
 hd:∀k:Int,0≤k→k≤900000000→Dlaws_heldSolid n (Sol.mk s.inn s.pl (mkL s.kids k).2) k=some (mkL s.kids k).1
 up:∀k:Int,k≤(mkL s.kids k).1∧(mkL s.kids k).1≤k+6000000
theorem MF.ev{s:Sol}(h:Lens s)(ht:tot s≤1048576):Ev fun n=>MF n s :=
 ((markAt h ht).and (heldAt h ht)).mono fun n ⟨h1,h2⟩=>⟨h1,h2,fun k=>by have:=mkL_tot (s:=s) k;omega⟩
structure DM(n:Nat)(d:Dsk):Prop where
 m1:MF n d.1.1
 m2:MF n d.1.2.1
 m3:MF n d.1.2.2.1
 m4:MF n d.1.2.2.2.1
 m5:MF n d.1.2.2.2.2.1
 m6:MF n d.1.2.2.2.2.2.1
 m7:MF n d.1.2.2.2.2.2.2.1
 m8:MF n d.1.2.2.2.2.2.2.2
def TotD (d:Dsk):Prop:=tot d.1.1≤1048576∧tot d.1.2.1≤1048576∧tot d.1.2.2.1≤1048576∧tot d.1.2.2.2.1≤1048576∧tot d.1.2.2.2.2.1≤1048576∧tot d.1.2.2.2.2.2.1≤1048576∧tot d.1.2.2.2.2.2.2.1≤1048576∧tot d.1.2.2.2.2.2.2.2≤1048576
def LenD (d:Dsk):Prop:=Lens d.1.1∧Lens d.1.2.1∧Lens d.1.2.2.1∧Lens d.1.2.2.2.1∧Lens d.1.2.2.2.2.1∧Lens d.1.2.2.2.2.2.1∧Lens d.1.2.2.2.2.2.2.1∧Lens d.1.2.2.2.2.2.2.2
theorem DM.ev{d:Dsk}(h:LenD d)(t:TotD d):Ev fun n=>DM n d:=by
 obtain⟨h1,h2,h3,h4,h5,h6,h7,h8⟩:=h
 obtain⟨t1,t2,t3,t4,t5,t6,t7,t8⟩:=t
 exact((MF.ev h1 t1).and ( (MF.ev h2 t2).and ( (MF.ev h3 t3).and ( (MF.ev h4 t4).and ( (MF.ev h5 t5).and ( (MF.ev h6 t6).and ( (MF.ev h7 t7).and (MF.ev h8 t8)))))))).mono fun n ⟨e1,e2,e3,e4,e5,e6,e7,e8⟩=>⟨e1,e2,e3,e4,e5,e6,e7,e8⟩
def dk0 (_:Dsk)(k:Int):Int:=k
def dk1 (d:Dsk)(k:Int):Int:=(mkL d.1.1.kids (dk0 d k)).1
def dk2 (d:Dsk)(k:Int):Int:=(mkL d.1.2.1.kids (dk1 d k)).1
def dk3 (d:Dsk)(k:Int):Int:=(mkL d.1.2.2.1.kids (dk2 d k)).1
def dk4 (d:Dsk)(k:Int):Int:=(mkL d.1.2.2.2.1.kids (dk3 d k)).1
def dk5 (d:Dsk)(k:Int):Int:=(mkL d.1.2.2.2.2.1.kids (dk4 d k)).1
def dk6 (d:Dsk)(k:Int):Int:=(mkL d.1.2.2.2.2.2.1.kids (dk5 d k)).1
def dk7 (d:Dsk)(k:Int):Int:=(mkL d.1.2.2.2.2.2.2.1.kids (dk6 d k)).1
def dk8 (d:Dsk)(k:Int):Int:=(mkL d.1.2.2.2.2.2.2.2.kids (dk7 d k)).1
def mkD (d:Dsk)(k:Int):Dsk:=((.mk d.1.1.inn d.1.1.pl (mkL d.1.1.kids (dk0 d k)).2,.mk d.1.2.1.inn d.1.2.1.pl (mkL d.1.2.1.kids (dk1 d k)).2,.mk d.1.2.2.1.inn d.1.2.2.1.pl (mkL d.1.2.2.1.kids (dk2 d k)).2,.mk d.1.2.2.2.1.inn d.1.2.2.2.1.pl (mkL d.1.2.2.2.1.kids (dk3 d k)).2,.mk d.1.2.2.2.2.1.inn d.1.2.2.2.2.1.pl (mkL d.1.2.2.2.2.1.kids (dk4 d k)).2,.mk d.1.2.2.2.2.2.1.inn d.1.2.2.2.2.2.1.pl (mkL d.1.2.2.2.2.2.1.kids (dk5 d k)).2,.mk d.1.2.2.2.2.2.2.1.inn d.1.2.2.2.2.2.2.1.pl (mkL d.1.2.2.2.2.2.2.1.kids (dk6 d k)).2,.mk d.1.2.2.2.2.2.2.2.inn d.1.2.2.2.2.2.2.2.pl (mkL d.1.2.2.2.2.2.2.2.kids (dk7 d k)).2),d.2)
theorem dk_le{n:Nat}{d:Dsk}(M:DM n d)(k:Int):(k≤dk0 d k∧dk0 d k≤k+0)∧(k≤dk1 d k∧dk1 d k≤k+6000000)∧(k≤dk2 d k∧dk2 d k≤k+12000000)∧(k≤dk3 d k∧dk3 d k≤k+18000000)∧(k≤dk4 d k∧dk4 d k≤k+24000000)∧(k≤dk5 d k∧dk5 d k≤k+30000000)∧(k≤dk6 d k∧dk6 d k≤k+36000000)∧(k≤dk7 d k∧dk7 d k≤k+42000000)∧(k≤dk8 d k∧dk8 d k≤k+48000000):=by
 have q0:k≤dk0 d k∧dk0 d k≤k+0:=⟨Int.le_refl _,by unfold dk0;omega⟩
 have q1:k≤dk1 d k∧dk1 d k≤k+6000000:=by have:=M.m1.up (dk0 d k);unfold dk1;omega
 have q2:k≤dk2 d k∧dk2 d k≤k+12000000:=by have:=M.m2.up (dk1 d k);unfold dk2;omega
 have q3:k≤dk3 d k∧dk3 d k≤k+18000000:=by have:=M.m3.up (dk2 d k);unfold dk3;omega
 have q4:k≤dk4 d k∧dk4 d k≤k+24000000:=by have:=M.m4.up (dk3 d k);unfold dk4;omega
 have q5:k≤dk5 d k∧dk5 d k≤k+30000000:=by have:=M.m5.up (dk4 d k);unfold dk5;omega
 have q6:k≤dk6 d k∧dk6 d k≤k+36000000:=by have:=M.m6.up (dk5 d k);unfold dk6;omega
 have q7:k≤dk7 d k∧dk7 d k≤k+42000000:=by have:=M.m7.up (dk6 d k);unfold dk7;omega
 have q8:k≤dk8 d k∧dk8 d k≤k+48000000:=by have:=M.m8.up (dk7 d k);unfold dk8;omega
 exact⟨q0,q1,q2,q3,q4,q5,q6,q7,q8⟩
theorem markDk_eq{n:Nat}{d:Dsk}(M:DM n d)(k:Int)(h0:0≤k)(h1:k≤100000000):markDk (fun l k=>Dlaws_markSolidS n l k) d k=some (dk8 d k,mkD d k):=by
 obtain⟨q0,q1,q2,q3,q4,q5,q6,q7,q8⟩:=dk_le M k
 have e1:Dlaws_markSolidS n d.1.1.kids (dk0 d k)=some (mkL d.1.1.kids (dk0 d k)):=M.m1.ma _ (by omega) (by omega)
 have e2:Dlaws_markSolidS n d.1.2.1.kids (dk1 d k)=some (mkL d.1.2.1.kids (dk1 d k)):=M.m2.ma _ (by omega) (by omega)
 have e3:Dlaws_markSolidS n d.1.2.2.1.kids (dk2 d k)=some (mkL d.1.2.2.1.kids (dk2 d k)):=M.m3.ma _ (by omega) (by omega)
 have e4:Dlaws_markSolidS n d.1.2.2.2.1.kids (dk3 d k)=some (mkL d.1.2.2.2.1.kids (dk3 d k)):=M.m4.ma _ (by omega) (by omega)
 have e5:Dlaws_markSolidS n d.1.2.2.2.2.1.kids (dk4 d k)=some (mkL d.1.2.2.2.2.1.kids (dk4 d k)):=M.m5.ma _ (by omega) (by omega)
 have e6:Dlaws_markSolidS n d.1.2.2.2.2.2.1.kids (dk5 d k)=some (mkL d.1.2.2.2.2.2.1.kids (dk5 d k)):=M.m6.ma _ (by omega) (by omega)
 have e7:Dlaws_markSolidS n d.1.2.2.2.2.2.2.1.kids (dk6 d k)=some (mkL d.1.2.2.2.2.2.2.1.kids (dk6 d k)):=M.m7.ma _ (by omega) (by omega)
 have e8:Dlaws_markSolidS n d.1.2.2.2.2.2.2.2.kids (dk7 d k)=some (mkL d.1.2.2.2.2.2.2.2.kids (dk7 d k)):=M.m8.ma _ (by omega) (by omega)
 unfold markDk
 show ((Dlaws_markSolidS n d.1.1.kids (dk0 d k)).bind _)=_
 rw[e1,Option.bind_some]
 show ((Dlaws_markSolidS n d.1.2.1.kids (dk1 d k)).bind _)=_
 rw[e2,Option.bind_some]
 show ((Dlaws_markSolidS n d.1.2.2.1.kids (dk2 d k)).bind _)=_
 rw[e3,Option.bind_some]
 show ((Dlaws_markSolidS n d.1.2.2.2.1.kids (dk3 d k)).bind _)=_
 rw[e4,Option.bind_some]
 show ((Dlaws_markSolidS n d.1.2.2.2.2.1.kids (dk4 d k)).bind _)=_
 rw[e5,Option.bind_some]
 show ((Dlaws_markSolidS n d.1.2.2.2.2.2.1.kids (dk5 d k)).bind _)=_
 rw[e6,Option.bind_some]
 show ((Dlaws_markSolidS n d.1.2.2.2.2.2.2.1.kids (dk6 d k)).bind _)=_
 rw[e7,Option.bind_some]
 show ((Dlaws_markSolidS n d.1.2.2.2.2.2.2.2.kids (dk7 d k)).bind _)=_
 rw[e8,Option.bind_some]
 rfl
theorem heldDk_eq{n:Nat}{d:Dsk}(M:DM n d)(k:Int)(h0:0≤k)(h1:k≤100000000):Dlaws_heldDesk n (mkD d k) k=some (dk8 d k):=by
 obtain⟨q0,q1,q2,q3,q4,q5,q6,q7,q8⟩:=dk_le M k
 have e1:Dlaws_heldSolid n (.mk d.1.1.inn d.1.1.pl (mkL d.1.1.kids (dk0 d k)).2) (dk0 d k)=some (dk1 d k):=M.m1.hd _ (by omega) (by omega)
 have e2:Dlaws_heldSolid n (.mk d.1.2.1.inn d.1.2.1.pl (mkL d.1.2.1.kids (dk1 d k)).2) (dk1 d k)=some (dk2 d k):=M.m2.hd _ (by omega) (by omega)
 have e3:Dlaws_heldSolid n (.mk d.1.2.2.1.inn d.1.2.2.1.pl (mkL d.1.2.2.1.kids (dk2 d k)).2) (dk2 d k)=some (dk3 d k):=M.m3.hd _ (by omega) (by omega)
 have e4:Dlaws_heldSolid n (.mk d.1.2.2.2.1.inn d.1.2.2.2.1.pl (mkL d.1.2.2.2.1.kids (dk3 d k)).2) (dk3 d k)=some (dk4 d k):=M.m4.hd _ (by omega) (by omega)
 have e5:Dlaws_heldSolid n (.mk d.1.2.2.2.2.1.inn d.1.2.2.2.2.1.pl (mkL d.1.2.2.2.2.1.kids (dk4 d k)).2) (dk4 d k)=some (dk5 d k):=M.m5.hd _ (by omega) (by omega)
 have e6:Dlaws_heldSolid n (.mk d.1.2.2.2.2.2.1.inn d.1.2.2.2.2.2.1.pl (mkL d.1.2.2.2.2.2.1.kids (dk5 d k)).2) (dk5 d k)=some (dk6 d k):=M.m6.hd _ (by omega) (by omega)
 have e7:Dlaws_heldSolid n (.mk d.1.2.2.2.2.2.2.1.inn d.1.2.2.2.2.2.2.1.pl (mkL d.1.2.2.2.2.2.2.1.kids (dk6 d k)).2) (dk6 d k)=some (dk7 d k):=M.m7.hd _ (by omega) (by omega)
 have e8:Dlaws_heldSolid n (.mk d.1.2.2.2.2.2.2.2.inn d.1.2.2.2.2.2.2.2.pl (mkL d.1.2.2.2.2.2.2.2.kids (dk7 d k)).2) (dk7 d k)=some (dk8 d k):=M.m8.hd _ (by omega) (by omega)
 have l1:decide (dk1 d k<0)=false:=decide_eq_false (by omega)
 have l2:decide (dk2 d k<0)=false:=decide_eq_false (by omega)
 have l3:decide (dk3 d k<0)=false:=decide_eq_false (by omega)
 have l4:decide (dk4 d k<0)=false:=decide_eq_false (by omega)
 have l5:decide (dk5 d k<0)=false:=decide_eq_false (by omega)
 have l6:decide (dk6 d k<0)=false:=decide_eq_false (by omega)
 have l7:decide (dk7 d k<0)=false:=decide_eq_false (by omega)
 have l8:decide (dk8 d k<0)=false:=decide_eq_false (by omega)
 have e:Dlaws_heldSolidA8 n (mkD d k).1 k=some (dk8 d k):=by
  unfold Dlaws_heldSolidA8
  show ((Dlaws_heldSolid n (.mk d.1.1.inn d.1.1.pl (mkL d.1.1.kids (dk0 d k)).2) (dk0 d k)).bind _)=_
  rw[e1,Option.bind_some,l1,frk_f]
  show ((Dlaws_heldSolid n (.mk d.1.2.1.inn d.1.2.1.pl (mkL d.1.2.1.kids (dk1 d k)).2) (dk1 d k)).bind _)=_
  rw[e2,Option.bind_some,l2,frk_f]
  show ((Dlaws_heldSolid n (.mk d.1.2.2.1.inn d.1.2.2.1.pl (mkL d.1.2.2.1.kids (dk2 d k)).2) (dk2 d k)).bind _)=_
  rw[e3,Option.bind_some,l3,frk_f]
  show ((Dlaws_heldSolid n (.mk d.1.2.2.2.1.inn d.1.2.2.2.1.pl (mkL d.1.2.2.2.1.kids (dk3 d k)).2) (dk3 d k)).bind _)=_
  rw[e4,Option.bind_some,l4,frk_f]
  show ((Dlaws_heldSolid n (.mk d.1.2.2.2.2.1.inn d.1.2.2.2.2.1.pl (mkL d.1.2.2.2.2.1.kids (dk4 d k)).2) (dk4 d k)).bind _)=_
  rw[e5,Option.bind_some,l5,frk_f]
  show ((Dlaws_heldSolid n (.mk d.1.2.2.2.2.2.1.inn d.1.2.2.2.2.2.1.pl (mkL d.1.2.2.2.2.2.1.kids (dk5 d k)).2) (dk5 d k)).bind _)=_
  rw[e6,Option.bind_some,l6,frk_f]
  show ((Dlaws_heldSolid n (.mk d.1.2.2.2.2.2.2.1.inn d.1.2.2.2.2.2.2.1.pl (mkL d.1.2.2.2.2.2.2.1.kids (dk6 d k)).2) (dk6 d k)).bind _)=_
  rw[e7,Option.bind_some,l7,frk_f]
  show ((Dlaws_heldSolid n (.mk d.1.2.2.2.2.2.2.2.inn d.1.2.2.2.2.2.2.2.pl (mkL d.1.2.2.2.2.2.2.2.kids (dk7 d k)).2) (dk7 d k)).bind _)=_
  rw[e8,Option.bind_some,l8,frk_f]
 unfold Dlaws_heldDesk
 rw[e,Option.bind_some,l8,frk_f]
theorem dk8_nn{n:Nat}{d:Dsk}(M:DM n d){k:Int}(h:0≤k):decide (dk8 d k<0)=false:=decide_eq_false (by have:=(dk_le M k).2.2.2.2.2.2.2.2;omega)
theorem dsk_eta(d:Dsk):(((d.1.1,d.1.2.1,d.1.2.2.1,d.1.2.2.2.1,d.1.2.2.2.2.1,d.1.2.2.2.2.2.1,d.1.2.2.2.2.2.2.1,d.1.2.2.2.2.2.2.2),(d.2.1,d.2.2.1,d.2.2.2.1,d.2.2.2.2.1,d.2.2.2.2.2.1,d.2.2.2.2.2.2.1,d.2.2.2.2.2.2.2.1,d.2.2.2.2.2.2.2.2)):Dsk)=d:=rfl
theorem dsk_eta2(d:Dsk):(((d.1.1,d.1.2.1,d.1.2.2.1,d.1.2.2.2.1,d.1.2.2.2.2.1,d.1.2.2.2.2.2.1,d.1.2.2.2.2.2.2.1,d.1.2.2.2.2.2.2.2),d.2):Dsk)=d:=rfl
theorem TotD.dg{d:Dsk}(t:TotD d):Ev fun n=>DG n d:=DG.ev d t.1 t.2.1 t.2.2.1 t.2.2.2.1 t.2.2.2.2.1 t.2.2.2.2.2.1 t.2.2.2.2.2.2.1 t.2.2.2.2.2.2.2
theorem sCopyD{d:Dsk}(t:TotD d):Ev fun n=>Dspec_l20Copy n d=some d:=by
 obtain⟨t1,t2,t3,t4,t5,t6,t7,t8⟩:=t
 refine((sCopyE t1).and ( (sCopyE t2).and ( (sCopyE t3).and ( (sCopyE t4).and ( (sCopyE t5).and ( (sCopyE t6).and ( (sCopyE t7).and (sCopyE t8)))))))).mono fun n ⟨e1,e2,e3,e4,e5,e6,e7,e8⟩=>?_
 unfold Dspec_l20Copy
 rw[e1,Option.bind_some,e2,Option.bind_some,e3,Option.bind_some,e4,Option.bind_some,e5,Option.bind_some,e6,Option.bind_some,e7,Option.bind_some,e8,Option.bind_some]
theorem iCopyD{d:Dsk}(t:TotD d):Ev fun n=>Dimpl_copyDesk n d=some d:=by
 obtain⟨t1,t2,t3,t4,t5,t6,t7,t8⟩:=t
 refine((iCopyE t1).and ( (iCopyE t2).and ( (iCopyE t3).and ( (iCopyE t4).and ( (iCopyE t5).and ( (iCopyE t6).and ( (iCopyE t7).and (iCopyE t8)))))))).mono fun n ⟨e1,e2,e3,e4,e5,e6,e7,e8⟩=>?_
 unfold Dimpl_copyDesk
 rw[e1,Option.bind_some,e2,Option.bind_some,e3,Option.bind_some,e4,Option.bind_some,e5,Option.bind_some,e6,Option.bind_some,e7,Option.bind_some,e8,Option.bind_some]
def isPl (i:Int):Bool:=rIn i 0 7
theorem sPlace(i:Int):Dspec_l20At i=some (isPl i):=by unfold Dspec_l20At;rw[sIn];rfl
theorem iPlace(i:Int):Dimpl_isPlace i=some (isPl i):=by unfold Dimpl_isPlace;rw[iIn];rfl
theorem isPl_cases{i:Int}(h:isPl i=true):i=0∨i=1∨i=2∨i=3∨i=4∨i=5∨i=6∨i=7:=by have:=rIn_iff.1 h;omega
def putD (d:Dsk)(i:Int)(s:Sol)(b:Bool):Dsk :=
 if i=0 then ((s,d.1.2.1,d.1.2.2.1,d.1.2.2.2.1,d.1.2.2.2.2.1,d.1.2.2.2.2.2.1,d.1.2.2.2.2.2.2.1,d.1.2.2.2.2.2.2.2),(b,d.2.2.1,d.2.2.2.1,d.2.2.2.2.1,d.2.2.2.2.2.1,d.2.2.2.2.2.2.1,d.2.2.2.2.2.2.2.1,d.2.2.2.2.2.2.2.2)) else if i=1 then ((d.1.1,s,d.1.2.2.1,d.1.2.2.2.1,d.1.2.2.2.2.1,d.1.2.2.2.2.2.1,d.1.2.2.2.2.2.2.1,d.1.2.2.2.2.2.2.2),(d.2.1,b,d.2.2.2.1,d.2.2.2.2.1,d.2.2.2.2.2.1,d.2.2.2.2.2.2.1,d.2.2.2.2.2.2.2.1,d.2.2.2.2.2.2.2.2)) else if i=2 then ((d.1.1,d.1.2.1,s,d.1.2.2.2.1,d.1.2.2.2.2.1,d.1.2.2.2.2.2.1,d.1.2.2.2.2.2.2.1,d.1.2.2.2.2.2.2.2),(d.2.1,d.2.2.1,b,d.2.2.2.2.1,d.2.2.2.2.2.1,d.2.2.2.2.2.2.1,d.2.2.2.2.2.2.2.1,d.2.2.2.2.2.2.2.2)) else if i=3 then ((d.1.1,d.1.2.1,d.1.2.2.1,s,d.1.2.2.2.2.1,d.1.2.2.2.2.2.1,d.1.2.2.2.2.2.2.1,d.1.2.2.2.2.2.2.2),(d.2.1,d.2.2.1,d.2.2.2.1,b,d.2.2.2.2.2.1,d.2.2.2.2.2.2.1,d.2.2.2.2.2.2.2.1,d.2.2.2.2.2.2.2.2)) else if i=4 then ((d.1.1,d.1.2.1,d.1.2.2.1,d.1.2.2.2.1,s,d.1.2.2.2.2.2.1,d.1.2.2.2.2.2.2.1,d.1.2.2.2.2.2.2.2),(d.2.1,d.2.2.1,d.2.2.2.1,d.2.2.2.2.1,b,d.2.2.2.2.2.2.1,d.2.2.2.2.2.2.2.1,d.2.2.2.2.2.2.2.2)) else if i=5 then ((d.1.1,d.1.2.1,d.1.2.2.1,d.1.2.2.2.1,d.1.2.2.2.2.1,s,d.1.2.2.2.2.2.2.1,d.1.2.2.2.2.2.2.2),(d.2.1,d.2.2.1,d.2.2.2.1,d.2.2.2.2.1,d.2.2.2.2.2.1,b,d.2.2.2.2.2.2.2.1,d.2.2.2.2.2.2.2.2)) else if i=6 then ((d.1.1,d.1.2.1,d.1.2.2.1,d.1.2.2.2.1,d.1.2.2.2.2.1,d.1.2.2.2.2.2.1,s,d.1.2.2.2.2.2.2.2),(d.2.1,d.2.2.1,d.2.2.2.1,d.2.2.2.2.1,d.2.2.2.2.2.1,d.2.2.2.2.2.2.1,b,d.2.2.2.2.2.2.2.2)) else if i=7 then ((d.1.1,d.1.2.1,d.1.2.2.1,d.1.2.2.2.1,d.1.2.2.2.2.1,d.1.2.2.2.2.2.1,d.1.2.2.2.2.2.2.1,s),(d.2.1,d.2.2.1,d.2.2.2.1,d.2.2.2.2.1,d.2.2.2.2.2.1,d.2.2.2.2.2.2.1,d.2.2.2.2.2.2.2.1,b)) else d
def heldAtD(d:Dsk)(i:Int):Bool:=if i=0 then d.2.1 else if i=1 then d.2.2.1 else if i=2 then d.2.2.2.1 else if i=3 then d.2.2.2.2.1 else if i=4 then d.2.2.2.2.2.1 else if i=5 then d.2.2.2.2.2.2.1 else if i=6 then d.2.2.2.2.2.2.2.1 else if i=7 then d.2.2.2.2.2.2.2.2 else false
theorem TotD.put{d:Dsk}(h:TotD d)(i:Int){s:Sol}(hs:tot s≤1048576)(b:Bool):TotD (putD d i s b):=by
 obtain⟨h1,h2,h3,h4,h5,h6,h7,h8⟩:=h
 unfold putD
 by_cases c0:i=0
 ·rw[if_pos c0];exact⟨hs,h2,h3,h4,h5,h6,h7,h8⟩
 rw[if_neg c0]
 by_cases c1:i=1
 ·rw[if_pos c1];exact⟨h1,hs,h3,h4,h5,h6,h7,h8⟩
 rw[if_neg c1]
 by_cases c2:i=2
 ·rw[if_pos c2];exact⟨h1,h2,hs,h4,h5,h6,h7,h8⟩
 rw[if_neg c2]
 by_cases c3:i=3
 ·rw[if_pos c3];exact⟨h1,h2,h3,hs,h5,h6,h7,h8⟩
 rw[if_neg c3]
 by_cases c4:i=4
 ·rw[if_pos c4];exact⟨h1,h2,h3,h4,hs,h6,h7,h8⟩
 rw[if_neg c4]
 by_cases c5:i=5
 ·rw[if_pos c5];exact⟨h1,h2,h3,h4,h5,hs,h7,h8⟩
 rw[if_neg c5]
 by_cases c6:i=6
 ·rw[if_pos c6];exact⟨h1,h2,h3,h4,h5,h6,hs,h8⟩
 rw[if_neg c6]
 by_cases c7:i=7
 ·rw[if_pos c7];exact⟨h1,h2,h3,h4,h5,h6,h7,hs⟩
 rw[if_neg c7]
 exact⟨h1,h2,h3,h4,h5,h6,h7,h8⟩
theorem LenD.put{d:Dsk}(h:LenD d)(i:Int){s:Sol}(hs:Lens s)(b:Bool):LenD (putD d i s b):=by
 obtain⟨h1,h2,h3,h4,h5,h6,h7,h8⟩:=h
 unfold putD
 by_cases c0:i=0
 ·rw[if_pos c0];exact⟨hs,h2,h3,h4,h5,h6,h7,h8⟩
 rw[if_neg c0]
 by_cases c1:i=1
 ·rw[if_pos c1];exact⟨h1,hs,h3,h4,h5,h6,h7,h8⟩
 rw[if_neg c1]
 by_cases c2:i=2
 ·rw[if_pos c2];exact⟨h1,h2,hs,h4,h5,h6,h7,h8⟩
 rw[if_neg c2]
 by_cases c3:i=3
 ·rw[if_pos c3];exact⟨h1,h2,h3,hs,h5,h6,h7,h8⟩
 rw[if_neg c3]
 by_cases c4:i=4
 ·rw[if_pos c4];exact⟨h1,h2,h3,h4,hs,h6,h7,h8⟩
 rw[if_neg c4]
 by_cases c5:i=5
 ·rw[if_pos c5];exact⟨h1,h2,h3,h4,h5,hs,h7,h8⟩
 rw[if_neg c5]
 by_cases c6:i=6
 ·rw[if_pos c6];exact⟨h1,h2,h3,h4,h5,h6,hs,h8⟩
 rw[if_neg c6]
 by_cases c7:i=7
 ·rw[if_pos c7];exact⟨h1,h2,h3,h4,h5,h6,h7,hs⟩
 rw[if_neg c7]
 exact⟨h1,h2,h3,h4,h5,h6,h7,h8⟩
end Evl.T
namespace Evl.T
open Go Evl
theorem stepSz2{f rest:Int→Option Int}{t:Nat}{Q:Int→Prop}(hA:∀left,0≤left→left≤mil→f left=some (szv t left))(hB:∀left,0≤left→left≤mil→∃v,rest left=some v∧(v<0∨Q v)) :
  ∀left,0≤left→left≤mil→∃v,((f left).bind fun v0=>frk (decide (v0<0)) (some (-1)) (rest v0))=some v∧(v<0∨(t≤1048576∧Q v)):=by
 intro left h0 h1
 unfold mil at h1
 rw[hA left h0 h1,Option.bind_some]
 by_cases hc:(t:Int)≤left
 ·rw[szv_yes hc,decide_eq_false (by omega),frk_f]
  obtain⟨v,e,h⟩:=hB (left-t) (by omega) (by unfold mil;omega)
  exact⟨v,e,h.imp id fun h=>⟨by omega,h⟩⟩
 ·rw[szv_no hc];exact⟨-1,rfl,.inl (by omega)⟩
theorem szDesk2{n:Nat}{d:Dsk}(F:DF n d):∃v,Dlaws_szDesk n d 1048576=some v∧(v<0∨(TotD d∧0≤v∧v≤mil)):=by
 have h:∃v,Dlaws_szSolidA8 n d.1 1048576=some v∧(v<0∨(tot d.1.1≤1048576∧tot d.1.2.1≤1048576∧tot d.1.2.2.1≤1048576∧tot d.1.2.2.2.1≤1048576∧tot d.1.2.2.2.2.1≤1048576∧tot d.1.2.2.2.2.2.1≤1048576∧tot d.1.2.2.2.2.2.2.1≤1048576∧tot d.1.2.2.2.2.2.2.2≤1048576∧0≤v∧v≤mil)) :=
  (stepSz2 F.sz1 (stepSz2 F.sz2 (stepSz2 F.sz3 (stepSz2 F.sz4 (stepSz2 F.sz5 (stepSz2 F.sz6 (stepSz2 F.sz7 (stepSz2 F.sz8 (fun left h0 h1=>⟨left,rfl,.inr ⟨h0,h1⟩⟩))))))))) 1048576 (by decide) (by decide)
 obtain⟨v,e,hv⟩:=h
 unfold Dlaws_szDesk
 rw[e,Option.bind_some]
 by_cases hc:v<0
 ·rw[decide_eq_true hc,frk_t];exact⟨-1,rfl,.inl (by omega)⟩
 ·rw[decide_eq_false hc,frk_f]
  exact⟨v,rfl,hv.imp id fun ⟨t1,t2,t3,t4,t5,t6,t7,t8,h0,h1⟩=>⟨⟨t1,t2,t3,t4,t5,t6,t7,t8⟩,h0,h1⟩⟩
def GD (d:Dsk):Prop:=((rt d.1.1&&(d.2.1||isz d.1.1))=true)∧((rt d.1.2.1&&(d.2.2.1||isz d.1.2.1))=true)∧((rt d.1.2.2.1&&(d.2.2.2.1||isz d.1.2.2.1))=true)∧((rt d.1.2.2.2.1&&(d.2.2.2.2.1||isz d.1.2.2.2.1))=true)∧((rt d.1.2.2.2.2.1&&(d.2.2.2.2.2.1||isz d.1.2.2.2.2.1))=true)∧((rt d.1.2.2.2.2.2.1&&(d.2.2.2.2.2.2.1||isz d.1.2.2.2.2.2.1))=true)∧((rt d.1.2.2.2.2.2.2.1&&(d.2.2.2.2.2.2.2.1||isz d.1.2.2.2.2.2.2.1))=true)∧((rt d.1.2.2.2.2.2.2.2&&(d.2.2.2.2.2.2.2.2||isz d.1.2.2.2.2.2.2.2))=true)
def hsD (d:Dsk):Int:=w64 ((w64 ((w64 ((w64 ((w64 ((w64 ((w64 ((w64 (0+cnv (nod d.1.1) 301))+cnv (nod d.1.2.1) 301))+cnv (nod d.1.2.2.1) 301))+cnv (nod d.1.2.2.2.1) 301))+cnv (nod d.1.2.2.2.2.1) 301))+cnv (nod d.1.2.2.2.2.2.1) 301))+cnv (nod d.1.2.2.2.2.2.2.1) 301))+cnv (nod d.1.2.2.2.2.2.2.2) 301)
theorem deskChain{n:Nat}{d:Dsk}(F:DF n d):Dspec_DeskOk n d=frk (rt d.1.1&&(d.2.1||isz d.1.1)) (frk (rt d.1.2.1&&(d.2.2.1||isz d.1.2.1)) (frk (rt d.1.2.2.1&&(d.2.2.2.1||isz d.1.2.2.1)) (frk (rt d.1.2.2.2.1&&(d.2.2.2.2.1||isz d.1.2.2.2.1)) (frk (rt d.1.2.2.2.2.1&&(d.2.2.2.2.2.1||isz d.1.2.2.2.2.1)) (frk (rt d.1.2.2.2.2.2.1&&(d.2.2.2.2.2.2.1||isz d.1.2.2.2.2.2.1)) (frk (rt d.1.2.2.2.2.2.2.1&&(d.2.2.2.2.2.2.2.1||isz d.1.2.2.2.2.2.2.1)) (frk (rt d.1.2.2.2.2.2.2.2&&(d.2.2.2.2.2.2.2.2||isz d.1.2.2.2.2.2.2.2)) (some (decide (hsD d≤900))) (some false)) (some false)) (some false)) (some false)) (some false)) (some false)) (some false)) (some false):=sChain F
theorem deskT{n:Nat}{d:Dsk}(F:DF n d)(h:Dspec_DeskOk n d=some true):GD d:=by
 rw[deskChain F] at h
 cases g0:(rt d.1.1&&(d.2.1||isz d.1.1)) with
 | false=>rw[g0,frk_f] at h;cases h
 | true =>
 rw[g0,frk_t] at h
 cases g1:(rt d.1.2.1&&(d.2.2.1||isz d.1.2.1)) with
 | false=>rw[g1,frk_f] at h;cases h
 | true =>
 rw[g1,frk_t] at h
 cases g2:(rt d.1.2.2.1&&(d.2.2.2.1||isz d.1.2.2.1)) with
 | false=>rw[g2,frk_f] at h;cases h
 | true =>
 rw[g2,frk_t] at h
 cases g3:(rt d.1.2.2.2.1&&(d.2.2.2.2.1||isz d.1.2.2.2.1)) with
 | false=>rw[g3,frk_f] at h;cases h
 | true =>
 rw[g3,frk_t] at h
 cases g4:(rt d.1.2.2.2.2.1&&(d.2.2.2.2.2.1||isz d.1.2.2.2.2.1)) with
 | false=>rw[g4,frk_f] at h;cases h
 | true =>
 rw[g4,frk_t] at h
 cases g5:(rt d.1.2.2.2.2.2.1&&(d.2.2.2.2.2.2.1||isz d.1.2.2.2.2.2.1)) with
 | false=>rw[g5,frk_f] at h;cases h
 | true =>
 rw[g5,frk_t] at h
 cases g6:(rt d.1.2.2.2.2.2.2.1&&(d.2.2.2.2.2.2.2.1||isz d.1.2.2.2.2.2.2.1)) with
 | false=>rw[g6,frk_f] at h;cases h
 | true =>
 rw[g6,frk_t] at h
 cases g7:(rt d.1.2.2.2.2.2.2.2&&(d.2.2.2.2.2.2.2.2||isz d.1.2.2.2.2.2.2.2)) with
 | false=>rw[g7,frk_f] at h;cases h
 | true =>
 rw[g7,frk_t] at h
 exact⟨g0,g1,g2,g3,g4,g5,g6,g7⟩
theorem GD.ok{n:Nat}{d:Dsk}(F:DF n d)(g:GD d):Dspec_DeskOk n d=some (decide (hsD d≤900))∧Dimpl_Desk_held n d=some (hsD d):=by
 obtain⟨g0,g1,g2,g3,g4,g5,g6,g7⟩:=g
 refine⟨?_,deskHeldOk F (good g0) (good g1) (good g2) (good g3) (good g4) (good g5) (good g6) (good g7)⟩
 rw[deskChain F,g0,frk_t,g1,frk_t,g2,frk_t,g3,frk_t,g4,frk_t,g5,frk_t,g6,frk_t,g7,frk_t]
theorem GD.put{d:Dsk}(h:GD d)(i:Int){s:Sol}(hs:Right s):GD (putD d i s true):=by
 obtain⟨h1,h2,h3,h4,h5,h6,h7,h8⟩:=h
 have hg:(rt s&&(true||isz s))=true:=by rw[rt_iff.2 hs];rfl
 unfold putD
 by_cases c0:i=0
 ·rw[if_pos c0];exact⟨hg,h2,h3,h4,h5,h6,h7,h8⟩
 rw[if_neg c0]
 by_cases c1:i=1
 ·rw[if_pos c1];exact⟨h1,hg,h3,h4,h5,h6,h7,h8⟩
 rw[if_neg c1]
 by_cases c2:i=2
 ·rw[if_pos c2];exact⟨h1,h2,hg,h4,h5,h6,h7,h8⟩
 rw[if_neg c2]
 by_cases c3:i=3
 ·rw[if_pos c3];exact⟨h1,h2,h3,hg,h5,h6,h7,h8⟩
 rw[if_neg c3]
 by_cases c4:i=4
 ·rw[if_pos c4];exact⟨h1,h2,h3,h4,hg,h6,h7,h8⟩
 rw[if_neg c4]
 by_cases c5:i=5
 ·rw[if_pos c5];exact⟨h1,h2,h3,h4,h5,hg,h7,h8⟩
 rw[if_neg c5]
 by_cases c6:i=6
 ·rw[if_pos c6];exact⟨h1,h2,h3,h4,h5,h6,hg,h8⟩
 rw[if_neg c6]
 by_cases c7:i=7
 ·rw[if_pos c7];exact⟨h1,h2,h3,h4,h5,h6,h7,hg⟩
 rw[if_neg c7]
 exact⟨h1,h2,h3,h4,h5,h6,h7,h8⟩
end Evl.T
namespace Evl.T
open Go Evl
def slotD(d:Dsk)(i:Int):Sol:=if i=0 then d.1.1 else if i=1 then d.1.2.1 else if i=2 then d.1.2.2.1 else if i=3 then d.1.2.2.2.1 else if i=4 then d.1.2.2.2.2.1 else if i=5 then d.1.2.2.2.2.2.1 else if i=6 then d.1.2.2.2.2.2.2.1 else d.1.2.2.2.2.2.2.2
theorem good_rt{s:Sol}{b:Bool}(h:(rt s&&b)=true):Right s:=rt_iff.1 (Bool.and_eq_true_iff.1 h).1
theorem GD.slot{d:Dsk}(g:GD d)(i:Int):Right (slotD d i):=by
 obtain⟨h0,h1,h2,h3,h4,h5,h6,h7⟩:=g
 unfold slotD
 split
 ·exact good_rt h0
 ·split
  ·exact good_rt h1
  ·split
   ·exact good_rt h2
   ·split
    ·exact good_rt h3
    ·split
     ·exact good_rt h4
     ·split
      ·exact good_rt h5
      ·split
       ·exact good_rt h6
       ·exact good_rt h7
theorem ksStep{n:Nat}{d:Dsk}{s:Sol}{i:Int}(hp:isPl i=true)(hc:Dspec_l20Copy n d=some d)(hs:Dspec_l8Copy n s=some s) :
  Dspec_l20Keeps n d i s=(Dspec_DeskOk n (putD d i s true)).bind fun v2=>frk (!v2) ((Dspec_l20Copy n d).bind fun v3=>some (v3,3)) (some (putD d i s true,0)):=by
 unfold Dspec_l20Keeps
 rw[hc,Option.bind_some,hs,Option.bind_some]
 unfold Dspec_l20Keeps_0
 rw[hc]
 obtain⟨⟨⟨i0,p0,k0⟩,⟨i1,p1,k1⟩,⟨i2,p2,k2⟩,⟨i3,p3,k3⟩,⟨i4,p4,k4⟩,⟨i5,p5,k5⟩,⟨i6,p6,k6⟩,⟨i7,p7,k7⟩⟩,b0,b1,b2,b3,b4,b5,b6,b7⟩:=d
 obtain⟨i8,p8,k8⟩:=s
 rcases isPl_cases hp with rfl | rfl | rfl | rfl | rfl | rfl | rfl | rfl <;> rfl
theorem kiStep{n:Nat}{d:Dsk}{s:Sol}{i:Int}(hp:isPl i=true)(hc:Dimpl_copyDesk n d=some d)(hs:Dimpl_copySolid n s=some s) :
  Dimpl_keep n d i s=(Dimpl_Desk_held n (putD d i s true)).bind fun v2=>frk (decide (v2>900)) ((Dimpl_copyDesk n d).bind fun v3=>some (v3,3)) (some (putD d i s true,0)):=by
 unfold Dimpl_keep
 rw[hc,Option.bind_some,hs,Option.bind_some]
 unfold Dimpl_keep_0
 rw[hc]
 obtain⟨⟨⟨i0,p0,k0⟩,⟨i1,p1,k1⟩,⟨i2,p2,k2⟩,⟨i3,p3,k3⟩,⟨i4,p4,k4⟩,⟨i5,p5,k5⟩,⟨i6,p6,k6⟩,⟨i7,p7,k7⟩⟩,b0,b1,b2,b3,b4,b5,b6,b7⟩:=d
 obtain⟨i8,p8,k8⟩:=s
 rcases isPl_cases hp with rfl | rfl | rfl | rfl | rfl | rfl | rfl | rfl <;> rfl
theorem keepEv{d:Dsk}(h:LenD d)(ht:TotD d)(g:GD d){i:Int}(hp:isPl i=true){t:Sol}(hr:Right t):∃r c,(r=d∨r=putD d i t true)∧Ev fun n=>Dspec_l20Keeps n d i t=some (r,c)∧Dimpl_keep n d i t=some (r,c):=by
 have tl:=hr.1.tw.lens
 have tt:tot t≤1048576:=by have:=hr.1.tw.tot;have:=hr.2;omega
 have g':=g.put i hr
 have E:=(sCopyD ht).and ((iCopyD ht).and ((sCopyE tt).and ((iCopyE tt).and (DF.ev (putD d i t true) (h.put i tl true)))))
 by_cases h9:hsD (putD d i t true)≤900
 ·refine⟨putD d i t true,0,.inr rfl,E.mono fun n ⟨c1,c2,k1,k2,F⟩=>?_⟩
  obtain⟨q1,q2⟩:=GD.ok F g'
  rw[ksStep hp c1 k1,kiStep hp c2 k2,q1,q2,Option.bind_some,Option.bind_some,decide_eq_true h9,decide_eq_false (by omega)]
  exact⟨rfl,rfl⟩
 ·refine⟨d,3,.inl rfl,E.mono fun n ⟨c1,c2,k1,k2,F⟩=>?_⟩
  obtain⟨q1,q2⟩:=GD.ok F g'
  rw[ksStep hp c1 k1,kiStep hp c2 k2,q1,q2,Option.bind_some,Option.bind_some,decide_eq_false h9,decide_eq_true (by omega),c1,c2]
  exact⟨rfl,rfl⟩
open Classical in
theorem deskEv{d:Dsk}(h:LenD d):∃r,(r=true→GD d)∧Ev fun n=>Dspec_DeskOk n d=some r∧Dimpl_DeskOk n d=some r:=by
 by_cases g:GD d
 ·refine⟨decide (hsD d≤900),fun _=>g,(DF.ev d h).mono fun n F=>?_⟩
  have q:=(GD.ok F g).1
  exact⟨q,by rw[deskEq F];exact q⟩
 ·refine⟨false,fun e=>absurd e (by simp),(DF.ev d h).mono fun n F=>?_⟩
  obtain⟨r,h1,-⟩:=deskSome F
  have:r=false:=by
   cases r with
   | false=>rfl
   | true=>exact absurd (deskT F h1) g
  subst this
  exact⟨h1,by rw[deskEq F];exact h1⟩
end Evl.T
namespace Evl.T
open Go Evl
def vl:List Int→Int
 | []=>0
 | d::l=>d+10000*vl l
def Dg (l:List Int):Prop:=∀d∈l,0≤d∧d≤9999
theorem Dg.head{d:Int}{l:List Int}(h:Dg (d::l)):0≤d∧d≤9999:=h d (by simp)
theorem Dg.tail{d:Int}{l:List Int}(h:Dg (d::l)):Dg l:=fun x hx=>h x (by simp[hx])
theorem Dg.cons{d:Int}{l:List Int}(h1:0≤d)(h2:d≤9999)(h:Dg l):Dg (d::l):=by
 intro x hx
 rcases List.mem_cons.1 hx with rfl | hx
 ·exact⟨h1,h2⟩
 ·exact h x hx
theorem Dg.nil:Dg []:=fun _ h=>absurd h (by simp)
theorem Dg.get{l:List Int}(h:Dg l){i:Nat}{d:Int}(hd:l[i]?=some d):0≤d∧d≤9999:=h d (List.mem_of_getElem? hd)
theorem Dg.take{l:List Int}(h:Dg l)(i:Nat):Dg (l.take i):=fun d hd=>h d (List.mem_of_mem_take hd)
theorem Dg.drop{l:List Int}(h:Dg l)(i:Nat):Dg (l.drop i):=fun d hd=>h d (List.mem_of_mem_drop hd)
theorem vl_nn:∀{l:List Int},Dg l→0≤vl l
 | [],_=>Int.le_refl _
 | d::l,h=>by have:=vl_nn h.tail;have:=h.head;unfold vl;omega
def dg (v:Nat):List Int:=if v=0 then [] else ((v % 10000:Nat):Int)::dg (v / 10000)
theorem dg_zero:dg 0=[]:=by rw[dg,if_pos rfl]
theorem dg_pos{v:Nat}(h:0<v):dg v=((v % 10000:Nat):Int)::dg (v / 10000):=by rw[dg,if_neg (by omega)]
theorem Dg_dg(v:Nat):Dg (dg v):=by
 induction v using Nat.strongRecOn with
 | ind v ih =>
  by_cases h:v=0
  ·subst h;rw[dg_zero];exact Dg.nil
  ·rw[dg_pos (by omega)];exact Dg.cons (by omega) (by omega) (ih _ (by omega))
theorem vl_dg(v:Nat):vl (dg v)=v:=by
 induction v using Nat.strongRecOn with
 | ind v ih =>
  by_cases h:v=0
  ·subst h;rw[dg_zero];rfl
  ·rw[dg_pos (by omega)];unfold vl;rw[ih _ (by omega)];omega
theorem dg_len:∀(k v:Nat),v<10000 ^ k→(dg v).length≤k
 | 0,v,h=>by
   have:v=0:=by simpa using h
   subst this;rw[dg_zero];exact Nat.le_refl 0
 | k+1,v,h=>by
  by_cases h0:v=0
  ·subst h0;rw[dg_zero];simp
  ·rw[dg_pos (by omega),List.length_cons]
   have:=dg_len k (v / 10000) (by rw[Nat.pow_succ] at h;omega)
   omega
theorem dg_len3{v:Nat}(h:v<1000000000000):(dg v).length≤3:=dg_len 3 v (by simpa using h)
theorem dg_mono{a b:Nat}(h:b≤a):(dg b).length≤(dg a).length:=by
 induction a using Nat.strongRecOn generalizing b with
 | ind a ih =>
  by_cases h0:b=0
  ·subst h0;rw[dg_zero];simp
  ·rw[dg_pos (v:=b) (by omega),dg_pos (v:=a) (by omega),List.length_cons,List.length_cons]
   have:=ih (a / 10000) (by omega) (b:=b / 10000) (by omega)
   omega
theorem dg_ne{v:Nat}:dg v≠[]↔0<v:=by
 constructor
 ·intro h
  by_cases h0:v=0
  ·subst h0;exact absurd dg_zero h
  ·omega
 ·intro h;rw[dg_pos h];simp
theorem dg_last(v:Nat):(dg v).getLast?≠some 0:=by
 induction v using Nat.strongRecOn with
 | ind v ih =>
  by_cases h:v=0
  ·subst h;rw[dg_zero];simp
  ·rw[dg_pos (by omega)]
   by_cases h2:v / 10000=0
   ·rw[h2,dg_zero];simp;omega
   ·have:=ih (v / 10000) (by omega)
    rw[dg_pos (v:=v / 10000) (by omega)] at this ⊢
    rw[List.getLast?_cons_cons];exact this
theorem dg_of:∀{l:List Int},Dg l→l.getLast?≠some 0→l=dg (vl l).toNat∧(l≠[]→0<vl l)
 | [],_,_=>⟨by show []=dg 0;rw[dg_zero],fun h=>absurd rfl h⟩
 | [d],h,hl=>by
  have hd:=h.head
  have h0:d≠0:=by simpa using hl
  have e:vl [d]=d:=by simp[vl]
  refine⟨?_,fun _=>by rw[e];omega⟩
  rw[e,dg_pos (by omega),show d.toNat / 10000=0 by omega,dg_zero]
  congr 1;omega
 | d::e::l,h,hl=>by
  rw[List.getLast?_cons_cons] at hl
  obtain⟨h1,h2⟩:=dg_of h.tail hl
  have h2:=h2 (by simp)
  have hd:=h.head
  have e1:vl (d::e::l)=d+10000*vl (e::l):=rfl
  refine⟨?_,fun _=>by omega⟩
  rw[e1,dg_pos (by omega),show (d+10000*vl (e::l)).toNat / 10000=(vl (e::l)).toNat by omega,←h1]
  congr 1;omega
theorem dg_of'{l:List Int}(h:Dg l)(hl:l.getLast?≠some 0){v:Nat}(hv:vl l=v):l=dg v:=by
 have:=(dg_of h hl).1;rw[hv] at this;exact this
theorem vl_app:∀(a b:List Int),vl (a++b)=vl a+10000 ^ a.length*vl b
 | [],b=>by simp[vl]
 | d::a,b=>by
  rw[List.cons_append];show d+10000*vl (a++b)=(d+10000*vl a)+10000 ^ (d::a).length*vl b;rw[vl_app a b,List.length_cons,Int.pow_succ,Int.mul_add]
  have:(10000:Int) ^ a.length*10000*vl b=10000*((10000:Int) ^ a.length*vl b):=by rw[Int.mul_comm ((10000:Int) ^ a.length) 10000,Int.mul_assoc]
  omega
theorem vl_lt:∀{l:List Int},Dg l→vl l<10000 ^ l.length
 | [],_=>by simp[vl]
 | d::l,h=>by
  have:=vl_lt h.tail;have:=h.head
  unfold vl;rw[List.length_cons,Int.pow_succ];omega
theorem vl_take_s{l:List Int}{i:Nat}{d:Int}(hd:l[i]?=some d):vl (l.take (i+1))=vl (l.take i)+10000 ^ i*d:=by
 have hi:=(List.getElem?_eq_some_iff.1 hd).1
 rw[List.take_add_one,hd,vl_app,List.length_take,Nat.min_eq_left (by omega)]
 simp[vl]
theorem vl_drop_s{l:List Int}{i:Nat}{d:Int}(hd:l[i]?=some d):vl (l.drop i)=d+10000*vl (l.drop (i+1)):=by
 obtain⟨hi,he⟩:=List.getElem?_eq_some_iff.1 hd
 rw[List.drop_eq_getElem_cons hi,he];rfl
theorem vl_drop_le{l:List Int}(h:Dg l):∀(i:Nat),vl (l.drop i)≤vl l:=by
 intro i
 induction i generalizing l with
 | zero=>exact Int.le_refl _
 | succ i ih =>
  cases l with
  | nil=>exact Int.le_refl _
  | cons d l =>
   have:=ih h.tail;have:=h.head;have:=vl_nn h.tail
   rw[List.drop_succ_cons]
   have e:vl (d::l)=d+10000*vl l:=rfl
   omega
theorem apB8{n:Nat}(h:n≤1000000):apB 8 n=true:=by
 simp only[apB,Bool.and_eq_true,decide_eq_true_eq];omega
theorem w64_prd{i:Nat}(h:i≤1000000):w64 (((i+1:Nat):Int)-1)=(i:Int):=by
 rw[w64_id (by omega) (by omega)];omega
theorem dec_t{p:Prop} [Decidable p](h:p):decide p=true:=by simp[h]
theorem dec_f{p:Prop} [Decidable p](h:¬p):decide p=false:=by simp[h]
theorem numStep(n:Nat)(t0:Bool)(t1:List Int)(b:Bool)(rec0:Int→Option Num)(a:Int) :
  Dspec_l1Num_2 n t0 t1 b rec0 a=frk (decide (a>0)) ((lget t1 (w64 (a-1))).bind fun v0=>frk (v0==0) (rec0 (w64 (a-1))) (Dspec_l1Num_1 n t0 t1 a b)) (Dspec_l1Num_1 n t0 t1 a b):=rfl
theorem numEnd(n:Nat)(t0:Bool)(l:List Int)(i:Nat)(b:Bool)(hi:i≤l.length)(hl:l.length≤1000) :
  Dspec_l1Num_1 n t0 l (i:Int) b=some ⟨t0&&decide (0<i),l.take i⟩:=by
 unfold Dspec_l1Num_1
 have hc:apB 8 (0+(l.take i).length)=true:=apB8 (by rw[List.length_take];omega)
 rw[lsl_take _ _ hi]
 simp only[Option.bind_some]
 rw[chk_eq hc,chk_eq hc]
 cases t0
 ·rw[frk_f];rfl
 ·rw[frk_t]
  have:decide ((i:Int)>0)=decide (0<i):=dec_iff (by omega)
  rw[this];simp
theorem numLoop(n:Nat)(t0 b:Bool)(l:List Int)(hD:Dg l)(hl:l.length≤1000){v:Nat}(hv:vl l=v):∀(i m:Nat),i≤l.length→vl (l.take i)=v→i<m →
  loopN (Dspec_l1Num_2 n t0 l b) m (i:Int)=some ⟨t0&&decide (0<v),dg v⟩:=by
 intro i
 induction i with
 | zero =>
  intro m _ h0 hm
  obtain⟨m,rfl⟩:∃j,m=j+1:=⟨m-1,by omega⟩
  have:v=0:=by simp[vl] at h0;omega
  subst this
  rw[loop_suc,numStep,dec_f (by simp),frk_f,numEnd n t0 l 0 b (by omega) hl,dg_zero]
  rfl
 | succ i ih =>
  intro m hi h0 hm
  obtain⟨m,rfl⟩:∃j,m=j+1:=⟨m-1,by omega⟩
  obtain⟨d,hd⟩:∃d,l[i]?=some d:=⟨l[i],List.getElem?_eq_getElem (by omega)⟩
  rw[loop_suc,numStep,dec_t (by omega),frk_t,w64_prd (by omega),lget_nat,hd,Option.bind_some]
  by_cases h:d=0
  ·subst h
   rw[show ((0:Int)==0)=true from rfl,frk_t]
   refine ih m (by omega) ?_ (by omega)
   rw[vl_take_s hd] at h0;omega
  ·rw[show (d==0)=false by simpa using h,frk_f,numEnd n t0 l (i+1) b hi hl]
   have hlast:(l.take (i+1)).getLast?≠some 0:=by
    rw[List.take_add_one,hd];simpa using h
   have e:=dg_of' (hD.take (i+1)) hlast h0
   have hp:=(dg_of (hD.take (i+1)) hlast).2 (by rw[List.take_add_one,hd];simp)
   rw[←e]
   have:decide (0<i+1)=decide (0<v):=dec_iff ⟨fun _=>by omega,fun _=>by omega⟩
   rw[this]
theorem numOk(n:Nat)(t0:Bool)(l:List Int)(hD:Dg l)(hl:l.length≤1000){v:Nat}(hv:vl l=v)(hn:l.length<n):Dspec_l1Num n t0 l=some ⟨t0&&decide (0<v),dg v⟩:=by
 unfold Dspec_l1Num
 exact numLoop n t0 false l hD hl hv l.length n (Nat.le_refl _) (by rw[List.take_length];exact hv) hn
theorem ofStep(n:Nat)(t0:Int)(b:Bool)(rec0:(Int×List Int)→Option Num)(t3:Int)(l:List Int) :
  Dspec_Of_2 n t0 b rec0 (t3,l)=frk (decide (t3>0)) (chk (apB 8 (l.length+1)) (rec0 (IntKind.u64.wrap (Int.tdiv t3 10000),(l++[w64 (Int.tmod t3 10000)])))) (Dspec_Of_1 n t0 b l):=rfl
theorem u64w{x:Int}(h:0≤x)(h2:x<18446744073709551616):IntKind.u64.wrap x=x:=by
 have:IntKind.u64.wrap x=x % 18446744073709551616:=rfl
 omega
theorem ofLoop(n:Nat)(t0:Int)(b:Bool):∀(v:Nat) (l:List Int) (m:Nat),v<18446744073709551616→l.length+(dg v).length≤1000→(dg v).length<m →
  loopN (Dspec_Of_2 n t0 b) m ((v:Int),l)=Dspec_Of_1 n t0 b (l++dg v):=by
 intro v
 induction v using Nat.strongRecOn with
 | ind v ih =>
  intro l m h0 h1 hm
  obtain⟨m,rfl⟩:∃j,m=j+1:=⟨m-1,by omega⟩
  rw[loop_suc,ofStep]
  by_cases h:v=0
  ·subst h;rw[dec_f (by simp),frk_f,dg_zero,List.append_nil]
  ·rw[dec_t (by omega),frk_t]
   rw[dg_pos (by omega)] at h1 hm ⊢
   rw[List.length_cons] at h1 hm
   rw[chk_eq (apB8 (by omega))]
   have e1:IntKind.u64.wrap (Int.tdiv (v:Int) 10000)=((v / 10000:Nat):Int):=by
    rw[Int.tdiv_eq_ediv_of_nonneg (by omega),u64w (by omega) (by omega)];omega
   have e2:w64 (Int.tmod (v:Int) 10000)=((v % 10000:Nat):Int):=by
    rw[Int.tmod_eq_emod_of_nonneg (by omega),w64_id (by omega) (by omega)];omega
   rw[e1,e2,ih (v / 10000) (by omega) _ m (by omega) (by rw[List.length_append,List.length_singleton];omega) (by omega),List.append_assoc]
   rfl
theorem ofOk(n:Nat)(x:Int)(h:x.natAbs<1000000000000)(hn:5≤n):Dspec_Of n x=some ⟨decide (x<0),dg x.natAbs⟩:=by
 have hl:=dg_len3 h
 have key:∀b,Dspec_Of_0 n x (x.natAbs:Int) b []=some ⟨decide (x<0),dg x.natAbs⟩:=by
  intro b
  unfold Dspec_Of_0
  rw[ofLoop n x b x.natAbs [] n (by omega) (by simp;omega) (by omega),List.nil_append]
  unfold Dspec_Of_1
  rw[numOk n _ _ (Dg_dg _) (by omega) (vl_dg _) (by omega),Option.bind_some]
  by_cases hx:x<0
  ·simp[hx];omega
  ·simp[hx]
 unfold Dspec_Of
 by_cases hx:x<0
 ·rw[dec_t hx,frk_t]
  have e:IntKind.u64.wrap ((IntKind.u64.wrap (w64 (0-(w64 (x+1)))))+1)=(x.natAbs:Int):=by
   rw[w64_id (x:=x+1) (by omega) (by omega),w64_id (by omega) (by omega),u64w (x:=0-(x+1)) (by omega) (by omega),u64w (by omega) (by omega)];omega
  rw[e,key];rw[dec_t hx]
 ·rw[dec_f hx,frk_f]
  have e:IntKind.u64.wrap x=(x.natAbs:Int):=by rw[u64w (by omega) (by omega)];omega
  rw[e,key];rw[dec_f hx]
theorem nokStep(n:Nat)(t3:Int)(g:Bool)(l:List Int)(rec0:Int→Option Bool)(a:Int) :
  Dspec_NumOk_2 n t3 g l rec0 a=frk (decide (a<t3)) (frk (decide (a≤120)) ((lget l a).bind fun v0=>(Dspec_l1In v0 0 9999).bind fun v1=>frk (!v1) (some false) (rec0 (w64 (a+1)))) (Dspec_NumOk_1 n t3 g l)) (Dspec_NumOk_1 n t3 g l):=rfl
theorem nokEnd(n:Nat)(g:Bool)(v:Nat)(hl:(dg v).length≤100)(hg:g=true→0<v):Dspec_NumOk_1 n ((dg v).length:Int) g (dg v)=some true:=by
 unfold Dspec_NumOk_1
 rw[dec_t (by omega),frk_t]
 by_cases h:v=0
 ·subst h
  rw[dg_zero]
  have:g=false:=by cases g with
   | false=>rfl
   | true=>have:=hg rfl;omega
  subst this;rfl
 ·have hp:=List.length_pos_iff.2 (dg_ne.2 (show 0<v by omega))
  obtain⟨k,hk⟩:∃k,(dg v).length=k+1:=⟨(dg v).length-1,by omega⟩
  have hla:=dg_last v
  rw[List.getLast?_eq_getElem?,hk] at hla
  obtain⟨d,hd⟩:∃d,(dg v)[k]?=some d:=⟨(dg v)[k],List.getElem?_eq_getElem (by omega)⟩
  rw[Nat.add_sub_cancel,hd] at hla
  have hd0:d≠0:=by simpa using hla
  rw[hk,show (((k+1:Nat):Int)==0)=false by simp;omega,frk_f,dec_t (by omega),frk_t,w64_prd (by omega),lget_nat,hd,Option.bind_some]
  simpa using hd0
theorem nokLoop(n:Nat)(g:Bool)(v:Nat)(hl:(dg v).length≤100)(hg:g=true→0<v):∀(k i m:Nat),i+k=(dg v).length→k<m →
  loopN (Dspec_NumOk_2 n ((dg v).length:Int) g (dg v)) m (i:Int)=some true:=by
 intro k
 induction k with
 | zero =>
  intro i m h0 hm
  obtain⟨m,rfl⟩:∃j,m=j+1:=⟨m-1,by omega⟩
  rw[loop_suc,nokStep,dec_f (by omega),frk_f,nokEnd n g v hl hg]
 | succ k ih =>
  intro i m h0 hm
  obtain⟨m,rfl⟩:∃j,m=j+1:=⟨m-1,by omega⟩
  obtain⟨d,hd⟩:∃d,(dg v)[i]?=some d:=⟨(dg v)[i],List.getElem?_eq_getElem (by omega)⟩
  have:=(Dg_dg v).get hd
  rw[loop_suc,nokStep,dec_t (by omega),frk_t,dec_t (by omega),frk_t,lget_nat,hd,Option.bind_some,sIn,Option.bind_some,rIn_iff.2 this,Bool.not_true,frk_f,w64_suc (by unfold big;omega)]
  exact ih (i+1) m (by omega) (by omega)
theorem nokOk(n:Nat)(g:Bool)(v:Nat)(hv:v<1000000000000)(hg:g=true→0<v)(hn:5≤n):Dspec_NumOk n ⟨g,dg v⟩=some true:=by
 have hl:=dg_len3 hv
 unfold Dspec_NumOk
 exact nokLoop n g v (by omega) hg (dg v).length 0 n (by omega) (by omega)
theorem magOk(n:Nat)(g:Bool)(v:Nat)(hv:v<1000000000000)(hg:g=true→0<v)(hn:5≤n):Dspec_l1Mag n ⟨g,dg v⟩=some (dg v):=by
 unfold Dspec_l1Mag;rw[nokOk n g v hv hg hn];rfl
theorem signOk(n:Nat)(g:Bool)(v:Nat)(hv:v<1000000000000)(hg:g=true→0<v)(hn:5≤n):Dspec_l1Sign n ⟨g,dg v⟩=some g:=by
 unfold Dspec_l1Sign;rw[nokOk n g v hv hg hn];rfl
end Evl.T
namespace Evl.T
open Go Evl
theorem cmpStep(n:Nat)(a b:List Int)(rec0:Int→Option Int)(i:Int) :
  Dspec_l1CmpMag_0 n a b rec0 i=frk (decide (i≥0)) ((lget a i).bind fun v0=>(lget b i).bind fun v1=>frk (v0 != v1) ((lget a i).bind fun v2=>(lget b i).bind fun v3=>frk (decide (v2<v3)) (some (-1)) (some 1)) (rec0 (w64 (i-1)))) (some 0):=rfl
theorem pow_step{x y P:Int}(hP:0≤P)(h:x<y):P*x+P≤P*y:=by
 have:P*(x+1)≤P*y:=Int.mul_le_mul_of_nonneg_left (by omega) hP
 rw[Int.mul_add,Int.mul_one] at this;exact this
theorem cmpLoop(n:Nat){a b:List Int}(ha:Dg a)(hb:Dg b)(hl:a.length=b.length)(hl2:a.length≤1000):∀(i m:Nat),i≤a.length→i<m →
  ∃r,loopN (Dspec_l1CmpMag_0 n a b) m ((i:Int)-1)=some r∧(r≥0↔vl (b.take i)≤vl (a.take i)):=by
 intro i
 induction i with
 | zero =>
  intro m _ hm
  obtain⟨m,rfl⟩:∃j,m=j+1:=⟨m-1,by omega⟩
  refine⟨0,?_,by simp[vl]⟩
  rw[loop_suc,cmpStep,dec_f (by omega),frk_f]
 | succ i ih =>
  intro m hi hm
  obtain⟨m,rfl⟩:∃j,m=j+1:=⟨m-1,by omega⟩
  obtain⟨x,hx⟩:∃d,a[i]?=some d:=⟨a[i],List.getElem?_eq_getElem (by omega)⟩
  obtain⟨y,hy⟩:∃d,b[i]?=some d:=⟨b[i],List.getElem?_eq_getElem (by omega)⟩
  have e:((i+1:Nat):Int)-1=(i:Int):=by omega
  rw[loop_suc,cmpStep,e,dec_t (by omega),frk_t,lget_nat,lget_nat,hx,hy,Option.bind_some,Option.bind_some]
  simp only[Option.bind_some]
  have p1:=vl_lt (ha.take i)
  have p2:=vl_lt (hb.take i)
  rw[List.length_take,Nat.min_eq_left (by omega)] at p1 p2
  have q1:=vl_nn (ha.take i)
  have q2:=vl_nn (hb.take i)
  have hP:(0:Int)≤10000 ^ i:=Int.pow_nonneg (by omega)
  rw[vl_take_s hx,vl_take_s hy]
  by_cases h:x=y
  ·subst h
   rw[show (x != x)=false by simp,frk_f,w64_id (by omega) (by omega)]
   obtain⟨r,h1,h2⟩:=ih m (by omega) (by omega)
   exact⟨r,h1,h2.trans (by omega)⟩
  ·rw[show (x != y)=true by simpa using h,frk_t]
   by_cases h2:x<y
   ·refine⟨-1,by rw[dec_t h2,frk_t],?_⟩
    have:=pow_step hP h2
    omega
   ·refine⟨1,by rw[dec_f h2,frk_f],?_⟩
    have:=pow_step hP (show y<x by omega)
    omega
theorem cmpOk(n:Nat)(a b:Nat)(hl:(dg a).length≤100)(hl2:(dg b).length≤100)(hn:101≤n):∃r,Dspec_l1CmpMag n (dg a) (dg b)=some r∧(r≥0↔b≤a):=by
 unfold Dspec_l1CmpMag
 by_cases h:(dg a).length=(dg b).length
 ·rw[show (((dg a).length:Int) != ((dg b).length:Int))=false by rw[h];simp,frk_f,w64_id (by omega) (by omega)]
  obtain⟨r,h1,h2⟩:=cmpLoop n (Dg_dg a) (Dg_dg b) h (by omega) (dg a).length n (Nat.le_refl _) (by omega)
  refine⟨r,h1,h2.trans ?_⟩
  rw[List.take_length,h,List.take_length,vl_dg,vl_dg];omega
 ·rw[show (((dg a).length:Int) != ((dg b).length:Int))=true by simpa using by omega,frk_t]
  by_cases h2:(dg a).length<(dg b).length
  ·refine⟨-1,by rw[dec_t (by omega),frk_t],?_⟩
   constructor
   ·intro h;omega
   ·intro h;have:=dg_mono h;omega
  ·refine⟨1,by rw[dec_f (by omega),frk_f],?_⟩
   constructor
   ·intro _
    by_cases hh:b≤a
    ·exact hh
    ·have:=dg_mono (show a≤b by omega);omega
   ·intro _;omega
theorem guessStep1(n:Nat)(a b:List Int)(rec0:Int×Int→Option Int)(t5 t6:Int) :
  Dspec_l1Guess_6 n a b rec0 (t5,t6)=frk (decide (t6≥0)) (frk (decide (t6≥(w64 ((b.length:Int)-3)))) ((lget a t6).bind fun v0=>rec0 (w64 ((w64 (t5*10000))+v0),w64 (t6-1))) (Dspec_l1Guess_1 n b t5 0 (w64 ((b.length:Int)-1)))) (Dspec_l1Guess_1 n b t5 0 (w64 ((b.length:Int)-1))):=rfl
theorem guessStep2(n:Nat)(b:List Int)(t5:Int)(rec1:Int×Int→Option Int)(t7 t8:Int) :
  Dspec_l1Guess_5 n b t5 rec1 (t7,t8)=frk (decide (t8≥0)) (frk (decide (t8≥(w64 ((b.length:Int)-3)))) ((lget b t8).bind fun v1=>rec1 (w64 ((w64 (t7*10000))+v1),w64 (t8-1))) (Dspec_l1Guess_3 n t5 t7 (decide ((b.length:Int)>3)))) (Dspec_l1Guess_3 n t5 t7 (decide ((b.length:Int)>3))):=rfl
theorem vl_small{a:List Int}(ha:Dg a)(hl:a.length≤3):vl a<1000000000000:=by
 have h:=vl_lt ha
 have:a.length=0∨a.length=1∨a.length=2∨a.length=3:=by omega
 rcases this with e | e | e | e <;> rw[e] at h <;> omega
theorem guessL1(n:Nat){a b:List Int}(ha:Dg a)(hl:a.length≤3)(hlb:b.length≤3):∀(i m:Nat),i≤a.length→i<m →
  loopN (Dspec_l1Guess_6 n a b) m (vl (a.drop i),(i:Int)-1)=Dspec_l1Guess_1 n b (vl a) 0 (w64 ((b.length:Int)-1)):=by
 intro i
 induction i with
 | zero =>
  intro m _ hm
  obtain⟨m,rfl⟩:∃j,m=j+1:=⟨m-1,by omega⟩
  rw[loop_suc,guessStep1,dec_f (by omega),frk_f];rfl
 | succ i ih =>
  intro m hi hm
  obtain⟨m,rfl⟩:∃j,m=j+1:=⟨m-1,by omega⟩
  obtain⟨x,hx⟩:∃d,a[i]?=some d:=⟨a[i],List.getElem?_eq_getElem (by omega)⟩
  have e:((i+1:Nat):Int)-1=(i:Int):=by omega
  have b1:=vl_small ha hl
  have b2:=vl_drop_le ha i
  have b3:=vl_nn (ha.drop i)
  have b4:=vl_nn (ha.drop (i+1))
  have b5:=ha.get hx
  have e2:=vl_drop_s hx
  rw[loop_suc,guessStep1,e,dec_t (by omega),frk_t,dec_t (by rw[w64_id (by omega) (by omega)];omega),frk_t,lget_nat,hx,Option.bind_some]
  rw[w64_id (x:=vl (a.drop (i+1))*10000) (by omega) (by omega),show vl (a.drop (i+1))*10000+x=vl (a.drop i) by omega,w64_id (x:=vl (a.drop i)) (by omega) (by omega),w64_id (x:=(i:Int)-1) (by omega) (by omega)]
  exact ih m (by omega) (by omega)
theorem guessL2(n:Nat){b:List Int}(ha:Dg b)(hl:b.length≤3)(t5:Int):∀(i m:Nat),i≤b.length→i<m →
  loopN (Dspec_l1Guess_5 n b t5) m (vl (b.drop i),(i:Int)-1)=Dspec_l1Guess_3 n t5 (vl b) false:=by
 intro i
 induction i with
 | zero =>
  intro m _ hm
  obtain⟨m,rfl⟩:∃j,m=j+1:=⟨m-1,by omega⟩
  rw[loop_suc,guessStep2,dec_f (by omega),frk_f,dec_f (by omega)];rfl
 | succ i ih =>
  intro m hi hm
  obtain⟨m,rfl⟩:∃j,m=j+1:=⟨m-1,by omega⟩
  obtain⟨x,hx⟩:∃d,b[i]?=some d:=⟨b[i],List.getElem?_eq_getElem (by omega)⟩
  have e:((i+1:Nat):Int)-1=(i:Int):=by omega
  have b1:=vl_small ha hl
  have b2:=vl_drop_le ha i
  have b3:=vl_nn (ha.drop i)
  have b4:=vl_nn (ha.drop (i+1))
  have b5:=ha.get hx
  have e2:=vl_drop_s hx
  rw[loop_suc,guessStep2,e,dec_t (by omega),frk_t,dec_t (by rw[w64_id (by omega) (by omega)];omega),frk_t,lget_nat,hx,Option.bind_some]
  rw[w64_id (x:=vl (b.drop (i+1))*10000) (by omega) (by omega),show vl (b.drop (i+1))*10000+x=vl (b.drop i) by omega,w64_id (x:=vl (b.drop i)) (by omega) (by omega),w64_id (x:=(i:Int)-1) (by omega) (by omega)]
  exact ih m (by omega) (by omega)
theorem guessOk(n a b:Nat)(ha:a<1000000000000)(hb:0<b)(hab:b≤a)(hn:5≤n):Dspec_l1Guess n (dg a) (dg b)=some ((a / b:Nat):Int):=by
 have l1:=dg_len3 ha
 have l2:=dg_len3 (show b<1000000000000 by omega)
 unfold Dspec_l1Guess
 rw[w64_id (by omega) (by omega)]
 have e1:=guessL1 n (b:=dg b) (Dg_dg a) l1 l2 (dg a).length n (Nat.le_refl _) (by omega)
 rw[List.drop_length] at e1
 have e1':loopN (Dspec_l1Guess_6 n (dg a) (dg b)) n ((0:Int),((dg a).length:Int)-1)=_:=e1
 rw[e1']
 unfold Dspec_l1Guess_1
 rw[w64_id (by omega) (by omega)]
 have e2:=guessL2 n (Dg_dg b) l2 (vl (dg a)) (dg b).length n (Nat.le_refl _) (by omega)
 rw[List.drop_length] at e2
 have e2':loopN (Dspec_l1Guess_5 n (dg b) (vl (dg a))) n ((0:Int),((dg b).length:Int)-1)=_:=e2
 rw[e2',vl_dg,vl_dg]
 unfold Dspec_l1Guess_3 Dspec_l1Guess_4
 rw[frk_f]
 have hq:0<a / b:=Nat.div_pos hab hb
 have hq2:a / b≤a:=Nat.div_le_self a b
 have e3:qt .i64 (a:Int) (b:Int)=some ((a / b:Nat):Int):=by
  unfold qt
  rw[if_neg (by omega),Int.tdiv_eq_ediv_of_nonneg (by omega)]
  have:IntKind.i64.wrap ((a:Int) / (b:Int))=((a / b:Nat):Int):=by
   have e:(a:Int) / (b:Int)=((a / b:Nat):Int):=by simp
   rw[e];exact w64_id (by omega) (by omega)
  rw[this]
 rw[e3]
 simp only[Option.bind_some]
 rw[dec_t (by omega),frk_t]
def subR:List Int→List Int→Int→List Int
 | [],_,_=>[]
 | x::xs,ys,c=>if x-c-ys.headD 0<0 then (x-c-ys.headD 0+10000)::subR xs ys.tail 1 else (x-c-ys.headD 0)::subR xs ys.tail 0
theorem hd_ok{ys:List Int}(h:Dg ys):0≤ys.headD 0∧ys.headD 0≤9999:=by
 cases ys with
 | nil=>simp
 | cons y ys=>exact h.head
theorem tl_ok{ys:List Int}(h:Dg ys):Dg ys.tail:=by
 cases ys with
 | nil=>exact Dg.nil
 | cons y ys=>exact h.tail
theorem vl_hd(ys:List Int):vl ys=ys.headD 0+10000*vl ys.tail:=by
 cases ys with
 | nil=>rfl
 | cons y ys=>rfl
theorem subR_Dg:∀(xs ys:List Int) (c:Int),Dg xs→Dg ys→0≤c→c≤1→Dg (subR xs ys c)
 | [],_,_,_,_,_,_=>Dg.nil
 | x::xs,ys,c,h1,h2,h3,h4=>by
  have:=h1.head;have:=hd_ok h2
  unfold subR
  split
  ·exact Dg.cons (by omega) (by omega) (subR_Dg xs ys.tail 1 h1.tail (tl_ok h2) (by omega) (by omega))
  ·exact Dg.cons (by omega) (by omega) (subR_Dg xs ys.tail 0 h1.tail (tl_ok h2) (by omega) (by omega))
theorem subR_vl:∀(xs ys:List Int) (c:Int),Dg xs→Dg ys→0≤c→c≤1→vl ys+c≤vl xs→vl (subR xs ys c)=vl xs-vl ys-c
 | [],ys,c,_,h2,h3,_,h5=>by
  have:=vl_nn h2
  have e:vl []=0:=rfl
  show vl []=_
  omega
 | x::xs,ys,c,h1,h2,h3,h4,h5=>by
  have:=h1.head;have:=hd_ok h2
  have e1:=vl_hd ys
  have e2:vl (x::xs)=x+10000*vl xs:=rfl
  unfold subR
  split
  ·have:=subR_vl xs ys.tail 1 h1.tail (tl_ok h2) (by omega) (by omega) (by omega)
   show x-c-ys.headD 0+10000+10000*vl (subR xs ys.tail 1)=_
   omega
  ·have:=subR_vl xs ys.tail 0 h1.tail (tl_ok h2) (by omega) (by omega) (by omega)
   show x-c-ys.headD 0+10000*vl (subR xs ys.tail 0)=_
   omega
theorem subR_len:∀(xs ys:List Int) (c:Int),(subR xs ys c).length=xs.length
 | [],_,_=>rfl
 | x::xs,ys,c=>by
  unfold subR
  split
  ·rw[List.length_cons,List.length_cons,subR_len]
  ·rw[List.length_cons,List.length_cons,subR_len]
theorem subStep(n:Nat)(a b:List Int)(rec0:Int×Int×List Int→Option (List Int))(t6 t7:Int)(l:List Int) :
  Dspec_l1SubMag_2 n a b rec0 (t6,t7,l)=frk (decide (t7<(a.length:Int))) ((lget a t7).bind fun v0=>frk (decide (t7<(b.length:Int))) ((lget b t7).bind fun v1=>Dspec_l1SubMag_0 n rec0 a b 0 t7 (w64 ((w64 (v0-t6))-v1)) (decide ((w64 ((w64 (v0-t6))-v1))<0)) l) (Dspec_l1SubMag_0 n rec0 a b 0 t7 (w64 (v0-t6)) (decide ((w64 (v0-t6))<0)) l)) (some l):=rfl
theorem subMid(n:Nat)(a b:List Int)(rec0:Int×Int×List Int→Option (List Int))(t:Int)(i:Nat)(l:List Int)(ht:-20000≤t)(ht2:t≤20000)(hl:l.length≤1000)(hi:i≤1000) :
  Dspec_l1SubMag_0 n rec0 a b 0 (i:Int) t (decide (t<0)) l=if t<0 then rec0 (1,((i+1:Nat):Int),l++[t+10000]) else rec0 (0,((i+1:Nat):Int),l++[t]):=by
 unfold Dspec_l1SubMag_0 Dspec_l1SubMag_1
 rw[chk_eq (apB8 (by omega)),chk_eq (apB8 (by omega)),w64_suc (by unfold big;omega),w64_id (x:=t+10000) (by omega) (by omega),frk_if]
 by_cases h:t<0
 ·rw[if_pos h,dec_t h,if_pos rfl]
 ·rw[if_neg h,dec_f h,if_neg (by decide)]
theorem subLoop(n:Nat){a b:List Int}(ha:Dg a)(hb:Dg b)(hl:a.length≤100):∀(k i m:Nat) (c:Int) (l:List Int),i+k=a.length→k<m→0≤c→c≤1→l.length=i →
  loopN (Dspec_l1SubMag_2 n a b) m (c,(i:Int),l)=some (l++subR (a.drop i) (b.drop i) c):=by
 intro k
 induction k with
 | zero =>
  intro i m c l h0 hm _ _ _
  obtain⟨m,rfl⟩:∃j,m=j+1:=⟨m-1,by omega⟩
  rw[loop_suc,subStep,dec_f (by omega),frk_f,show a.drop i=[] from List.drop_eq_nil_of_le (by omega)]
  show some l=some (l++[])
  rw[List.append_nil]
 | succ k ih =>
  intro i m c l h0 hm hc hc2 hll
  obtain⟨m,rfl⟩:∃j,m=j+1:=⟨m-1,by omega⟩
  obtain⟨x,hx⟩:∃d,a[i]?=some d:=⟨a[i],List.getElem?_eq_getElem (by omega)⟩
  obtain⟨hi,he⟩:=List.getElem?_eq_some_iff.1 hx
  have hxd:=ha.get hx
  have fin:∀y:Int,y=(b.drop i).headD 0→Dspec_l1SubMag_0 n (loopN (Dspec_l1SubMag_2 n a b) m) a b 0 (i:Int) (x-c-y) (decide (x-c-y<0)) l=some (l++subR (a.drop i) (b.drop i) c):=by
   intro y hy
   have hyd:=hd_ok (hb.drop i)
   rw[←hy] at hyd
   rw[subMid n a b _ (x-c-y) i l (by omega) (by omega) (by omega) (by omega),List.drop_eq_getElem_cons hi,he]
   unfold subR
   rw[←hy,List.tail_drop]
   by_cases h:x-c-y<0
   ·rw[if_pos h,if_pos h,ih (i+1) m 1 _ (by omega) (by omega) (by omega) (by omega) (by simp[hll]),List.append_assoc];rfl
   ·rw[if_neg h,if_neg h,ih (i+1) m 0 _ (by omega) (by omega) (by omega) (by omega) (by simp[hll]),List.append_assoc];rfl
  rw[loop_suc,subStep,dec_t (by omega),frk_t,lget_nat,hx,Option.bind_some]
  by_cases hb2:i<b.length
  ·obtain⟨y,hy⟩:∃d,b[i]?=some d:=⟨b[i],List.getElem?_eq_getElem hb2⟩
   have hyd:=hb.get hy
   rw[dec_t (by omega),frk_t,lget_nat,hy,Option.bind_some,w64_id (x:=x-c) (by omega) (by omega),w64_id (by omega) (by omega)]
   refine fin y ?_
   rw[List.drop_eq_getElem_cons hb2]
   have:=(List.getElem?_eq_some_iff.1 hy).2
   rw[this];rfl
  ·rw[dec_f (by omega),frk_f,w64_id (x:=x-c) (by omega) (by omega)]
   have:=fin 0 (by rw[show b.drop i=[] from List.drop_eq_nil_of_le (by omega)];rfl)
   rw[show x-c-0=x-c by omega] at this
   exact this
theorem subOk(n:Nat){a b:List Int}(ha:Dg a)(hb:Dg b)(hl:a.length≤100)(hv:vl b≤vl a)(hn:101≤n):∃r,Dspec_l1SubMag n a b=some r∧Dg r∧vl r=vl a-vl b∧r.length=a.length:=by
 refine⟨subR a b 0,?_,subR_Dg a b 0 ha hb (by omega) (by omega),?_,subR_len a b 0⟩
 ·unfold Dspec_l1SubMag
  exact subLoop n ha hb hl a.length 0 n 0 [] (by omega) (by omega) (by omega) (by omega) rfl
 ·have:=subR_vl a b 0 ha hb (by omega) (by omega) (by omega);omega
theorem mulStep1(n:Nat)(rec0:(Int×List Int)→Option (List Int))(t0 t1:List Int)(t6:Int)(rec1:(Int×Int×List Int)→Option (List Int))(t7 t8:Int)(l15:List Int) :
  Dspec_l1MulMag_1 n rec0 t0 t1 t6 rec1 (t7,t8,l15)=frk (decide (t8<(t1.length:Int))) ((lget t0 t6).bind fun v1=>(lget t1 t8).bind fun v2=>(lget l15 (w64 (t6+t8))).bind fun v3=>(lget l15 (w64 (t6+t8))).bind fun _v4=>rec1 (w64 (Int.tdiv (w64 ((w64 ((w64 (v1*v2))+v3))+t7)) 10000),w64 (t8+1),(l15.set (Int.toNat (w64 (t6+t8))) (Int.tmod (w64 ((w64 ((w64 (v1*v2))+v3))+t7)) 10000)))) (Dspec_l1MulMag_0 n rec0 t0 t1 t6 t7 l15):=rfl
theorem mulStep2(n:Nat)(t0 t1:List Int)(rec0:(Int×List Int)→Option (List Int))(t6:Int)(l15:List Int) :
  Dspec_l1MulMag_2 n t0 t1 rec0 (t6,l15)=frk (decide (t6<(t0.length:Int))) (loopN (Dspec_l1MulMag_1 n rec0 t0 t1 t6) n (0,0,l15)) (some l15):=rfl
theorem get_pre{α:Type}(p:List α)(k:Nat)(z:List α):(p++z)[p.length+k]?=z[k]?:=by
 rw[List.getElem?_append_right (by omega)];congr 1;omega
theorem set_pre{α:Type}(p:List α)(k:Nat)(z:List α)(x:α):(p++z).set (p.length+k) x=p++z.set k x:=by
 rw[List.set_append_right _ _ (by omega)];congr 2;omega
theorem mul_nn{x y:Int}(hx:0≤x∧x≤9999)(hy:0≤y∧y≤9999):0≤x*y∧x*y≤99980001:=by
 refine⟨Int.mul_nonneg hx.1 hy.1,?_⟩
 have h1:x*y≤9999*y:=Int.mul_le_mul_of_nonneg_right hx.2 hy.1
 omega
theorem mulCell(n:Nat)(rec0:(Int×List Int)→Option (List Int))(xs ys:List Int)(rec1:(Int×Int×List Int)→Option (List Int))(c:Int)(j:Nat)(p zs:List Int){x y z:Int}
  (hx:xs[p.length]?=some x) (hy:ys[j]?=some y) (hz:zs[j]?=some z) (hp:p.length≤1000) (hj:j≤1000)
  (bx:0≤x∧x≤9999) (by':0≤y∧y≤9999) (bz:0≤z∧z≤9999) (bc:0≤c∧c≤9999) :
  Dspec_l1MulMag_1 n rec0 xs ys (p.length:Int) rec1 (c,(j:Int),p++zs)=rec1 ((x*y+z+c) / 10000,((j+1:Nat):Int),p++zs.set j ((x*y+z+c) % 10000)):=by
 have hjl:j<ys.length:=(List.getElem?_eq_some_iff.1 hy).1
 have hb:=mul_nn bx by'
 have e:w64 ((p.length:Int)+(j:Int))=((p.length+j:Nat):Int):=by rw[w64_id (by omega) (by omega)];omega
 rw[mulStep1,dec_t (by omega),frk_t,lget_nat,hx,Option.bind_some,lget_nat,hy,Option.bind_some,e,lget_nat,get_pre,hz,Option.bind_some,Option.bind_some,Int.toNat_natCast,set_pre]
 rw[w64_id (x:=x*y) (by omega) (by omega),w64_id (x:=x*y+z) (by omega) (by omega),w64_id (x:=x*y+z+c) (by omega) (by omega),Int.tdiv_eq_ediv_of_nonneg (by omega),Int.tmod_eq_emod_of_nonneg (by omega),w64_id (by omega) (by omega),w64_suc (by unfold big;omega)]
theorem mulRow(n:Nat)(rec0:(Int×List Int)→Option (List Int))(xs:List Int)(y0 y1:Int)(m:Nat)(p zs:List Int){x z0 z1 z2:Int}
  (hx:xs[p.length]?=some x) (hp:p.length≤1000) (hm:3≤m)
  (bx:0≤x∧x≤9999) (by0:0≤y0∧y0≤9999) (by1:0≤y1∧y1≤9999) (bz0:0≤z0∧z0≤9999) (bz1:0≤z1∧z1≤9999) :
  ∃d0 d1 c,loopN (Dspec_l1MulMag_1 n rec0 xs [y0,y1] (p.length:Int)) m (0,0,p++z0::z1::z2::zs)=rec0 (((p.length+1:Nat):Int),p++d0::d1::c::zs) ∧
   (0≤d0∧d0≤9999)∧(0≤d1∧d1≤9999)∧(0≤c∧c≤9999)∧d0+10000*d1+100000000*c=x*y0+10000*(x*y1)+z0+10000*z1:=by
 obtain⟨m,rfl⟩:∃j,m=j+3:=⟨m-3,by omega⟩
 have h0:=mul_nn bx by0
 have h1:=mul_nn bx by1
 have s1:=mulCell n rec0 xs [y0,y1] (loopN (Dspec_l1MulMag_1 n rec0 xs [y0,y1] (p.length:Int)) (m+2)) 0 0 p (z0::z1::z2::zs) hx (y:=y0) rfl rfl hp (by omega) bx by0 bz0 (by omega)
 have s2:=mulCell n rec0 xs [y0,y1] (loopN (Dspec_l1MulMag_1 n rec0 xs [y0,y1] (p.length:Int)) (m+1)) ((x*y0+z0+0) / 10000) 1 p ((x*y0+z0+0) % 10000::z1::z2::zs) hx (y:=y1) rfl rfl hp (by omega) bx by1 bz1 (by omega)
 refine⟨(x*y0+z0+0) % 10000,(x*y1+z1+(x*y0+z0+0) / 10000) % 10000,(x*y1+z1+(x*y0+z0+0) / 10000) / 10000,?_,by omega,by omega,by omega,by omega⟩
 rw[loop_suc]
 refine s1.trans ?_
 rw[loop_suc]
 refine s2.trans ?_
 rw[loop_suc,mulStep1,dec_f (by show ¬(((1+1:Nat):Int)<((2:Nat):Int));omega),frk_f]
 unfold Dspec_l1MulMag_0
 have e:w64 ((p.length:Int)+(([y0,y1]:List Int).length:Int))=((p.length+2:Nat):Int):=by
  show w64 ((p.length:Int)+((2:Nat):Int))=_
  rw[w64_id (by omega) (by omega)];omega
 rw[e,lget_nat,get_pre,Int.toNat_natCast,set_pre,w64_suc (by unfold big;omega)]
 rfl
theorem mulLoop(n:Nat)(y0 y1:Int)(by0:0≤y0∧y0≤9999)(by1:0≤y1∧y1≤9999)(hn:3≤n){xs:List Int}(hD:Dg xs)(hl:xs.length≤100) :
  ∀(k m:Nat) (p:List Int) (z0 z1:Int),p.length+k=xs.length→k<m→0≤z0∧z0≤9999→0≤z1∧z1≤9999 →
  ∃r,loopN (Dspec_l1MulMag_2 n xs [y0,y1]) m ((p.length:Int),p++z0::z1::List.replicate k 0)=some (p++r)∧Dg r∧vl r=z0+10000*z1+vl (xs.drop p.length)*(y0+10000*y1)∧r.length=k+2:=by
 intro k
 induction k with
 | zero =>
  intro m p z0 z1 h0 hm b0 b1
  obtain⟨m,rfl⟩:∃j,m=j+1:=⟨m-1,by omega⟩
  refine⟨[z0,z1],?_,Dg.cons b0.1 b0.2 (Dg.cons b1.1 b1.2 Dg.nil),?_,rfl⟩
  ·rw[loop_suc,mulStep2,dec_f (by omega),frk_f];rfl
  ·rw[List.drop_eq_nil_of_le (by omega)];simp[vl]
 | succ k ih =>
  intro m p z0 z1 h0 hm b0 b1
  obtain⟨m,rfl⟩:∃j,m=j+1:=⟨m-1,by omega⟩
  obtain⟨x,hx⟩:∃d,xs[p.length]?=some d:=⟨xs[p.length],List.getElem?_eq_getElem (by omega)⟩
  have bx:=hD.get hx
  obtain⟨d0,d1,c,e1,q0,q1,q2,q3⟩:=mulRow n (loopN (Dspec_l1MulMag_2 n xs [y0,y1]) m) xs y0 y1 n p (List.replicate k 0) (z2:=0) hx (by omega) hn bx by0 by1 b0 b1
  obtain⟨r,r1,r2,r3,r4⟩:=ih m (p++[d0]) d1 c (by simp;omega) (by omega) q1 q2
  refine⟨d0::r,?_,Dg.cons q0.1 q0.2 r2,?_,by rw[List.length_cons,r4]⟩
  ·rw[loop_suc,mulStep2,dec_t (by omega),frk_t,List.replicate_succ,e1]
   have e2:(p++[d0]).length=p.length+1:=by simp
   rw[e2,List.append_assoc,List.append_assoc] at r1
   exact r1
  ·have e2:(p++[d0]).length=p.length+1:=by simp
   rw[e2] at r3
   rw[vl_drop_s hx]
   show d0+10000*vl r=_
   rw[r3]
   generalize vl (xs.drop (p.length+1))=V
   have e3:(x+10000*V)*(y0+10000*y1)=(x*y0+10000*(x*y1))+10000*(V*(y0+10000*y1)):=by
    rw[Int.add_mul,Int.mul_add,Int.mul_assoc 10000]
    congr 2
    rw[←Int.mul_assoc,Int.mul_comm x 10000,Int.mul_assoc]
   rw[e3]
   generalize V*(y0+10000*y1)=W
   omega
theorem mkB8{k:Int}(h:0≤k)(h2:k≤1000000):mkB k 8=true:=by
 simp only[mkB,Bool.and_eq_true,decide_eq_true_eq];omega
theorem mulOk(n:Nat)(y0 y1:Int)(by0:0≤y0∧y0≤9999)(by1:0≤y1∧y1≤9999){xs:List Int}(hD:Dg xs)(hl:xs.length≤100)(hn:101≤n) :
  ∃r,Dspec_l1MulMag n xs [y0,y1]=some r∧Dg r∧vl r=vl xs*(y0+10000*y1)∧r.length=xs.length+2:=by
 have e:w64 ((xs.length:Int)+(([y0,y1]:List Int).length:Int))=((xs.length+2:Nat):Int):=by
  show w64 ((xs.length:Int)+((2:Nat):Int))=_
  rw[w64_id (by omega) (by omega)];omega
 obtain⟨r,r1,r2,r3,r4⟩:=mulLoop n y0 y1 by0 by1 (by omega) hD hl xs.length n [] 0 0 (by simp) (by omega) (by omega) (by omega)
 refine⟨r,?_,r2,by rw[r3];show 0+10000*0+vl (xs.drop 0)*_=_;rw[List.drop_zero];omega,r4⟩
 unfold Dspec_l1MulMag
 rw[e,chk_eq (mkB8 (by omega) (by omega)),Int.toNat_natCast]
 exact r1
end Evl.T
namespace Evl.T
open Go Evl
theorem divStep0(n:Nat)(rec0:(Int×List Int×List Int)→Option ((List Int)×(List Int)))(t0 t1:List Int)(t8:Int)(rec1:(List Int×List Int)→Option ((List Int)×(List Int)))(l12 l29:List Int) :
  Dspec_l1DivMag_0 n rec0 t0 t1 t8 rec1 (l12,l29)=(Dspec_l1CmpMag n l29 t1).bind fun v4=>frk (decide (v4≥0)) ((Dspec_l1Guess n l29 t1).bind fun v5=>(lget l12 t8).bind fun v6=>(lget l12 t8).bind fun _v7=>(Dspec_l1MulMag n t1 [Int.tmod v5 10000,w64 (Int.tdiv v5 10000)]).bind fun v8=>(Dspec_l1Num n false v8).bind fun v9=>(Dspec_l1SubMag n l29 v9.D).bind fun v10=>(Dspec_l1Num n false v10).bind fun v11=>rec1 ((l12.set (Int.toNat t8) (w64 (v6+v5))),v11.D)) (rec0 (w64 (t8-1),l12,l29)):=rfl
theorem divStep1(n:Nat)(t0 t1:List Int)(rec0:(Int×List Int×List Int)→Option ((List Int)×(List Int)))(t8:Int)(l12 l13:List Int) :
  Dspec_l1DivMag_1 n t0 t1 rec0 (t8,l12,l13)=frk (decide (t8≥0)) ((lget t0 t8).bind fun v1=>chk (apB 8 (1+l13.length)) ((Dspec_l1Num n false ([v1]++l13)).bind fun v3=>loopN (Dspec_l1DivMag_0 n rec0 t0 t1 t8) n (l12,v3.D))) (some (l12,l13)):=rfl
theorem divOut(n:Nat)(rec0:(Int×List Int×List Int)→Option ((List Int)×(List Int)))(t0:List Int)(i:Nat)(q:List Int)(x b m:Nat)(hx:x<b)(hb:b<1000000000000)(hn:101≤n)(hi:i≤1000)(hm:1≤m) :
  loopN (Dspec_l1DivMag_0 n rec0 t0 (dg b) (i:Int)) m (q,dg x)=rec0 ((i:Int)-1,q,dg x):=by
 obtain⟨m,rfl⟩:∃j,m=j+1:=⟨m-1,by omega⟩
 obtain⟨r,h1,h2⟩:=cmpOk n x b (by have:=dg_len3 (show x<1000000000000 by omega);omega) (by have:=dg_len3 hb;omega) hn
 rw[loop_suc,divStep0,h1,Option.bind_some,dec_f (by omega),frk_f,w64_id (by omega) (by omega)]
theorem set_same{l:List Int}{i:Nat}(h:l[i]?=some 0):l.set i 0=l:=by
 apply List.ext_getElem?
 intro j
 rw[List.getElem?_set]
 split
 ·rename_i hj
  subst hj
  have:=(List.getElem?_eq_some_iff.1 h).1
  rw[if_pos this,h]
 ·rfl
theorem divIn(n:Nat)(rec0:(Int×List Int×List Int)→Option ((List Int)×(List Int)))(t0:List Int)(i:Nat)(q:List Int)(x b:Nat)(hx:x<1000000000000)(hb0:0<b)(hb:b<1000000000000)(hq:x / b≤9999)(hi:i≤1000)(hz:q[i]?=some 0)(hn:101≤n) :
  loopN (Dspec_l1DivMag_0 n rec0 t0 (dg b) (i:Int)) n (q,dg x)=rec0 ((i:Int)-1,q.set i ((x / b:Nat):Int),dg (x % b)):=by
 by_cases h:x<b
 ·rw[divOut n rec0 t0 i q x b n h hb hn hi (by omega),Nat.div_eq_of_lt h,Nat.mod_eq_of_lt h]
  rw[show ((0:Nat):Int)=0 from rfl,set_same hz]
 ·obtain⟨m,hm⟩:∃j,n=j+1:=⟨n-1,by omega⟩
  have l1:=dg_len3 hx
  have l2:=dg_len3 hb
  obtain⟨r,h1,h2⟩:=cmpOk n x b (by omega) (by omega) hn
  have hg:=guessOk n x b hx hb0 (by omega) (by omega)
  have hy0:(0:Int)≤((x / b:Nat):Int):=Int.natCast_nonneg _
  have hy:(0:Int)≤((x / b:Nat):Int)∧((x / b:Nat):Int)≤9999:=by omega
  obtain⟨P,p1,p2,p3,p4⟩:=mulOk n ((x / b:Nat):Int) 0 hy (by omega) (Dg_dg b) (by omega) hn
  have hmul:b*(x / b)≤x:=Nat.mul_div_le x b
  have hmod:x % b=x-b*(x / b):=by have:=Nat.div_add_mod x b;omega
  have p3':vl P=((b*(x / b):Nat):Int):=by
   rw[p3,vl_dg,show ((x / b:Nat):Int)+10000*0=((x / b:Nat):Int) by omega];exact(Int.natCast_mul _ _).symm
  have hP:=numOk n false P p2 (by omega) p3' (by omega)
  obtain⟨R,r1,r2,r3,r4⟩:=subOk n (Dg_dg x) (Dg_dg (b*(x / b))) (by omega) (by rw[vl_dg,vl_dg];omega) hn
  have r3':vl R=((x % b:Nat):Int):=by rw[r3,vl_dg,vl_dg];omega
  have hR:=numOk n false R r2 (by omega) r3' (by omega)
  have hgen:loopN (Dspec_l1DivMag_0 n rec0 t0 (dg b) (i:Int)) (m+1) (q,dg x)=rec0 ((i:Int)-1,q.set i ((x / b:Nat):Int),dg (x % b)):=by
   rw[loop_suc,divStep0,h1,Option.bind_some,dec_t (by omega),frk_t,hg,Option.bind_some,lget_nat,hz,Option.bind_some,Option.bind_some]
   have e1:Int.tmod ((x / b:Nat):Int) 10000=((x / b:Nat):Int):=by rw[Int.tmod_eq_emod_of_nonneg (by omega)];omega
   have e2:w64 (Int.tdiv ((x / b:Nat):Int) 10000)=0:=by rw[Int.tdiv_eq_ediv_of_nonneg (by omega),w64_id (by omega) (by omega)];omega
   rw[e1,e2,p1,Option.bind_some,hP,Option.bind_some]
   show ((Dspec_l1SubMag n (dg x) (dg (b*(x / b)))).bind _)=_
   rw[r1,Option.bind_some,hR,Option.bind_some]
   rw[w64_id (x:=0+((x / b:Nat):Int)) (by omega) (by omega),show (0:Int)+((x / b:Nat):Int)=((x / b:Nat):Int) by omega,Int.toNat_natCast]
   exact divOut n rec0 t0 i _ (x % b) b m (Nat.mod_lt _ hb0) hb hn hi (by omega)
  rw[←hm] at hgen
  exact hgen
theorem divLoop(n A b:Nat)(hA:A<1000000000000)(hb0:0<b)(hb:b<1000000000000)(hn:101≤n):∀(i m:Nat) (qh:List Int) (H:Nat),i≤(dg A).length→i<m→vl ((dg A).drop i)=H→Dg qh→vl qh=((H / b:Nat):Int) →
  ∃q,loopN (Dspec_l1DivMag_1 n (dg A) (dg b)) m ((i:Int)-1,List.replicate i 0++qh,dg (H % b))=some (q,dg (A % b))∧Dg q∧vl q=((A / b:Nat):Int)∧q.length=i+qh.length:=by
 have l1:=dg_len3 hA
 intro i
 induction i with
 | zero =>
  intro m qh H _ hm hH hD hv
  obtain⟨m,rfl⟩:∃j,m=j+1:=⟨m-1,by omega⟩
  rw[List.drop_zero,vl_dg] at hH
  have:A=H:=by omega
  subst this
  exact⟨qh,by rw[loop_suc,divStep1,dec_f (by omega),frk_f];rfl,hD,hv,by omega⟩
 | succ i ih =>
  intro m qh H hi hm hH hD hv
  obtain⟨m,rfl⟩:∃j,m=j+1:=⟨m-1,by omega⟩
  obtain⟨d,hd⟩:∃d,(dg A)[i]?=some d:=⟨(dg A)[i],List.getElem?_eq_getElem (by omega)⟩
  have hdb:=(Dg_dg A).get hd
  obtain⟨e,rfl⟩:∃e:Nat,d=e:=⟨d.toNat,by omega⟩
  have hlt:=Nat.mod_lt H hb0
  have hdm:=Nat.div_add_mod H b
  have hH':vl ((dg A).drop i)=((e+10000*H:Nat):Int):=by rw[vl_drop_s hd,hH];omega
  have hle:=vl_drop_le (Dg_dg A) i
  rw[hH',vl_dg] at hle
  have hmodle:H % b≤H:=Nat.mod_le H b
  have lr:=dg_len3 (show H % b<1000000000000 by omega)
  have hx:e+10000*(H % b)<1000000000000:=by omega
  have hsplit:e+10000*H=(e+10000*(H % b))+b*(10000*(H / b)):=by
   have:b*(10000*(H / b))=10000*(b*(H / b)):=by rw[←Nat.mul_assoc,Nat.mul_comm b 10000,Nat.mul_assoc]
   omega
  have hdiv:(e+10000*H) / b=(e+10000*(H % b)) / b+10000*(H / b):=by rw[hsplit,Nat.add_mul_div_left _ _ hb0]
  have hmod:(e+10000*H) % b=(e+10000*(H % b)) % b:=by rw[hsplit,Nat.add_mul_mod_self_left]
  have hq:(e+10000*(H % b)) / b≤9999:=by
   have:(e+10000*(H % b)) / b<10000:=by rw[Nat.div_lt_iff_lt_mul hb0];omega
   omega
  have hnum:=numOk n false ([(e:Int)]++dg (H % b)) (Dg.cons hdb.1 hdb.2 (Dg_dg _)) (by simp;omega) (v:=e+10000*(H % b)) (by show (e:Int)+10000*vl (dg (H % b))=_;rw[vl_dg];omega) (by simp;omega)
  have hz:(List.replicate (i+1) (0:Int)++qh)[i]?=some 0:=by
   rw[List.getElem?_append_left (by simp)];simp
  have hin:=divIn n (loopN (Dspec_l1DivMag_1 n (dg A) (dg b)) m) (dg A) i (List.replicate (i+1) 0++qh) (e+10000*(H % b)) b hx hb0 hb hq (by omega) hz hn
  have hset:(List.replicate (i+1) (0:Int)++qh).set i (((e+10000*(H % b)) / b:Nat):Int)=List.replicate i 0++((((e+10000*(H % b)) / b:Nat):Int)::qh):=by
   have e1:List.replicate (i+1) (0:Int)++qh=List.replicate i 0++(0::qh):=by
    rw[List.replicate_succ'];simp
   have e2:=set_pre (List.replicate i (0:Int)) 0 (0::qh) (((e+10000*(H % b)) / b:Nat):Int)
   rw[List.length_replicate] at e2
   rw[e1];exact e2
  have hy0:(0:Int)≤(((e+10000*(H % b)) / b:Nat):Int):=Int.natCast_nonneg _
  obtain⟨q,q1,q2,q3,q4⟩:=ih m ((((e+10000*(H % b)) / b:Nat):Int)::qh) (e+10000*H) (by omega) (by omega) hH' (Dg.cons hy0 (by omega) hD) (by
   show (((e+10000*(H % b)) / b:Nat):Int)+10000*vl qh=_
   rw[hv,hdiv];omega)
  refine⟨q,?_,q2,q3,by rw[q4,List.length_cons];omega⟩
  have ei:((i+1:Nat):Int)-1=(i:Int):=by omega
  rw[loop_suc,divStep1,ei,dec_t (by omega),frk_t,lget_nat,hd,Option.bind_some,chk_eq (apB8 (by omega)),hnum,Option.bind_some]
  refine hin.trans ?_
  rw[hset,←hmod]
  exact q1
theorem divOk(n A b:Nat)(hA:A<1000000000000)(hb0:0<b)(hb:b<1000000000000)(hn:101≤n) :
  ∃q,Dspec_l1DivMag n (dg A) (dg b)=some (q,dg (A % b))∧Dg q∧vl q=((A / b:Nat):Int)∧q.length≤3:=by
 have l1:=dg_len3 hA
 obtain⟨q,q1,q2,q3,q4⟩:=divLoop n A b hA hb0 hb hn (dg A).length n [] 0 (Nat.le_refl _) (by omega) (by rw[List.drop_length];rfl) Dg.nil (by simp[vl])
 refine⟨q,?_,q2,q3,by rw[q4];simpa using l1⟩
 unfold Dspec_l1DivMag
 rw[chk_eq (mkB8 (by omega) (by omega)),w64_id (by omega) (by omega),Int.toNat_natCast]
 rw[Nat.zero_mod,dg_zero,List.append_nil] at q1
 exact q1
theorem gcdStep(n:Nat)(rec0:(List Int×List Int)→Option (List Int))(t0 t1:List Int) :
  Dspec_l1Gcd_0 n rec0 (t0,t1)=frk (decide ((t1.length:Int)>0)) ((Dspec_l1DivMag n t0 t1).bind fun v0=>rec0 (t1,v0.2)) (some t0):=rfl
theorem gcdLoop(n:Nat)(hn:101≤n):∀(b a m:Nat),b<m→a<1000000000000→b<1000000000000→loopN (Dspec_l1Gcd_0 n) m (dg a,dg b)=some (dg (Nat.gcd a b)):=by
 intro b
 induction b using Nat.strongRecOn with
 | ind b ih =>
  intro a m hm ha hb
  obtain⟨m,rfl⟩:∃j,m=j+1:=⟨m-1,by omega⟩
  rw[loop_suc,gcdStep]
  by_cases h:b=0
  ·subst h;rw[dg_zero,dec_f (by simp),frk_f,Nat.gcd_zero_right]
  ·have hp:=List.length_pos_iff.2 (dg_ne.2 (show 0<b by omega))
   obtain⟨q,q1,-,-,-⟩:=divOk n a b ha (by omega) hb hn
   have hlt:=Nat.mod_lt a (show b>0 by omega)
   rw[dec_t (by omega),frk_t,q1,Option.bind_some]
   refine(ih (a % b) hlt b m (by omega) hb (by omega)).trans ?_
   rw[Nat.gcd_comm b,Nat.gcd_comm a,Nat.gcd_rec b a]
theorem gcd_lt{a b:Nat}(ha:a<1000000000000)(hb:b<1000000000000):Nat.gcd a b<1000000000000:=by
 by_cases h:b=0
 ·subst h;rw[Nat.gcd_zero_right];exact ha
 ·exact Nat.lt_of_le_of_lt (Nat.gcd_le_right a (by omega)) hb
theorem gcdOk(n:Nat)(g1 g2:Bool)(a b:Nat)(ha:a<1000000000000)(hb:b<1000000000000)(h1:g1=true→0<a)(h2:g2=true→0<b)(hbn:b<n)(hn:101≤n) :
  Dspec_Gcd n ⟨g1,dg a⟩ ⟨g2,dg b⟩=some ⟨false,dg (Nat.gcd a b)⟩:=by
 unfold Dspec_Gcd
 rw[magOk n g1 a ha h1 (by omega),Option.bind_some,magOk n g2 b hb h2 (by omega),Option.bind_some]
 unfold Dspec_l1Gcd
 rw[gcdLoop n hn b a n hbn ha hb,Option.bind_some,numOk n false _ (Dg_dg _) (by have:=dg_len3 (gcd_lt ha hb);omega) (vl_dg _) (by have:=dg_len3 (gcd_lt ha hb);omega)]
 rfl
def nm (x:Int):Num:=⟨decide (x<0),dg x.natAbs⟩
theorem ngStep(n:Nat)(t0:List Num)(b:Bool)(rec0:(Int×Bool×List Int)→Option Num)(t4:Int)(b3_0:Bool)(b3_1:List Int) :
  Dspec_l3NumGcd_0 n t0 b rec0 (t4,b3_0,b3_1)=frk (decide (t4<(t0.length:Int))) ((lget t0 t4).bind fun v1=>(Dspec_Gcd n (Num.mk b3_0 b3_1) v1).bind fun v2=>rec0 (w64 (t4+1),v2.Neg,v2.D)) (some (Num.mk b3_0 b3_1)):=rfl
theorem ngOne(n:Nat)(l:List Num)(b:Bool)(rec0:(Int×Bool×List Int)→Option Num)(i:Nat)(g:Nat){x:Int}(hx:l[i]?=some (nm x))(hg:g<1000000000000)(hb:x.natAbs<1000000000000)(hbn:x.natAbs<n)(hn:101≤n)(hi:i≤100) :
  Dspec_l3NumGcd_0 n l b rec0 ((i:Int),false,dg g)=rec0 (((i+1:Nat):Int),false,dg (Nat.gcd g x.natAbs)):=by
 have hil:=(List.getElem?_eq_some_iff.1 hx).1
 have hk:Dspec_Gcd n ⟨false,dg g⟩ (nm x)=_:=gcdOk n false (decide (x<0)) g x.natAbs hg hb (by simp) (by intro h;have:=of_decide_eq_true h;omega) hbn hn
 rw[ngStep,dec_t (by omega),frk_t,lget_nat,hx,Option.bind_some,hk,Option.bind_some,w64_suc (by unfold big;omega)]
def g4 (a b c d:Int):Nat:=Nat.gcd (Nat.gcd (Nat.gcd a.natAbs b.natAbs) c.natAbs) d.natAbs
theorem ngOk(n:Nat)(a b c d:Int)(ha:a.natAbs<1000000000000)(hb:b.natAbs<1000000000000)(hc:c.natAbs<1000000000000)(hd:d.natAbs<1000000000000)
  (na:a.natAbs<n) (nb:b.natAbs<n) (nc:c.natAbs<n) (nd:d.natAbs<n) (hn:101≤n):Dspec_l3NumGcd n [nm a,nm b,nm c,nm d]=some ⟨false,dg (g4 a b c d)⟩:=by
 unfold Dspec_l3NumGcd
 rw[ofOk n 0 (by decide) (by omega),Option.bind_some]
 obtain⟨m,hm⟩:∃j,n=j+5:=⟨n-5,by omega⟩
 have key:loopN (Dspec_l3NumGcd_0 n [nm a,nm b,nm c,nm d] false) (m+5) (((0:Nat):Int),false,dg 0)=some ⟨false,dg (g4 a b c d)⟩:=by
  rw[loop_suc,ngOne n _ _ _ 0 0 (x:=a) rfl (by omega) ha na hn (by omega),Nat.gcd_zero_left]
  rw[loop_suc,ngOne n _ _ _ 1 _ (x:=b) rfl ha hb nb hn (by omega)]
  rw[loop_suc,ngOne n _ _ _ 2 _ (x:=c) rfl (gcd_lt ha hb) hc nc hn (by omega)]
  rw[loop_suc,ngOne n _ _ _ 3 _ (x:=d) rfl (gcd_lt (gcd_lt ha hb) hc) hd nd hn (by omega)]
  rw[loop_suc,ngStep,dec_f (by show ¬(((3+1:Nat):Int)<((4:Nat):Int));omega),frk_f]
  rfl
 rw[←hm] at key
 exact key
theorem smallStep(n:Nat)(l:List Int)(b0:Bool)(b1:List Int)(rec0:(Int×Int)→Option (Int×Bool))(t5 t6:Int) :
  Dspec_Small_1 n l b0 b1 rec0 (t5,t6)=frk (decide (t6≥0)) (frk (decide (t5>922337203685477)) (some (0,false)) ((lget l t6).bind fun v1=>rec0 (IntKind.u64.wrap ((IntKind.u64.wrap (t5*10000))+(IntKind.u64.wrap v1)),w64 (t6-1)))) (Dspec_Small_0 n t5 b0 b1):=rfl
theorem smallLoop(n:Nat)(b0:Bool)(b1:List Int){a:List Int}(ha:Dg a)(hl:a.length≤3):∀(i m:Nat),i≤a.length→i<m →
  loopN (Dspec_Small_1 n a b0 b1) m (vl (a.drop i),(i:Int)-1)=Dspec_Small_0 n (vl a) b0 b1:=by
 intro i
 induction i with
 | zero =>
  intro m _ hm
  obtain⟨m,rfl⟩:∃j,m=j+1:=⟨m-1,by omega⟩
  rw[loop_suc,smallStep,dec_f (by omega),frk_f];rfl
 | succ i ih =>
  intro m hi hm
  obtain⟨m,rfl⟩:∃j,m=j+1:=⟨m-1,by omega⟩
  obtain⟨x,hx⟩:∃d,a[i]?=some d:=⟨a[i],List.getElem?_eq_getElem (by omega)⟩
  have e:((i+1:Nat):Int)-1=(i:Int):=by omega
  have b1':=vl_small ha hl
  have b2:=vl_drop_le ha i
  have b3:=vl_nn (ha.drop i)
  have b4:=vl_nn (ha.drop (i+1))
  have b5:=ha.get hx
  have e2:=vl_drop_s hx
  rw[loop_suc,smallStep,e,dec_t (by omega),frk_t,dec_f (by omega),frk_f,lget_nat,hx,Option.bind_some]
  rw[u64w (x:=vl (a.drop (i+1))*10000) (by omega) (by omega),u64w (x:=x) (by omega) (by omega),show vl (a.drop (i+1))*10000+x=vl (a.drop i) by omega,u64w (x:=vl (a.drop i)) (by omega) (by omega),w64_id (x:=(i:Int)-1) (by omega) (by omega)]
  exact ih m (by omega) (by omega)
theorem smallOk(n:Nat)(g:Bool)(v:Nat)(hv:v<1000000000000)(hg:g=true→0<v)(hn:5≤n):Dspec_Small n ⟨g,dg v⟩=some (if g then -(v:Int) else (v:Int),true):=by
 have l1:=dg_len3 hv
 unfold Dspec_Small
 rw[magOk n g v hv hg hn,Option.bind_some,dec_f (by omega),frk_f,w64_id (by omega) (by omega)]
 have e1:=smallLoop n g (dg v) (Dg_dg v) l1 (dg v).length n (Nat.le_refl _) (by omega)
 rw[List.drop_length] at e1
 have e1':loopN (Dspec_Small_1 n (dg v) g (dg v)) n ((0:Int),((dg v).length:Int)-1)=_:=e1
 rw[e1',vl_dg]
 unfold Dspec_Small_0
 rw[signOk n g v hv hg hn,Option.bind_some]
 cases g with
 | true =>
  have:=hg rfl
  rw[frk_t,dec_f (by omega),frk_f,u64w (by omega) (by omega),w64_id (x:=(v:Int)-1) (by omega) (by omega),w64_id (x:=0-((v:Int)-1)) (by omega) (by omega),w64_id (by omega) (by omega)]
  simp only[if_true];congr 2;omega
 | false =>
  rw[frk_f,dec_f (by omega),frk_f,w64_id (by omega) (by omega)];rfl
def pq (x:Int)(g:Nat):Int:=if x<0 then -((x.natAbs / g:Nat):Int) else ((x.natAbs / g:Nat):Int)
theorem compStep{β:Type}(n:Nat)(x:Int)(g:Nat)(hx:x.natAbs<1000000000000)(hg0:0<g)(hg:g<1000000000000)(hn:101≤n)(K:Int×Bool→Option β) :
  ((Dspec_l1DivMag n (dg x.natAbs) (dg g)).bind fun v5=>(Dspec_l1Num n (decide (x<0)) v5.1).bind fun v6=>(Dspec_Small n v6).bind K)=K (pq x g,true):=by
 obtain⟨q,q1,q2,q3,q4⟩:=divOk n x.natAbs g hx hg0 hg hn
 have hle:x.natAbs / g≤x.natAbs:=Nat.div_le_self _ _
 have h00:(0:Int)≤((x.natAbs / g:Nat):Int):=Int.natCast_nonneg _
 rw[q1,Option.bind_some,numOk n _ q q2 (by omega) q3 (by omega),Option.bind_some,smallOk n _ _ (by omega) (by simp) (by omega),Option.bind_some]
 congr 2
 unfold pq
 by_cases h:x<0
 ·by_cases h2:0<x.natAbs / g
  ·rw[dec_t h,dec_t h2,if_pos h];rfl
  ·rw[dec_t h,dec_f h2,if_pos h];simp only[Bool.and_false,Bool.false_eq_true,if_false];omega
 ·rw[dec_f h,if_neg h];rfl
def prim (a b c d:Int):Pl×Int :=
 if a=0∧b=0∧c=0 then (⟨0,0,0,0⟩,1)
 else if rIn (pq a (g4 a b c d)) (-500) 500&&(rIn (pq b (g4 a b c d)) (-500) 500&&(rIn (pq c (g4 a b c d)) (-500) 500&&rIn (pq d (g4 a b c d)) (-500) 500)) then (⟨pq a (g4 a b c d),pq b (g4 a b c d),pq c (g4 a b c d),pq d (g4 a b c d)⟩,0)
 else (⟨0,0,0,0⟩,2)
theorem g4_pos{a b c d:Int}(h:¬(a=0∧b=0∧c=0)):0<g4 a b c d:=by
 unfold g4
 apply Nat.pos_of_ne_zero
 intro h0
 have h1:=(Nat.gcd_eq_zero_iff.1 h0).1
 have h2:=Nat.gcd_eq_zero_iff.1 h1
 have h3:=Nat.gcd_eq_zero_iff.1 h2.1
 omega
theorem prim_body(n:Nat)(a b c d:Int)(ha:a.natAbs<1000000000000)(hb:b.natAbs<1000000000000)(hc:c.natAbs<1000000000000)(hd:d.natAbs<1000000000000)
  (na:a.natAbs<n) (nb:b.natAbs<n) (nc:c.natAbs<n) (nd:d.natAbs<n) (hn:101≤n) (h0:¬(a=0∧b=0∧c=0)):Dspec_Primitive_5 n a b c d 0 0 0 0=some (prim a b c d):=by
 have hp:=g4_pos (d:=d) h0
 have hg:g4 a b c d<1000000000000:=gcd_lt (gcd_lt (gcd_lt ha hb) hc) hd
 unfold prim
 rw[if_neg h0]
 unfold Dspec_Primitive_5
 have ea:Dspec_Of n a=some (nm a):=ofOk n a ha (by omega)
 have eb:Dspec_Of n b=some (nm b):=ofOk n b hb (by omega)
 have ec:Dspec_Of n c=some (nm c):=ofOk n c hc (by omega)
 have ed:Dspec_Of n d=some (nm d):=ofOk n d hd (by omega)
 rw[ea,Option.bind_some,eb,Option.bind_some,ec,Option.bind_some,ed,Option.bind_some,ngOk n a b c d ha hb hc hd na nb nc nd hn,Option.bind_some]
 refine(compStep n a (g4 a b c d) ha hp hg hn _).trans ?_
 rw[show (!(pq a (g4 a b c d),true).2)=false from rfl,frk_f,sIn,Option.bind_some]
 unfold Dspec_Primitive_1
 cases hA:rIn (pq a (g4 a b c d)) (-500) 500
 ·rfl
 rw[show (!true)=false from rfl,frk_f,chk_eq (apB8 (by simp)),show lget [nm a,nm b,nm c,nm d] 1=some (nm b) from rfl,Option.bind_some]
 refine(compStep n b (g4 a b c d) hb hp hg hn _).trans ?_
 rw[show (!(pq b (g4 a b c d),true).2)=false from rfl,frk_f,sIn,Option.bind_some]
 unfold Dspec_Primitive_2
 cases hB:rIn (pq b (g4 a b c d)) (-500) 500
 ·rfl
 rw[show (!true)=false from rfl,frk_f,chk_eq (apB8 (by simp)),show lget [nm a,nm b,nm c,nm d] 2=some (nm c) from rfl,Option.bind_some]
 refine(compStep n c (g4 a b c d) hc hp hg hn _).trans ?_
 rw[show (!(pq c (g4 a b c d),true).2)=false from rfl,frk_f,sIn,Option.bind_some]
 unfold Dspec_Primitive_3
 cases hC:rIn (pq c (g4 a b c d)) (-500) 500
 ·rfl
 rw[show (!true)=false from rfl,frk_f,chk_eq (apB8 (by simp)),show lget [nm a,nm b,nm c,nm d] 3=some (nm d) from rfl,Option.bind_some]
 refine(compStep n d (g4 a b c d) hd hp hg hn _).trans ?_
 rw[show (!(pq d (g4 a b c d),true).2)=false from rfl,frk_f,sIn,Option.bind_some]
 unfold Dspec_Primitive_4
 cases hE:rIn (pq d (g4 a b c d)) (-500) 500
 ·rfl
 rw[show (!true)=false from rfl,frk_f,chk_eq (apB8 (by simp))]
 rfl
theorem primOk(n:Nat)(a b c d:Int)(ha:a.natAbs<1000000000000)(hb:b.natAbs<1000000000000)(hc:c.natAbs<1000000000000)(hd:d.natAbs<1000000000000)
  (na:a.natAbs<n) (nb:b.natAbs<n) (nc:c.natAbs<n) (nd:d.natAbs<n) (hn:101≤n):Dspec_Primitive n a b c d=some (prim a b c d):=by
 unfold Dspec_Primitive
 by_cases h1:a=0
 ·by_cases h2:b=0
  ·by_cases h3:c=0
   ·subst h1;subst h2;subst h3;rfl
   ·have e:=prim_body n a b c d ha hb hc hd na nb nc nd hn (by omega)
    rw[show (a==0)=true by simpa using h1,frk_t,show (b==0)=true by simpa using h2,frk_t]
    rw[show (c==0)=false by simpa using h3]
    exact e
  ·have e:=prim_body n a b c d ha hb hc hd na nb nc nd hn (by omega)
   rw[show (a==0)=true by simpa using h1,frk_t,show (b==0)=false by simpa using h2,frk_f]
   exact e
 ·have e:=prim_body n a b c d ha hb hc hd na nb nc nd hn (by omega)
  rw[show (a==0)=false by simpa using h1,frk_f]
  exact e
end Evl.T
namespace Evl.T
open Go Evl
theorem nz_snoc{l:List Pl}{p:Pl}(hz:∀q∈l,Nz q)(hp:Nz p):∀q∈l++[p],Nz q:=fun q hq=>by
 rcases List.mem_append.1 hq with hq | hq
 ·exact hz q hq
 ·rw[List.mem_singleton.1 hq];exact hp
end Evl.T
namespace Evl.T
open Go Evl
def Con (l:List Pl):Prop:=∀c,Cert c→¬∀x∈c,x.2∈l
theorem Con.mono{l l':List Pl}(h:Con l')(hs:∀q∈l,q∈l'):Con l:=fun c hc hm=>h c hc fun x hx=>hs _ (hm x hx)
theorem addAt(p:Pl)(w:Int)(hw:0≤w):∀z:List (Int×Pl),p∈z.map (·.2)→(∀x∈z,0≤x.1)→∃z',z'.map (·.2)=z.map (·.2)∧(∀x∈z',0≤x.1)∧∀f,sm f z'=sm f z+w*f p
 | [],h,_=>by simp at h
 | (u,q)::z,h,hz=>by
  by_cases hq:p=q
  ·subst hq
   refine⟨(u+w,p)::z,rfl,fun x hx=>?_,fun f=>?_⟩
   ·rcases List.mem_cons.1 hx with rfl | hx
    ·have:=hz (u,p) (by simp)
     show 0≤u+w
     simp only at this;omega
    ·exact hz x (by simp[hx])
   ·simp only[sm_cons];grind
  ·obtain⟨z',h1,h2,h3⟩:=addAt p w hw z (by
    simp only[List.map_cons,List.mem_cons] at h
    exact h.resolve_left hq) fun x hx=>hz x (by simp[hx])
   refine⟨(u,q)::z',by simp[h1],fun x hx=>?_,fun f=>?_⟩
   ·rcases List.mem_cons.1 hx with rfl | hx
    ·exact hz _ (by simp)
    ·exact h2 x hx
   ·simp only[sm_cons,h3];omega
theorem sm_nul(f:Pl→Int)(l:List Pl):sm f (l.map fun x=>((0:Int),x))=0:=by
 induction l with
 | nil=>rfl
 | cons y l ih=>simp only[List.map_cons,sm_cons,ih];omega
theorem padM(l:List Pl):∀c:List (Int×Pl),(∀x∈c,0<x.1)→(∀x∈c,x.2∈l)→∃z,z.map (·.2)=l∧(∀x∈z,0≤x.1)∧∀f,sm f z=sm f c
 | [],_,_=>⟨l.map fun x=>((0:Int),x),by simp[Function.comp_def],fun x hx=>by
   obtain⟨y,_,rfl⟩:=List.mem_map.1 hx;exact Int.le_refl _,fun f=>sm_nul f l⟩
 | (w,p)::c,hp,hm=>by
  obtain⟨z,h1,h2,h3⟩:=padM l c (fun x hx=>hp x (by simp[hx])) fun x hx=>hm x (by simp[hx])
  obtain⟨z',g1,g2,g3⟩:=addAt p w (Int.le_of_lt (hp (w,p) (by simp))) z (by rw[h1];exact hm (w,p) (by simp)) h2
  exact⟨z',g1.trans h1,g2,fun f=>by rw[g3,h3,sm_cons];simp only;omega⟩
theorem Opn.con{l:List Pl}(ho:Opn l)(hz:∀q∈l,Nz q):Con l:=fun c hc hm=>by
 obtain⟨z,z1,z2,z3⟩:=padM l c hc.pos hm
 have e:∀f,sm f (pst z)=sm f c:=fun f=>by rw[sm_pst _ _ z2,z3]
 refine no_cert ho hz _ (pst z) (Nat.lt_succ_self _) ⟨fun x hx=>pst_pos hx,by rw[e];exact hc.a,by rw[e];exact hc.b,by rw[e];exact hc.cc,by rw[e];exact hc.d,fun h=>?_⟩ ?_
 ·have:=e fun _=>1
  rw[h,sm_nil] at this
  have:=sm_pos hc.pos hc.ne
  omega
 ·have:=(pst_sub z).map (·.2)
  rw[z1] at this;exact this
theorem con_wth{l:List Pl}{p:Pl}(hz:∀q∈l,Nz q)(h:wth l p=true):¬Con (p::l):=fun hC=>by
 obtain⟨c,m,hm,hcn,hcp,hcs,ca,cb,cc,cd⟩:=half_of hz h
 refine hC ((m,p)::c) ⟨fun x hx=>?_,?_,?_,?_,?_,by simp⟩ fun x hx=>?_
 ·rcases List.mem_cons.1 hx with rfl | hx
  ·exact hm
  ·exact hcp x hx
 ·rw[sm_cons];simp only;omega
 ·rw[sm_cons];simp only;omega
 ·rw[sm_cons];simp only;omega
 ·rw[sm_cons];simp only;omega
 ·rcases List.mem_cons.1 hx with rfl | hx
  ·simp
  ·exact List.mem_cons_of_mem _ (hcs.subset (List.mem_map.2 ⟨x,hx,rfl⟩))
theorem con_snoc{l:List Pl}{p:Pl}(ho:Opn l)(hz:∀q∈l,Nz q)(hp:Nz p)(h:wth l p=false):Con (p::l) :=
 ((Opn.snoc ho h).con (nz_snoc hz hp)).mono fun q hq=>by
  rcases List.mem_cons.1 hq with rfl | hq
  ·simp
  ·simp[hq]
theorem wth_con{l:List Pl}{p:Pl}(ho:Opn l)(hz:∀q∈l,Nz q)(hp:Nz p):wth l p=true↔¬Con (p::l) :=
 ⟨con_wth hz,fun h=>by
  cases hw:wth l p with
  | true=>rfl
  | false=>exact absurd (con_snoc ho hz hp hw) h⟩
end Evl.T
namespace Evl.T
open Go Evl
structure Aff(f:Pl→Pl)(G:Pl→Prop):Prop where
 fl:∀p,G p→G (flp p)∧f (flp p)=flp (f p)
 nz:∀p,G p→Nz (f p)
 gz:∀p,G p→Nz p
 ok:∀p,G p→pOk (f p)=true
 ct:∀c:List (Int×Pl),(∀x∈c,G x.2)→(Cert (c.map fun x=>(x.1,f x.2))↔Cert c)
theorem lift{f:Pl→Pl}{l:List Pl}:∀c:List (Int×Pl),(∀x∈c,x.2∈l.map f)→∃d:List (Int×Pl),c=d.map (fun x=>(x.1,f x.2))∧∀x∈d,x.2∈l:=by
 intro c
 induction c with
 | nil=>intro _;exact⟨[],rfl,by simp⟩
 | cons y c ih =>
  intro h
  obtain⟨d,e,hd⟩:=ih fun x hx=>h x (List.mem_cons_of_mem _ hx)
  obtain⟨p,hp,e2⟩:=List.mem_map.1 (h y List.mem_cons_self)
  refine⟨(y.1,p)::d,by rw[List.map_cons,←e,e2],fun x hx=>?_⟩
  rcases List.mem_cons.1 hx with rfl | hx
  ·exact hp
  ·exact hd x hx
theorem Aff.con{f:Pl→Pl}{G:Pl→Prop}(A:Aff f G){l:List Pl}(hl:∀p∈l,G p):Con (l.map f)↔Con l:=by
 constructor
 ·intro h c hc hm
  refine h _ ((A.ct c fun x hx=>hl _ (hm x hx)).2 hc) fun x hx=>?_
  obtain⟨y,hy,rfl⟩:=List.mem_map.1 hx
  exact List.mem_map.2 ⟨y.2,hm y hy,rfl⟩
 ·intro h c hc hm
  obtain⟨d,rfl,hd⟩:=lift c hm
  exact h d ((A.ct d fun x hx=>hl _ (hd x hx)).1 hc) hd
theorem Aff.nzs{f:Pl→Pl}{G:Pl→Prop}(A:Aff f G){l:List Pl}(hl:∀p∈l,G p):∀q∈l.map f,Nz q:=fun q hq=>by
 obtain⟨p,hp,rfl⟩:=List.mem_map.1 hq
 exact A.nz p (hl p hp)
theorem Aff.wth{f:Pl→Pl}{G:Pl→Prop}(A:Aff f G){l:List Pl}{p:Pl}(ho:Opn l)(ho':Opn (l.map f))(hl:∀q∈l,G q)(hp:G p):Evl.T.wth (l.map f) (f p)=Evl.T.wth l p:=by
 have h1:=wth_con ho' (A.nzs hl) (A.nz p hp)
 have h2:=wth_con ho (fun q hq=>A.gz q (hl q hq)) (A.gz p hp)
 have h3:=A.con (l:=p::l) (fun q hq=>by
  rcases List.mem_cons.1 hq with rfl | hq
  ·exact hp
  ·exact hl q hq)
 rw[List.map_cons] at h3
 rw[h3,←h2] at h1
 exact Bool.eq_iff_iff.2 h1
theorem mem_snoc{G:Pl→Prop}{l:List Pl}{p:Pl}(hl:∀q∈l,G q)(hp:G p):∀q∈l++[p],G q:=fun q hq=>by
 rcases List.mem_append.1 hq with hq | hq
 ·exact hl q hq
 ·rw[List.mem_singleton.1 hq];exact hp
theorem Aff.opn{f:Pl→Pl}{G:Pl→Prop}(A:Aff f G){l:List Pl}(h:Opn l):(∀q∈l,G q)→Opn (l.map f):=by
 induction h with
 | nil=>intro _;exact .nil
 | @snoc l p ho hw ih =>
  intro hl
  have hl':∀q∈l,G q:=fun q hq=>hl q (List.mem_append.2 (.inl hq))
  have hp:G p:=hl p (by simp)
  rw[List.map_append]
  exact .snoc (ih hl') (by rw[A.wth ho (ih hl') hl' hp];exact hw)
inductive Al(G:Pl→Prop):Sol→Prop
 | leaf {i p}:Al G (.mk i p [])
 | node {i p a b}:G p→Al G a→Al G b→Al G (.mk i p [a,b])
theorem Aff.rt{f:Pl→Pl}{G:Pl→Prop}(A:Aff f G){s:Sol}{path:List Pl}(h:Rt s path):∀{x:Sol},Mp f s x→Al G s→Opn path→(∀q∈path,G q)→Rt x (path.map f):=by
 induction h with
 | leaf _=>intro x hx _ _ _;cases hx;exact .leaf rfl
 | @node p a b path hp hl h1 h2 _ _ iha ihb =>
  intro x hx ha ho hg
  cases hx with
  | node m1 m2 =>
  cases ha with
  | node gp ga gb =>
  obtain⟨gf,ef⟩:=A.fl p gp
  have o:=A.opn ho hg
  have k1:=iha m1 ga (.snoc ho h1) (mem_snoc hg gp)
  have k2:=ihb m2 gb (.snoc ho h2) (mem_snoc hg gf)
  rw[List.map_append] at k1 k2
  refine .node (A.ok p gp) (by rw[List.length_map];exact hl) ?_ ?_ k1 ?_
  ·rw[A.wth ho o hg gp];exact h1
  ·rw[←ef,A.wth ho o hg gf];exact h2
  ·rw[←ef];exact k2
end Evl.T
namespace Evl.T
open Go Evl
def qtB (p:Pt):Bool:=rIn p.X (-1000000) 1000000&&(rIn p.Y (-1000000) 1000000&&rIn p.Z (-1000000) 1000000)
theorem sQtOk(p:Pt):Dspec_PtOk p=some (qtB p):=by
 unfold Dspec_PtOk qtB
 simp only[sIn,Option.bind_some]
 cases rIn p.X (-1000000) 1000000 <;> cases rIn p.Y (-1000000) 1000000 <;> rfl
theorem iQtOk(p:Pt):Dimpl_PtOk p=some (qtB p):=by
 unfold Dimpl_PtOk qtB
 simp only[iIn,Option.bind_some]
 cases rIn p.X (-1000000) 1000000 <;> cases rIn p.Y (-1000000) 1000000 <;> rfl
def shD (p:Pl)(q:Pt):Int:=p.D-(p.A*q.X+p.B*q.Y+p.C*q.Z)
def shP (q:Pt)(p:Pl):Pl×Int :=
 if pOk p then if qtB q then if rIn (shD p q) (-500) 500 then (⟨p.A,p.B,p.C,shD p q⟩,0) else (⟨0,0,0,0⟩,2) else (⟨0,0,0,0⟩,1) else (⟨0,0,0,0⟩,1)
theorem shD_w{p:Pl}{q:Pt}(hp:PB p)(hq:qtB q=true):w64 (p.D-(w64 ((w64 ((w64 (p.A*q.X))+(w64 (p.B*q.Y))))+(w64 (p.C*q.Z)))))=shD p q∧B 1500000500 (shD p q):=by
 unfold qtB at hq
 simp only[Bool.and_eq_true,rIn_iff] at hq
 obtain⟨h1,h2,h3⟩:=hq
 obtain⟨b1,b2,b3,b4⟩:=hp
 have c1:=b1.mul (B.of (a:=1000000) h1.1 h1.2)
 have c2:=b2.mul (B.of (a:=1000000) h2.1 h2.2)
 have c3:=b3.mul (B.of (a:=1000000) h3.1 h3.2)
 have c:B 1500000500 (shD p q):=(b4.sub ((c1.add c2).add c3)).up (by decide)
 refine⟨?_,c⟩
 rw[w64_B c1 (by decide),w64_B c2 (by decide),w64_B c3 (by decide),w64_B (c1.add c2) (by decide),w64_B ((c1.add c2).add c3) (by decide)]
 exact w64_B c (by decide)
theorem g4_shift{p:Pl}(h:pOk p=true)(q:Pt):g4 p.A p.B p.C (shD p q)=1:=by
 have hg:Nat.gcd (Nat.gcd p.A.natAbs p.B.natAbs) (Nat.gcd p.C.natAbs p.D.natAbs)=1:=by
  unfold pOk at h
  simp only[Bool.and_eq_true,decide_eq_true_eq] at h
  exact h.2.2.2.2.2
 have hd:=Nat.gcd_dvd_left (Nat.gcd (Nat.gcd p.A.natAbs p.B.natAbs) p.C.natAbs) (shD p q).natAbs
 have hd4:=Nat.gcd_dvd_right (Nat.gcd (Nat.gcd p.A.natAbs p.B.natAbs) p.C.natAbs) (shD p q).natAbs
 have e:g4 p.A p.B p.C (shD p q)=Nat.gcd (Nat.gcd (Nat.gcd p.A.natAbs p.B.natAbs) p.C.natAbs) (shD p q).natAbs:=rfl
 rw[←e] at hd hd4
 have d12:=Nat.dvd_trans hd (Nat.gcd_dvd_left _ _)
 have d3:=Nat.dvd_trans hd (Nat.gcd_dvd_right _ _)
 have d1:=Nat.dvd_trans d12 (Nat.gcd_dvd_left _ _)
 have d2:=Nat.dvd_trans d12 (Nat.gcd_dvd_right _ _)
 have i1:=Int.ofNat_dvd_left.2 d1
 have i2:=Int.ofNat_dvd_left.2 d2
 have i3:=Int.ofNat_dvd_left.2 d3
 have i4:=Int.ofNat_dvd_left.2 hd4
 have i5:((g4 p.A p.B p.C (shD p q):Nat):Int) ∣ p.D:=by
  have:p.D=shD p q+(p.A*q.X+p.B*q.Y+p.C*q.Z):=by unfold shD;omega
  rw[this]
  exact Int.dvd_add i4 (Int.dvd_add (Int.dvd_add (Int.dvd_trans i1 (Int.dvd_mul_right _ _)) (Int.dvd_trans i2 (Int.dvd_mul_right _ _))) (Int.dvd_trans i3 (Int.dvd_mul_right _ _)))
 have d5:=Int.ofNat_dvd_left.1 i5
 have:=Nat.dvd_gcd (Nat.dvd_gcd d1 d2) (Nat.dvd_gcd d3 d5)
 rw[hg] at this
 exact Nat.dvd_one.1 this
theorem pq_one(x:Int):pq x 1=x:=by unfold pq;rw[Nat.div_one];split <;> omega
theorem sShifted(n:Nat)(p:Pl)(q:Pt)(hn:1500001000≤n):Dspec_Shifted n p q=some (shP q p):=by
 unfold Dspec_Shifted shP
 rw[sPlaneOk n p (by omega),Option.bind_some]
 cases hp:pOk p with
 | false=>rfl
 | true =>
  rw[Bool.not_true,frk_f,sQtOk,Option.bind_some]
  unfold Dspec_Shifted_0
  cases hq:qtB q with
  | false=>rfl
  | true =>
   obtain⟨e,hB⟩:=shD_w (pOk_PB hp) hq
   have hB':=hB
   unfold B at hB'
   obtain⟨b1,b2,b3,b4⟩:=pOk_PB hp
   unfold B at b1 b2 b3 b4
   have h0:¬(p.A=0∧p.B=0∧p.C=0):=by
    unfold pOk at hp
    simp only[Bool.and_eq_true,decide_eq_true_eq] at hp
    have:=hp.2.2.2.2.1;omega
   rw[Bool.not_true,frk_f,e,primOk n _ _ _ _ (by omega) (by omega) (by omega) (by omega) (by omega) (by omega) (by omega) (by omega) (by omega)]
   unfold prim
   rw[if_neg h0,g4_shift hp,pq_one,pq_one,pq_one,pq_one]
   have hr:rIn p.A (-500) 500=true∧rIn p.B (-500) 500=true∧rIn p.C (-500) 500=true:=by
    unfold pOk at hp
    simp only[Bool.and_eq_true] at hp
    exact⟨hp.1,hp.2.1,hp.2.2.1⟩
   rw[hr.1,hr.2.1,hr.2.2,if_pos rfl,if_pos rfl]
   cases rIn (shD p q) (-500) 500 <;> rfl
theorem iShifted(n:Nat)(p:Pl)(q:Pt)(hn:502≤n):Dimpl_Shifted n p q=some (shP q p):=by
 unfold Dimpl_Shifted shP
 rw[iPlaneOk n p (by omega),Option.bind_some]
 cases hp:pOk p with
 | false=>rfl
 | true =>
  rw[Bool.not_true,frk_f,iQtOk,Option.bind_some]
  unfold Dimpl_Shifted_0
  cases hq:qtB q with
  | false=>rfl
  | true =>
   obtain⟨e,hB⟩:=shD_w (pOk_PB hp) hq
   rw[Bool.not_true,frk_f,e,iCoef,Option.bind_some,if_pos rfl,if_pos rfl]
   cases rIn (shD p q) (-500) 500 <;> rfl
def shOk (q:Pt):Sol→Bool
 | .mk _ _ []=>true
 | .mk _ p [a,b]=>((shP q p).2==0)&&(shOk q a&&shOk q b)
 | _=>true
theorem sShiftT{q:Pt}{s x:Sol}(h:Mp (fun p=>(shP q p).1) s x):E2 fun n m=>loopN (Dspec_l16Shift_b n) m (s,q)=some (x,shOk q s):=by
 induction h with
 | @leaf i p=>exact E2.suc (E2.of fun n m=>by rw[loop_suc];rfl)
 | @node i p a b x y _ _ iha ihb =>
  have h5:E2 fun n _=>1500001000≤n:=⟨1500001000,fun n hn _ _=>hn⟩
  refine E2.suc ((h5.and (iha.and ihb)).mono fun n m ⟨h0,h1,h2⟩=>?_)
  rw[loop_suc]
  have hl:Dspec_l8Leaf (Sol.mk i p [a,b])=some false:=rfl
  have e:Dspec_l16Shift_b n (loopN (Dspec_l16Shift_b n) m) (Sol.mk i p [a,b],q)=(Dspec_l8Leaf (Sol.mk i p [a,b])).bind fun v0=>frk v0 ((Dspec_Leaf i).bind fun v1=>some (v1,true)) ((Dspec_Shifted n p q).bind fun v2=>(lget [a,b] 0).bind fun v3=>(loopN (Dspec_l16Shift_b n) m (v3,q)).bind fun v4=>(lget [a,b] 1).bind fun v5=>(loopN (Dspec_l16Shift_b n) m (v5,q)).bind fun v6=>(Dspec_l8Nodeo1o2 v2.1 v4.1 v6.1).bind fun v7=>frk (v2.2==0) (frk v4.2 (some (v7,v6.2)) (some (v7,false))) (some (v7,false))):=rfl
  rw[e,hl,Option.bind_some,frk_f,sShifted n p q h0,Option.bind_some,show lget [a,b] 0=some a from rfl,Option.bind_some,h1,Option.bind_some,show lget [a,b] 1=some b from rfl,Option.bind_some,h2,Option.bind_some]
  show frk ((shP q p).2==0) (frk (shOk q a) (some (Sol.mk false (shP q p).1 [x,y],shOk q b)) (some (Sol.mk false (shP q p).1 [x,y],false))) (some (Sol.mk false (shP q p).1 [x,y],false))=some (Sol.mk false (shP q p).1 [x,y],((shP q p).2==0)&&(shOk q a&&shOk q b))
  cases (shP q p).2==0 <;> cases shOk q a <;> rfl
theorem iShiftT{q:Pt}{s x:Sol}(h:Mp (fun p=>(shP q p).1) s x):E2 fun n m=>loopN (Dimpl_movedfimpl_ShiftSolidLit1_b n) m (s,q)=some (x,shOk q s):=by
 induction h with
 | @leaf i p=>exact E2.suc (E2.of fun n m=>by rw[loop_suc];rfl)
 | @node i p a b x y _ _ iha ihb =>
  have h5:E2 fun n _=>1500001000≤n:=⟨1500001000,fun n hn _ _=>hn⟩
  refine E2.suc ((h5.and (iha.and ihb)).mono fun n m ⟨h0,h1,h2⟩=>?_)
  rw[loop_suc]
  have hl:Dimpl_Solid_isLeaf (Sol.mk i p [a,b])=some false:=rfl
  have hs:Dimpl_ShiftSolidLit1 n p q=some ((shP q p).1,(shP q p).2==0):=by
   unfold Dimpl_ShiftSolidLit1;rw[iShifted n p q (by omega)];rfl
  have e:Dimpl_movedfimpl_ShiftSolidLit1_b n (loopN (Dimpl_movedfimpl_ShiftSolidLit1_b n) m) (Sol.mk i p [a,b],q)=(Dimpl_Solid_isLeaf (Sol.mk i p [a,b])).bind fun v0=>frk v0 ((Dimpl_Leaf i).bind fun v1=>some (v1,true)) ((Dimpl_ShiftSolidLit1 n p q).bind fun v2=>(lget [a,b] 0).bind fun v3=>(loopN (Dimpl_movedfimpl_ShiftSolidLit1_b n) m (v3,q)).bind fun v4=>(lget [a,b] 1).bind fun v5=>(loopN (Dimpl_movedfimpl_ShiftSolidLit1_b n) m (v5,q)).bind fun v6=>(Dimpl_nodeo1o2 v2.1 v4.1 v6.1).bind fun v7=>frk v2.2 (frk v4.2 (some (v7,v6.2)) (some (v7,false))) (some (v7,false))):=rfl
  rw[e,hl,Option.bind_some,frk_f,hs,Option.bind_some,show lget [a,b] 0=some a from rfl,Option.bind_some,h1,Option.bind_some,show lget [a,b] 1=some b from rfl,Option.bind_some,h2,Option.bind_some]
  show frk ((shP q p).2==0) (frk (shOk q a) (some (Sol.mk false (shP q p).1 [x,y],shOk q b)) (some (Sol.mk false (shP q p).1 [x,y],false))) (some (Sol.mk false (shP q p).1 [x,y],false))=some (Sol.mk false (shP q p).1 [x,y],((shP q p).2==0)&&(shOk q a&&shOk q b))
  cases (shP q p).2==0 <;> cases shOk q a <;> rfl
open Classical in
theorem shiftEq(s:Sol)(h:Lens s)(ht:tot s≤1048576)(q:Pt):∃x c,(c=0→Right s∧qtB q=true∧shOk q s=true∧Mp (fun p=>(shP q p).1) s x)∧Tw x∧tot x≤1048576∧Ev fun n=>Dspec_ShiftSolid n s q=some (x,c)∧Dimpl_ShiftSolid n s q=some (x,c):=by
 have e1:=sSolidOk s h;have e2:=iSolidOk s
 have hz:Tw (Sol.mk false (Pl.mk 0 0 0 0) []):=.leaf
 have tz:tot (Sol.mk false (Pl.mk 0 0 0 0) [])≤1048576:=by rw[tot_mk];decide
 by_cases hr:Right s
 ·cases hq:qtB q with
  | false =>
   refine⟨_,1,fun h=>absurd h (by decide),hz,tz,(e1.and e2).mono fun n ⟨h1,h2⟩=>⟨?_,?_⟩⟩
   ·unfold Dspec_ShiftSolid
    rw[h1,decide_eq_true hr,Option.bind_some,Bool.not_true,frk_f,sQtOk,hq,Option.bind_some];rfl
   ·unfold Dimpl_ShiftSolid
    rw[iQtOk,hq,Option.bind_some];rfl
  | true =>
   obtain⟨x,hx⟩:=Mp.exists hr.1.tw (fun p=>(shP q p).1)
   have hxt:=hx.out.1.tot
   have hn:=hr.2
   cases hk:shOk q s with
   | true =>
    refine⟨x,0,fun _=>⟨hr,rfl,rfl,hx⟩,hx.out.1,by rw[hxt,hx.out.2];omega,(e1.and (e2.and ((sShiftT hx).ev.and (iShiftT hx).ev))).mono fun n ⟨h1,h2,h3,h4⟩=>⟨?_,?_⟩⟩
    ·have h3':Dspec_l16Shift n s q=some (x,shOk q s):=h3
     unfold Dspec_ShiftSolid Dspec_ShiftSolid_0
     rw[h1,decide_eq_true hr,Option.bind_some,Bool.not_true,frk_f,sQtOk,hq,Option.bind_some,Bool.not_true,frk_f,sol_eq',show Pt.mk q.X q.Y q.Z=q from rfl,h3',hk];rfl
    ·have h4':Dimpl_movedfimpl_ShiftSolidLit1 n s q=some (x,shOk q s):=h4
     unfold Dimpl_ShiftSolid Dimpl_ShiftSolid_0
     rw[iQtOk,hq,Option.bind_some,Bool.not_true,frk_f,h2,decide_eq_true hr,Option.bind_some,Bool.not_true,frk_f,sol_eq',show Pt.mk q.X q.Y q.Z=q from rfl,h4',hk];rfl
   | false =>
    refine⟨_,3,fun h=>absurd h (by decide),hz,tz,(e1.and (e2.and ((sShiftT hx).ev.and (iShiftT hx).ev))).mono fun n ⟨h1,h2,h3,h4⟩=>⟨?_,?_⟩⟩
    ·have h3':Dspec_l16Shift n s q=some (x,shOk q s):=h3
     unfold Dspec_ShiftSolid Dspec_ShiftSolid_0
     rw[h1,decide_eq_true hr,Option.bind_some,Bool.not_true,frk_f,sQtOk,hq,Option.bind_some,Bool.not_true,frk_f,sol_eq',show Pt.mk q.X q.Y q.Z=q from rfl,h3',hk];rfl
    ·have h4':Dimpl_movedfimpl_ShiftSolidLit1 n s q=some (x,shOk q s):=h4
     unfold Dimpl_ShiftSolid Dimpl_ShiftSolid_0
     rw[iQtOk,hq,Option.bind_some,Bool.not_true,frk_f,h2,decide_eq_true hr,Option.bind_some,Bool.not_true,frk_f,sol_eq',show Pt.mk q.X q.Y q.Z=q from rfl,h4',hk];rfl
 ·refine⟨_,1,fun h=>absurd h (by decide),hz,tz,(e1.and e2).mono fun n ⟨h1,h2⟩=>⟨?_,?_⟩⟩
  ·unfold Dspec_ShiftSolid
   rw[h1,decide_eq_false hr,Option.bind_some];rfl
  ·unfold Dimpl_ShiftSolid Dimpl_ShiftSolid_0
   rw[iQtOk,Option.bind_some]
   cases qtB q
   ·rfl
   ·rw[Bool.not_true,frk_f,h2,decide_eq_false hr];rfl
end Evl.T
namespace Evl.T
open Go Evl
def GS (q:Pt)(p:Pl):Prop:=pOk p=true∧rIn (shD p q) (-500) 500=true
theorem okFl{p:Pl}(h:pOk p=true):pOk (flp p)=true:=by
 have hp:=pOk_PB h
 unfold pOk at h ⊢
 revert h
 obtain⟨a,b,c,d⟩:=p
 obtain⟨h1,h2,h3,h4⟩:=hp
 unfold B at h1 h2 h3 h4
 simp only at h1 h2 h3 h4
 unfold flp
 simp only[Int.zero_sub,Int.natAbs_neg,Bool.and_eq_true,Bool.or_eq_true,decide_eq_true_eq,bne_iff_ne,ne_eq,beq_iff_eq,rIn_iff,Int.neg_eq_zero]
 omega
theorem shD_fl(p:Pl)(q:Pt):shD (flp p) q=0-shD p q:=by unfold shD flp;simp only;grind
theorem shP_of{q:Pt}(hq:qtB q=true){p:Pl}(h:GS q p):shP q p=(⟨p.A,p.B,p.C,shD p q⟩,0):=by
 unfold shP
 rw[if_pos h.1,if_pos hq,if_pos h.2]
theorem sm_map(g:Pl→Pl)(F:Pl→Int):∀c:List (Int×Pl),sm F (c.map fun x=>(x.1,g x.2))=sm (fun p=>F (g p)) c
 | []=>rfl
 | x::c=>by rw[List.map_cons,sm_cons,sm_cons,sm_map g F c]
theorem sm_eq{F F':Pl→Int}:∀{c:List (Int×Pl)},(∀x∈c,F x.2=F' x.2)→sm F c=sm F' c
 | [],_=>rfl
 | x::c,h=>by rw[sm_cons,sm_cons,h x List.mem_cons_self,sm_eq fun y hy=>h y (List.mem_cons_of_mem _ hy)]
theorem sm_shD(q:Pt):∀c:List (Int×Pl),sm (fun p=>shD p q) c=sm Pl.D c-(sm Pl.A c*q.X+sm Pl.B c*q.Y+sm Pl.C c*q.Z)
 | []=>by simp[sm_nil]
 | x::c=>by
  rw[sm_cons,sm_cons,sm_cons,sm_cons,sm_cons,sm_shD q c]
  unfold shD
  grind
theorem affS{q:Pt}(hq:qtB q=true):Aff (fun p=>(shP q p).1) (GS q) where
 fl p h:=by
  have hf:GS q (flp p):=⟨okFl h.1,by rw[shD_fl];have:=rIn_iff.1 h.2;exact rIn_iff.2 (by omega)⟩
  refine⟨hf,?_⟩
  show (shP q (flp p)).1=flp (shP q p).1
  rw[shP_of hq h,shP_of hq hf,shD_fl];rfl
 nz p h:=by
  have:=pOk_Nz h.1
  show Nz (shP q p).1
  rw[shP_of hq h];exact this
 gz p h:=pOk_Nz h.1
 ok p h:=by
  show pOk (shP q p).1=true
  rw[shP_of hq h]
  have hg:=g4_shift h.1 q
  have h1:=h.1
  have h2:=rIn_iff.1 h.2
  unfold g4 at hg
  rw[Nat.gcd_assoc (Nat.gcd p.A.natAbs p.B.natAbs)] at hg
  unfold pOk at h1 ⊢
  simp only[Bool.and_eq_true,decide_eq_true_eq] at h1 ⊢
  obtain⟨k1,k2,k3,k4,k5,k6⟩:=h1
  exact⟨k1,k2,k3,by have:=rIn_iff.1 k4;exact h.2,k5,hg⟩
 ct c hc:=by
  have eA:sm Pl.A (c.map fun x=>(x.1,(shP q x.2).1))=sm Pl.A c:=(sm_map (fun p=>(shP q p).1) Pl.A c).trans (sm_eq fun x hx=>by rw[shP_of hq (hc x hx)])
  have eB:sm Pl.B (c.map fun x=>(x.1,(shP q x.2).1))=sm Pl.B c:=(sm_map (fun p=>(shP q p).1) Pl.B c).trans (sm_eq fun x hx=>by rw[shP_of hq (hc x hx)])
  have eC:sm Pl.C (c.map fun x=>(x.1,(shP q x.2).1))=sm Pl.C c:=(sm_map (fun p=>(shP q p).1) Pl.C c).trans (sm_eq fun x hx=>by rw[shP_of hq (hc x hx)])
  have eD:sm Pl.D (c.map fun x=>(x.1,(shP q x.2).1))=sm (fun p=>shD p q) c:=(sm_map (fun p=>(shP q p).1) Pl.D c).trans (sm_eq fun x hx=>by rw[shP_of hq (hc x hx)])
  have eS:=sm_shD q c
  constructor
  ·rintro⟨k1,k2,k3,k4,k5,k6⟩
   rw[eA] at k2;rw[eB] at k3;rw[eC] at k4;rw[eD] at k5
   rw[k2,k3,k4] at eS
   refine⟨fun x hx=>k1 (x.1,(shP q x.2).1) (List.mem_map.2 ⟨x,hx,rfl⟩),k2,k3,k4,by omega,fun e=>k6 (by rw[e];rfl)⟩
  ·rintro⟨k1,k2,k3,k4,k5,k6⟩
   rw[k2,k3,k4] at eS
   refine⟨fun x hx=>?_,eA.trans k2,eB.trans k3,eC.trans k4,by rw[eD];omega,fun e=>k6 (List.map_eq_nil_iff.1 e)⟩
   obtain⟨y,hy,rfl⟩:=List.mem_map.1 hx
   exact k1 y hy
theorem shOk_al{q:Pt}(hq:qtB q=true){s:Sol}{path:List Pl}(h:Rt s path):shOk q s=true→Al (GS q) s:=by
 induction h with
 | leaf _=>intro _;exact .leaf
 | @node p a b path hp _ _ _ _ _ iha ihb =>
  intro hs
  have hs':((shP q p).2==0&&(shOk q a&&shOk q b))=true:=hs
  simp only[Bool.and_eq_true,beq_iff_eq] at hs'
  refine .node ⟨hp,?_⟩ (iha hs'.2.1) (ihb hs'.2.2)
  cases hr:rIn (shD p q) (-500) 500 with
  | true=>rfl
  | false =>
   have e:=hs'.1
   unfold shP at e
   rw[if_pos hp,if_pos hq,hr] at e
   exact absurd (show (2:Int)=0 from e) (by decide)
theorem shiftR{s:Sol}{q:Pt}(hr:Right s)(hq:qtB q=true)(hs:shOk q s=true){x:Sol}(hx:Mp (fun p=>(shP q p).1) s x):Right x:=by
 have:=(affS hq).rt hr.1 hx (shOk_al hq hr.1 hs) .nil (by simp)
 exact⟨this,by rw[hx.out.2];exact hr.2⟩
end Evl.T
namespace Evl.T
open Go Evl
set_option maxHeartbeats 1000000 in
theorem sMove1{n:Nat}{d:Dsk}{i a:Int}{x y z:Int}(ha:isPl a=true):Dspec_Move_1 n i a false d x y z=frk (!heldAtD d a) ((Dspec_l20Copy n d).bind fun v=>some (v,2)) ((Dspec_ShiftSolid n (slotD d a) ⟨x,y,z⟩).bind fun v=>Dspec_Move_3 n i (v.2 != 0) d v.1.inn v.1.pl.A v.1.pl.B v.1.pl.C v.1.pl.D v.1.kids):=by
 rcases isPl_cases ha with rfl | rfl | rfl | rfl | rfl | rfl | rfl | rfl <;> rfl
set_option maxHeartbeats 1000000 in
theorem iMove1{n:Nat}{d:Dsk}{i a:Int}{x y z:Int}(ha:isPl a=true):Dimpl_Move_1 n i a false d x y z=frk (!heldAtD d a) ((Dimpl_copyDesk n d).bind fun v=>some (v,2)) ((Dimpl_ShiftSolid n (slotD d a) ⟨x,y,z⟩).bind fun v=>Dimpl_Move_3 n i (v.2 != 0) d v.1.inn v.1.pl.A v.1.pl.B v.1.pl.C v.1.pl.D v.1.kids):=by
 rcases isPl_cases ha with rfl | rfl | rfl | rfl | rfl | rfl | rfl | rfl <;> rfl
theorem moveEq{d:Dsk}(h:LenD d)(ht:TotD d)(i a:Int)(q:Pt):∃r c,(r=d∨∃t,Right t∧r=putD d i t true)∧Ev fun n=>Dspec_Move n d i a q=some (r,c)∧Dimpl_Move n d i a q=some (r,c):=by
 obtain⟨rd,hrd,E1⟩:=deskEv h
 have E:=E1.and ((sCopyD ht).and (iCopyD ht))
 by_cases hok:rd=true∧isPl i=true∧isPl a=true∧qtB q=true
 ·obtain⟨rfl,hi,ha,hq⟩:=hok
  have g:=hrd rfl
  have go:∀n,Dspec_DeskOk n d=some true→Dimpl_DeskOk n d=some true→Dspec_Move n d i a q=Dspec_Move_1 n i a false d q.X q.Y q.Z∧Dimpl_Move n d i a q=Dimpl_Move_1 n i a false d q.X q.Y q.Z:=by
   intro n h1 h2
   unfold Dspec_Move Dimpl_Move
   rw[h1,h2]
   simp only[sPlace,iPlace,sQtOk,iQtOk,hi,ha,hq,Option.bind_some,Bool.not_true,frk_f]
   exact⟨trivial,trivial⟩
  cases hha:heldAtD d a with
  | false =>
   refine⟨d,2,.inl rfl,E.mono fun n ⟨⟨h1,h2⟩,c1,c2⟩=>?_⟩
   obtain⟨q1,q2⟩:=go n h1 h2
   rw[q1,q2,sMove1 ha,iMove1 ha,hha,Bool.not_false,frk_t,frk_t,c1,c2];exact⟨rfl,rfl⟩
  | true =>
   have ra:=g.slot a
   obtain⟨x,c,hc,hx,tx,hE⟩:=shiftEq (slotD d a) ra.1.tw.lens (by have:=ra.1.tw.tot;have:=ra.2;omega) q
   by_cases h0:c=0
   ·obtain⟨-,-,k3,k4⟩:=hc h0
    have hrt:=shiftR ra hq k3 k4
    obtain⟨r,c',hr,E3⟩:=keepEv h ht g hi hrt
    refine⟨r,c',hr.imp id fun e=>⟨x,hrt,e⟩,(E.and (hE.and E3)).mono fun n ⟨⟨⟨h1,h2⟩,c1,c2⟩,⟨f1,f2⟩,k1,k2⟩=>?_⟩
    obtain⟨q1,q2⟩:=go n h1 h2
    rw[q1,q2,sMove1 ha,iMove1 ha,hha,Bool.not_true,frk_f,frk_f,show Pt.mk q.X q.Y q.Z=q from rfl,f1,f2,Option.bind_some,Option.bind_some]
    unfold Dspec_Move_3 Dimpl_Move_3
    rw[show ((x,c).2 != 0)=false by simpa using h0,frk_f,frk_f]
    simp only[sol_eq',k1,k2,Option.bind_some]
    exact⟨trivial,trivial⟩
   ·refine⟨d,3,.inl rfl,(E.and hE).mono fun n ⟨⟨⟨h1,h2⟩,c1,c2⟩,f1,f2⟩=>?_⟩
    obtain⟨q1,q2⟩:=go n h1 h2
    rw[q1,q2,sMove1 ha,iMove1 ha,hha,Bool.not_true,frk_f,frk_f,show Pt.mk q.X q.Y q.Z=q from rfl,f1,f2,Option.bind_some,Option.bind_some]
    unfold Dspec_Move_3 Dimpl_Move_3
    rw[show ((x,c).2 != 0)=true by simpa using h0,frk_t,frk_t,c1,c2];exact⟨rfl,rfl⟩
 ·refine⟨d,1,.inl rfl,E.mono fun n ⟨⟨h1,h2⟩,c1,c2⟩=>?_⟩
  unfold Dspec_Move Dimpl_Move Dspec_Move_0 Dimpl_Move_0
  rw[h1,h2,c1,c2]
  simp only[sPlace,iPlace,sQtOk,iQtOk,Option.bind_some]
  refine⟨?_,?_⟩
  ·cases rd with
   | false=>rfl
   | true =>
    cases hi:isPl i with
    | false=>rfl
    | true =>
     cases ha:isPl a with
     | false=>rfl
     | true =>
      cases hq:qtB q with
      | true=>exact absurd ⟨rfl,hi,ha,hq⟩ hok
      | false =>
       simp only[Bool.not_true,Bool.not_false,frk_f]
       unfold Dspec_Move_1
       rw[c1];rfl
  ·cases hi:isPl i with
   | false=>rfl
   | true =>
    cases ha:isPl a with
    | false=>rfl
    | true =>
     cases hq:qtB q with
     | false=>rfl
     | true =>
      cases rd with
      | true=>exact absurd ⟨rfl,hi,ha,hq⟩ hok
      | false =>
       simp only[Bool.not_true,Bool.not_false,frk_f]
       unfold Dimpl_Move_1
       rw[c2];rfl
theorem finMove{n:Nat}{d r:Dsk}{i a c v:Int}{q:Pt}(hsz:Dlaws_szDesk n d 1048576=some v)(hv:¬v<0)(hS:Dspec_Move n d i a q=some (r,c))(hI:Dimpl_Move n d i a q=some (r,c))(G:DG n d)(Gr:DG n r)(M:DM n d)(Mr:DM n r) :
  Dlaws_FnExactMove n d.1.1.kids d.1.2.1.kids d.1.2.2.1.kids d.1.2.2.2.1.kids d.1.2.2.2.2.1.kids d.1.2.2.2.2.2.1.kids d.1.2.2.2.2.2.2.1.kids d.1.2.2.2.2.2.2.2.kids d i a q=some true:=by
 have e1:Dlaws_toDesk n d=some d:=toDesk G
 have e2:Dlaws_eqDesk n d d=some true:=eqDesk G
 have e3:Dlaws_eqDesk n r r=some true:=eqDesk Gr
 have m1:=markDk_eq M 1 (by decide) (by decide)
 have m2:=markDk_eq Mr 1 (by decide) (by decide)
 have m3:=heldDk_eq Mr 1 (by decide) (by decide)
 have d0:decide (v<0)=false:=decide_eq_false hv
 have d1:=dk8_nn M (k:=1) (by decide)
 have d2:=dk8_nn Mr (k:=1) (by decide)
 have tq:Dlaws_toPt q=some q:=rfl
 have eq:Pt.mk q.X q.Y q.Z=q:=rfl
 simp only[Dlaws_FnExactMove,Dlaws_FnExactMove_0,Dlaws_FnExactMove_1,Dlaws_FnExactMove_2,Dlaws_FnExactMove_3,Dlaws_FnExactMove_4,sol_eq,sol_eq',dsk_eta,dsk_eta2,tq,eq,hsz,hS,hI,e1,e2,e3,m1,m2,m3,d0,d1,d2,Option.bind_some,Bool.not_true,frk_f,bne_self_eq_false]
theorem plain_Move{G1 G2:Int→Prop}{G3:Pt→Prop}(d:Dsk)(h:LenD d)(i:Int)(_:G1 i)(a:Int)(_:G2 a)(q:Pt)(_:G3 q):∃n,Dlaws_FnExactMove n d.1.1.kids d.1.2.1.kids d.1.2.2.1.kids d.1.2.2.2.1.kids d.1.2.2.2.2.1.kids d.1.2.2.2.2.2.1.kids d.1.2.2.2.2.2.2.1.kids d.1.2.2.2.2.2.2.2.kids d i a q=some true:=by
 obtain⟨N,hF⟩:=DF.ev d h
 obtain⟨v,hv,hT⟩:=szDesk2 (hF N (Nat.le_refl N))
 by_cases hc:v<0
 ·refine⟨N,?_⟩
  have d0:decide (v<0)=true:=decide_eq_true hc
  simp only[Dlaws_FnExactMove,sol_eq,dsk_eta2,hv,d0,Option.bind_some,frk_t]
 ·obtain⟨ht,-,-⟩:=hT.resolve_left hc
  obtain⟨r,c,hr,E⟩:=moveEq h ht i a q
  have hr':LenD r∧TotD r:=by
   rcases hr with rfl | ⟨t,hrt,rfl⟩
   ·exact⟨h,ht⟩
   ·exact⟨h.put i hrt.1.tw.lens true,ht.put i (by have:=hrt.1.tw.tot;have:=hrt.2;omega) true⟩
  obtain⟨hz,tz⟩:=hr'
  obtain⟨m,hm⟩:=(DF.ev d h).and (E.and (ht.dg.and (tz.dg.and ((DM.ev h ht).and (DM.ev hz tz)))))
  obtain⟨F,⟨hS,hI⟩,g1,g2,m1,m2⟩:=hm m (Nat.le_refl m)
  obtain⟨w,hw,-⟩:=szDesk2 F
  refine⟨m,?_⟩
  by_cases hc2:w<0
  ·have d0:decide (w<0)=true:=decide_eq_true hc2
   simp only[Dlaws_FnExactMove,sol_eq,dsk_eta2,hw,d0,Option.bind_some,frk_t]
  ·exact finMove hw hc2 hS hI g1 g2 m1 m2
end Evl.T
