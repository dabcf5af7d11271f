
/- Texts that belong together,joined. No condition. -/
import Derived.Test.YtljcjahaeebocaaGreatJp
namespace Evl.T
open Go Evl
theorem wth_iff(l:List Pl)(p:Pl):wth l p=true↔∃i,i<l.length∧(cl2 (gt l i) p=true∨∃j,i<j∧j<l.length∧(cl3 (gt l i) (gt l j) p=true∨∃k,j<k∧k<l.length∧cl4 (gt l i) (gt l j) (gt l k) p=true)):=by
 unfold wth sAny3 sAny4
 simp only[List.any_eq_true,List.mem_range'_1,Bool.or_eq_true]
 constructor
 ·rintro⟨i,hi,h | ⟨j,hj,h | ⟨k,hk,h⟩⟩⟩
  ·exact⟨i,by omega,.inl h⟩
  ·exact⟨i,by omega,.inr ⟨j,by omega,by omega,.inl h⟩⟩
  ·exact⟨i,by omega,.inr ⟨j,by omega,by omega,.inr ⟨k,by omega,by omega,h⟩⟩⟩
 ·rintro⟨i,hi,h | ⟨j,hj,hj2,h | ⟨k,hk,hk2,h⟩⟩⟩
  ·exact⟨i,by omega,.inl h⟩
  ·exact⟨i,by omega,.inr ⟨j,by omega,.inl h⟩⟩
  ·exact⟨i,by omega,.inr ⟨j,by omega,.inr ⟨k,by omega,h⟩⟩⟩
theorem Rt.lens{s:Sol}{path:List Pl}(h:Rt s path):Lens s:=by
 induction h with
 | leaf hz=>exact .mk (by simp[big]) (by simp)
 | node _ _ _ _ _ _ iha ihb =>
  refine .mk (by simp[big]) fun x hx=>?_
  simp only[List.mem_cons,List.not_mem_nil,or_false] at hx
  rcases hx with rfl | rfl
  ·exact iha
  ·exact ihb
end Evl.T
namespace Evl.T
open Go Evl
def sm (f:Pl→Int):List (Int×Pl)→Int
 | []=>0
 | x::r=>x.1*f x.2+sm f r
theorem sm_cons(f:Pl→Int)(x:Int×Pl)(r:List (Int×Pl)):sm f (x::r)=x.1*f x.2+sm f r:=rfl
theorem sm_nil(f:Pl→Int):sm f []=0:=rfl
structure Cert(c:List (Int×Pl)):Prop where
 pos:∀x∈c,0<x.1
 a:sm Pl.A c=0
 b:sm Pl.B c=0
 cc:sm Pl.C c=0
 d:sm Pl.D c≤0
 ne:c≠[]
def tw (t:List (Int×Int×Pl)):List (Int×Pl):=t.map fun x=>(x.1,x.2.2)
def tv (t:List (Int×Int×Pl)):List (Int×Pl):=t.map fun x=>(x.2.1,x.2.2)
def tm (a b:Int)(t:List (Int×Int×Pl)):List (Int×Pl):=t.map fun x=>(a*x.1+b*x.2.1,x.2.2)
theorem sm_tm(f:Pl→Int)(a b:Int)(t:List (Int×Int×Pl)):sm f (tm a b t)=a*sm f (tw t)+b*sm f (tv t):=by
 induction t with
 | nil=>simp[tm,tw,tv,sm]
 | cons x r ih =>
  simp only[tm,tw,tv,List.map_cons,sm_cons] at ih ⊢
  rw[ih];grind
def pst (c:List (Int×Pl)):List (Int×Pl):=c.filter fun x=>decide (0<x.1)
theorem sm_pst(f:Pl→Int)(c:List (Int×Pl))(h:∀x∈c,0≤x.1):sm f (pst c)=sm f c:=by
 induction c with
 | nil=>rfl
 | cons x r ih =>
  have ih:=ih fun y hy=>h y (List.mem_cons_of_mem _ hy)
  have hx:=h x List.mem_cons_self
  unfold pst at ih ⊢
  by_cases hp:0<x.1
  ·rw[List.filter_cons_of_pos (by simpa using hp),sm_cons,sm_cons,ih]
  ·rw[List.filter_cons_of_neg (by simpa using hp),sm_cons,ih,show x.1=0 by omega];omega
theorem pst_pos{c:List (Int×Pl)}{x:Int×Pl}(h:x∈pst c):0<x.1:=by
 unfold pst at h;simpa using (List.mem_filter.1 h).2
theorem pst_sub(c:List (Int×Pl)):(pst c).Sublist c:=List.filter_sublist
theorem pst_lt{c:List (Int×Pl)}{x:Int×Pl}(h:x∈c)(h0:x.1=0):(pst c).length<c.length:=by
 rcases Nat.lt_or_ge (pst c).length c.length with h1 | h1
 ·exact h1
 ·have e:=(pst_sub c).eq_of_length_le h1
  rw[←e] at h;have:=pst_pos h;omega
theorem mul_can{a b c:Int}(h:a*c≤b*c)(hc:0<c):a≤b:=Int.le_of_mul_le_mul_right h hc
theorem most(t:List (Int×Int×Pl))(h:∀x∈t,0<x.1)(hn:t≠[]):∃m∈t,∀x∈t,x.2.1*m.1≤m.2.1*x.1:=by
 induction t with
 | nil=>exact absurd rfl hn
 | cons x r ih =>
  have hx:=h x List.mem_cons_self
  by_cases hr:r=[]
  ·subst hr
   exact⟨x,List.mem_cons_self,fun y hy=>by rw[List.mem_singleton.1 hy];exact Int.le_refl _⟩
  ·obtain⟨m,hm,h1⟩:=ih (fun y hy=>h y (List.mem_cons_of_mem _ hy)) hr
   have hmp:=h m (List.mem_cons_of_mem _ hm)
   by_cases hc:x.2.1*m.1≤m.2.1*x.1
   ·refine⟨m,List.mem_cons_of_mem _ hm,fun y hy=>?_⟩
    rcases List.mem_cons.1 hy with rfl | hy
    ·exact hc
    ·exact h1 y hy
   ·refine⟨x,List.mem_cons_self,fun y hy=>?_⟩
    rcases List.mem_cons.1 hy with rfl | hy
    ·exact Int.le_refl _
    ·have hyp:=h y (List.mem_cons_of_mem _ hy)
     have h2:=h1 y hy
     refine mul_can (c:=m.1) ?_ hmp
     have h3:y.2.1*m.1*x.1≤m.2.1*y.1*x.1:=Int.mul_le_mul_of_nonneg_right h2 (by omega)
     have h4:m.2.1*x.1*y.1≤x.2.1*m.1*y.1:=Int.mul_le_mul_of_nonneg_right (by omega) (by omega)
     have e1:y.2.1*x.1*m.1=y.2.1*m.1*x.1:=by grind
     have e2:m.2.1*y.1*x.1=m.2.1*x.1*y.1:=by grind
     have e3:x.2.1*y.1*m.1=x.2.1*m.1*y.1:=by grind
     omega
theorem least(t:List (Int×Int×Pl))(h:∀x∈t,0<x.1)(hn:t≠[]):∃m∈t,∀x∈t,m.2.1*x.1≤x.2.1*m.1:=by
 obtain⟨m,hm,h1⟩:=most (t.map fun x=>(x.1,-x.2.1,x.2.2)) (fun x hx=>by
  obtain⟨y,hy,rfl⟩:=List.mem_map.1 hx;exact h y hy) (by simpa using hn)
 obtain⟨k,hk,rfl⟩:=List.mem_map.1 hm
 refine⟨k,hk,fun x hx=>?_⟩
 have:=h1 _ (List.mem_map.2 ⟨x,hx,rfl⟩)
 simp only[Int.neg_mul] at this
 omega
theorem snd_tm(a b:Int)(t:List (Int×Int×Pl)):(tm a b t).map (·.2)=t.map (·.2.2):=by simp[tm]
theorem red(t:List (Int×Int×Pl))(hc:Cert (tw t))(ha:sm Pl.A (tv t)=0)(hb:sm Pl.B (tv t)=0)(hcc:sm Pl.C (tv t)=0)
  (hne:∃x∈t,∃y∈t,x.1*y.2.1≠y.1*x.2.1):∃c,Cert c∧c.length<t.length∧(c.map (·.2)).Sublist (t.map (·.2.2)):=by
 have hp:∀x∈t,0<x.1:=fun x hx=>hc.pos _ (List.mem_map.2 ⟨x,hx,rfl⟩)
 obtain⟨x,hx,y,hy,hxy⟩:=hne
 have hn:t≠[]:=fun h=>by rw[h] at hx;cases hx
 obtain⟨m,hm,h1⟩:=most t hp hn
 obtain⟨k,hk,h2⟩:=least t hp hn
 have hmp:=hp m hm;have hkp:=hp k hk
 have hlt:k.2.1*m.1<m.2.1*k.1:=by
  rcases Int.lt_or_le (k.2.1*m.1) (m.2.1*k.1) with h | h
  ·exact h
  ·exfalso
   have same:∀z∈t,z.2.1*m.1=m.2.1*z.1:=fun z hz=>by
    have a1:=h1 z hz;have a2:=h2 z hz
    have hzp:=hp z hz
    have b1:m.2.1*k.1*z.1≤k.2.1*m.1*z.1:=Int.mul_le_mul_of_nonneg_right h (by omega)
    have b2:k.2.1*z.1*m.1≤z.2.1*k.1*m.1:=Int.mul_le_mul_of_nonneg_right a2 (by omega)
    have b3:m.2.1*z.1≤z.2.1*m.1:=mul_can (c:=k.1) (by
     have e1:m.2.1*z.1*k.1=m.2.1*k.1*z.1:=by grind
     have e2:k.2.1*m.1*z.1=k.2.1*z.1*m.1:=by grind
     have e3:z.2.1*m.1*k.1=z.2.1*k.1*m.1:=by grind
     omega) hkp
    omega
   have s1:=same x hx;have s2:=same y hy
   apply hxy
   have:(x.1*y.2.1)*m.1=(y.1*x.2.1)*m.1:=by grind
   exact Int.eq_of_mul_eq_mul_right (by omega) this
 have main:∀(a b:Int),(∀z∈t,0≤a*z.1+b*z.2.1)→(∃z∈t,0<a*z.1+b*z.2.1)→(∃z∈t,a*z.1+b*z.2.1=0)→a*sm Pl.D (tw t)+b*sm Pl.D (tv t)≤0 →
   ∃c,Cert c∧c.length<t.length∧(c.map (·.2)).Sublist (t.map (·.2.2)):=by
  intro a b q1 q2 q3 q4
  have hge:∀z∈tm a b t,0≤z.1:=fun z hz=>by obtain⟨w,hw,rfl⟩:=List.mem_map.1 hz;exact q1 w hw
  refine⟨pst (tm a b t),⟨fun z hz=>pst_pos hz,?_,?_,?_,?_,?_⟩,?_,?_⟩
  ·rw[sm_pst _ _ hge,sm_tm,hc.a,ha];simp
  ·rw[sm_pst _ _ hge,sm_tm,hc.b,hb];simp
  ·rw[sm_pst _ _ hge,sm_tm,hc.cc,hcc];simp
  ·rw[sm_pst _ _ hge,sm_tm];exact q4
  ·obtain⟨z,hz,h0⟩:=q2
   intro h
   have:(a*z.1+b*z.2.1,z.2.2)∈pst (tm a b t):=List.mem_filter.2 ⟨List.mem_map.2 ⟨z,hz,rfl⟩,by simpa using h0⟩
   rw[h] at this;cases this
  ·obtain⟨z,hz,h0⟩:=q3
   have:=pst_lt (c:=tm a b t) (x:=(a*z.1+b*z.2.1,z.2.2)) (List.mem_map.2 ⟨z,hz,rfl⟩) h0
   rwa [show (tm a b t).length=t.length by simp[tm]] at this
  ·rw[←snd_tm a b t];exact(pst_sub _).map _
 have hD:=hc.d
 by_cases hs:m.2.1*sm Pl.D (tw t)+(-m.1)*sm Pl.D (tv t)≤0
 ·refine main m.2.1 (-m.1) (fun z hz=>?_) ⟨k,hk,?_⟩ ⟨m,hm,?_⟩ hs
  ·have:=h1 z hz;rw[Int.neg_mul,Int.mul_comm m.1];omega
  ·rw[Int.neg_mul,Int.mul_comm m.1];omega
  ·grind
 ·refine main (-k.2.1) k.1 (fun z hz=>?_) ⟨m,hm,?_⟩ ⟨k,hk,?_⟩ ?_
  ·have:=h2 z hz;rw[Int.neg_mul,Int.mul_comm k.1];omega
  ·rw[Int.neg_mul,Int.mul_comm k.1];omega
  ·grind
  ·have q1:0<(m.2.1*sm Pl.D (tw t)+(-m.1)*sm Pl.D (tv t))*k.1:=Int.mul_pos (by omega) hkp
   have q2:(m.2.1*k.1-k.2.1*m.1)*sm Pl.D (tw t)≤0:=Int.mul_nonpos_of_nonneg_of_nonpos (by omega) hD
   refine mul_can (c:=m.1) ?_ hmp
   have e:((-k.2.1)*sm Pl.D (tw t)+k.1*sm Pl.D (tv t))*m.1=(m.2.1*k.1-k.2.1*m.1)*sm Pl.D (tw t)-(m.2.1*sm Pl.D (tw t)+(-m.1)*sm Pl.D (tv t))*k.1:=by grind
   rw[e];omega
theorem sub_get{x:Pl}{r:List Pl}:∀{l:List Pl},(x::r).Sublist l→∃j,j<l.length∧gt l j=x∧r.Sublist (l.drop (j+1)):=by
 intro l
 induction l with
 | nil=>intro h;cases h
 | cons y l ih =>
  intro h
  cases h with
  | cons _ h =>
   obtain⟨j,h1,h2,h3⟩:=ih h
   exact⟨j+1,by simp only[List.length_cons];omega,h2,h3⟩
  | cons_cons _ h=>exact⟨0,by simp,rfl,h⟩
theorem gt_drop(l:List Pl)(i j:Nat):gt (l.drop i) j=gt l (i+j):=by unfold gt;rw[List.getElem?_drop]
theorem get_sub{l:List Pl}{i:Nat}{r:List Pl}(h:i<l.length)(hr:r.Sublist (l.drop (i+1))):(gt l i::r).Sublist (l.drop i):=by
 rw[List.drop_eq_getElem_cons h,show gt l i=l[i] by unfold gt;rw[List.getElem?_eq_getElem h];rfl]
 exact hr.cons_cons _
theorem drop_up{l r:List Pl}{i j:Nat}(h:i≤j)(hr:r.Sublist (l.drop j)):r.Sublist (l.drop i):=by
 have e:l.drop j=(l.drop i).drop (j-i):=by rw[List.drop_drop];congr 1;omega
 rw[e] at hr
 exact hr.trans (List.drop_sublist _ _)
theorem drop_any{l r:List Pl}{j:Nat}(hr:r.Sublist (l.drop j)):r.Sublist l:=drop_up (Nat.zero_le j) hr
theorem wth_sub(l:List Pl)(p:Pl):wth l p=true↔(∃q,[q].Sublist l∧cl2 q p=true)∨(∃q r,[q,r].Sublist l∧cl3 q r p=true)∨(∃q r s,[q,r,s].Sublist l∧cl4 q r s p=true):=by
 rw[wth_iff]
 constructor
 ·rintro⟨i,hi,h | ⟨j,hj,hj2,h | ⟨k,hk,hk2,h⟩⟩⟩
  ·exact .inl ⟨_,drop_any (get_sub hi (List.nil_sublist _)),h⟩
  ·exact .inr (.inl ⟨_,_,drop_any (get_sub hi (drop_up (j:=j) hj (get_sub hj2 (List.nil_sublist _)))),h⟩)
  ·exact .inr (.inr ⟨_,_,_,drop_any (get_sub hi (drop_up (j:=j) hj (get_sub hj2 (drop_up (j:=k) hk (get_sub hk2 (List.nil_sublist _)))))),h⟩)
 ·rintro(⟨q,h1,h⟩ | ⟨q,r,h1,h⟩ | ⟨q,r,s,h1,h⟩)
  ·obtain⟨i,hi,rfl,_⟩:=sub_get h1
   exact⟨i,hi,.inl h⟩
  ·obtain⟨i,hi,rfl,h2⟩:=sub_get h1
   obtain⟨j,hj,rfl,_⟩:=sub_get h2
   rw[gt_drop] at h;rw[List.length_drop] at hj
   exact⟨i,hi,.inr ⟨i+1+j,by omega,by omega,.inl h⟩⟩
  ·obtain⟨i,hi,rfl,h2⟩:=sub_get h1
   obtain⟨j,hj,rfl,h3⟩:=sub_get h2
   obtain⟨k,hk,rfl,_⟩:=sub_get h3
   rw[gt_drop,gt_drop,gt_drop] at h;rw[List.length_drop] at hj hk;rw[List.length_drop] at hk
   exact⟨i,hi,.inr ⟨i+1+j,by omega,by omega,.inr ⟨i+1+(j+1+k),by omega,by omega,h⟩⟩⟩
inductive Opn:List Pl→Prop
 | nil:Opn []
 | snoc {l p}:Opn l→wth l p=false→Opn (l++[p])
theorem sub_snoc{r l:List Pl}{p q:Pl}(h:(r++[p]).Sublist (l++[q])):(r++[p]).Sublist l∨(p=q∧r.Sublist l):=by
 have h:=h.reverse
 rw[List.reverse_append,List.reverse_append] at h
 simp only[List.reverse_singleton,List.singleton_append] at h
 cases h with
 | cons _ h=>left;have:=h.reverse;simpa using this
 | cons_cons _ h=>right;exact⟨rfl,by have:=h.reverse;simpa using this⟩
theorem Opn.last{l:List Pl}(h:Opn l){r:List Pl}{p:Pl}(hs:(r++[p]).Sublist l):∃l',r.Sublist l'∧wth l' p=false:=by
 induction h with
 | nil=>have:=hs.length_le;simp at this
 | @snoc l q _ hw ih =>
  rcases sub_snoc hs with h | ⟨rfl,h⟩
  ·exact ih h
  ·exact⟨l,h,hw⟩
def Nz (p:Pl):Prop:=p.A≠0∨p.B≠0∨p.C≠0
theorem pOk_Nz{p:Pl}(h:pOk p=true):Nz p:=by
 unfold pOk at h;simp only[Bool.and_eq_true,decide_eq_true_eq] at h;exact h.2.2.2.2.1
theorem cr_dep(p q:Pl):cr0 p q=0∧cr1 p q=0∧cr2 p q=0→Nz p→Nz q→∃x y,x≠0∧y≠0∧x*p.A+y*q.A=0∧x*p.B+y*q.B=0∧x*p.C+y*q.C=0:=by
 obtain⟨a,b,c,d⟩:=p;obtain⟨e,f,g,i⟩:=q
 unfold Nz cr0 cr1 cr2
 simp only
 rintro⟨h0,h1,h2⟩ hp hq
 have z:∀x y:Int,x≠0→x*y=0→y=0:=fun x y hx h=>(Int.mul_eq_zero.1 h).resolve_left hx
 by_cases ha:a=0
 ·by_cases hb:b=0
  ·have hc:c≠0:=by rcases hp with h | h | h <;> first | exact absurd ha h | exact absurd hb h | exact h
   refine⟨g,-c,?_,by omega,?_,?_,?_⟩
   ·rintro rfl
    have:=z c e hc (by grind);have:=z c f hc (by grind)
    rcases hq with h | h | h <;> omega
   ·grind
   ·grind
   ·grind
  ·refine⟨f,-b,?_,by omega,?_,?_,?_⟩
   ·rintro rfl
    have:=z b e hb (by grind);have:=z b g hb (by grind)
    rcases hq with h | h | h <;> omega
   ·grind
   ·grind
   ·grind
 ·refine⟨e,-a,?_,by omega,?_,?_,?_⟩
  ·rintro rfl
   have:=z a f ha (by grind);have:=z a g ha (by grind)
   rcases hq with h | h | h <;> omega
  ·grind
  ·grind
  ·grind
end Evl.T
namespace Evl.T
open Go Evl
theorem sm_app(f:Pl→Int)(a b:List (Int×Pl)):sm f (a++b)=sm f a+sm f b:=by
 induction a with
 | nil=>simp[sm]
 | cons x r ih=>simp only[List.cons_append,sm_cons,ih];omega
theorem sm_zero(f:Pl→Int)(b:List (Int×Pl)):sm f (b.map fun x=>((0:Int),x.2))=0:=by
 induction b with
 | nil=>rfl
 | cons x r ih=>simp only[List.map_cons,sm_cons,ih];omega
theorem red2(pre:List (Int×Int×Pl))(rest:List (Int×Pl))(hc:Cert (tw pre++rest))(ha:sm Pl.A (tv pre)=0)(hb:sm Pl.B (tv pre)=0)(hcc:sm Pl.C (tv pre)=0)
  (hne:(∃x∈pre,∃y∈pre,x.1*y.2.1≠y.1*x.2.1)∨(rest≠[]∧∃x∈pre,x.2.1≠0)) :
  ∃c,Cert c∧c.length<(tw pre++rest).length∧(c.map (·.2)).Sublist ((tw pre++rest).map (·.2)):=by
 let t:=pre++rest.map fun x=>(x.1,(0:Int),x.2)
 have e1:tw t=tw pre++rest:=by simp[t,tw,Function.comp_def]
 have e2:∀f,sm f (tv t)=sm f (tv pre):=fun f=>by
  have:tv t=tv pre++rest.map fun x=>((0:Int),x.2):=by simp[t,tv,Function.comp_def]
  rw[this,sm_app,sm_zero];omega
 have e3:t.map (·.2.2)=(tw pre++rest).map (·.2):=by simp[t,tw,Function.comp_def]
 have e4:t.length=(tw pre++rest).length:=by simp[t,tw]
 obtain⟨c,h1,h2,h3⟩:=red t (by rw[e1];exact hc) (by rw[e2];exact ha) (by rw[e2];exact hb) (by rw[e2];exact hcc) (by
  rcases hne with ⟨x,hx,y,hy,h⟩ | ⟨hr,x,hx,h⟩
  ·exact⟨x,List.mem_append_left _ hx,y,List.mem_append_left _ hy,h⟩
  ·obtain⟨y,r,rfl⟩:=List.exists_cons_of_ne_nil hr
   refine⟨x,List.mem_append_left _ hx,(y.1,0,y.2),List.mem_append_right _ (by simp),?_⟩
   have hy:0<y.1:=hc.pos y (List.mem_append_right _ (by simp))
   intro h0
   simp only[Int.mul_zero] at h0
   rcases Int.mul_eq_zero.1 h0.symm with h1 | h1
   ·omega
   ·exact h h1)
 exact⟨c,h1,by omega,by rw[←e3];exact h3⟩
theorem same2{w1 w2:Int}{p q:Pl}(h1:0<w1)(h2:0<w2)(hq:Nz q)(ha:w1*p.A+w2*q.A=0)(hb:w1*p.B+w2*q.B=0)(hc:w1*p.C+w2*q.C=0)
  (hd:w1*p.D+w2*q.D≤0):cl2 p q=true:=by
 obtain⟨a,b,c,d⟩:=p;obtain⟨e,f,g,i⟩:=q
 simp only at ha hb hc hd
 have z:∀y:Int,w1*y=0→y=0:=fun y h=>(Int.mul_eq_zero.1 h).resolve_left (by omega)
 have hpos:0<d3 e f g e f g:=d3_pos (fun h=>by
  unfold Nz at hq;simp only at hq
  rcases hq with h' | h' | h'
  ·exact h' h.1
  ·exact h' h.2.1
  ·exact h' h.2.2)
 unfold cl2
 rw[decide_eq_true_iff]
 simp only[cr0,cr1,cr2,dt]
 refine⟨⟨z _ (by grind),z _ (by grind),z _ (by grind),?_⟩,?_⟩
 ·have e1:w1*(a*e+b*f+c*g)=-(w2*d3 e f g e f g):=by unfold d3;grind
  have e2:0<w2*d3 e f g e f g:=Int.mul_pos h2 hpos
  rcases Int.lt_or_le (a*e+b*f+c*g) 0 with h | h
  ·exact h
  ·have:=Int.mul_nonneg (Int.le_of_lt h1) h;omega
 ·have n:∀x y:Int,w1*x+w2*y=0→w1*(x.natAbs:Int)=w2*(y.natAbs:Int):=fun x y h=>by
   have:=na_mul (a:=w1) (b:=x) (c:=w2) (d:=-y) (by grind)
   rw[Int.natAbs_neg] at this
   rwa [Int.natAbs_of_nonneg (a:=w1) (by omega),Int.natAbs_of_nonneg (a:=w2) (by omega)] at this
  have na:=n _ _ ha;have nb:=n _ _ hb;have nc:=n _ _ hc
  push_cast
  refine mul_can (c:=w1) ?_ h1
  have e1:((↑e.natAbs+↑f.natAbs+↑g.natAbs)*d+(↑a.natAbs+↑b.natAbs+↑c.natAbs)*i)*w1=((e.natAbs:Int)+f.natAbs+g.natAbs)*(w1*d+w2*i):=by grind
  rw[e1,Int.zero_mul]
  exact Int.mul_nonpos_of_nonneg_of_nonpos (by omega) hd
theorem sgn_of{w k x y:Int}(hw:0<w)(hk:0<k)(h:w*x=k*y):(0<y→0<x)∧(y<0→x<0)∧w*(x.natAbs:Int)=k*(y.natAbs:Int):=by
 refine⟨fun hy=>?_,fun hy=>?_,?_⟩
 ·have:=Int.mul_pos hk hy
  rcases Int.lt_or_le 0 x with h1 | h1
  ·exact h1
  ·have:=Int.mul_nonpos_of_nonneg_of_nonpos (Int.le_of_lt hw) h1;omega
 ·have:k*y<0:=Int.mul_neg_of_pos_of_neg hk hy
  rcases Int.lt_or_le x 0 with h1 | h1
  ·exact h1
  ·have:=Int.mul_nonneg (Int.le_of_lt hw) h1;omega
 ·have:=na_mul h
  rwa [Int.natAbs_of_nonneg (a:=w) (by omega),Int.natAbs_of_nonneg (a:=k) (by omega)] at this
theorem same3{w1 w2 w3 x y z:Int}{p q r:Pl}(h1:0<w1)(h2:0<w2)(h3:0<w3)(hz:z≠0)(hx:w3*x=w1*z)(hy:w3*y=w2*z)
  (hd:w1*p.D+w2*q.D+w3*r.D≤0):sk x y z p.D q.D r.D=true:=by
 have sx:=sgn_of h3 h1 hx;have sy:=sgn_of h3 h2 hy
 unfold sk
 rw[decide_eq_true_iff]
 refine⟨?_,?_⟩
 ·rcases Int.lt_or_lt_of_ne hz with h | h
  ·exact .inr ⟨sx.2.1 h,sy.2.1 h,h⟩
  ·exact .inl ⟨sx.1 h,sy.1 h,h⟩
 ·refine mul_can (c:=w3) ?_ h3
  have e:((x.natAbs:Int)*p.D+(y.natAbs:Int)*q.D+(z.natAbs:Int)*r.D)*w3=(z.natAbs:Int)*(w1*p.D+w2*q.D+w3*r.D):=by
   have a1:=sx.2.2;have a2:=sy.2.2;grind
  rw[e,Int.zero_mul]
  exact Int.mul_nonpos_of_nonneg_of_nonpos (by omega) hd
theorem same4{w1 w2 w3 w4:Int}{p q r s:Pl}(h1:0<w1)(h2:0<w2)(h3:0<w3)(h4:0<w4)(hz:0-det3 p q r≠0)
  (hx:w4*det3 q r s=w1*(0-det3 p q r)) (hy:w4*(0-det3 p r s)=w2*(0-det3 p q r)) (hv:w4*det3 p q s=w3*(0-det3 p q r))
  (hd:w1*p.D+w2*q.D+w3*r.D+w4*s.D≤0):cl4 p q r s=true:=by
 have sx:=sgn_of h4 h1 hx;have sy:=sgn_of h4 h2 hy;have sv:=sgn_of h4 h3 hv
 unfold cl4
 generalize det3 q r s=a at *
 generalize (0-det3 p r s)=b at *
 generalize det3 p q s=c at *
 generalize (0-det3 p q r)=z at *
 rw[decide_eq_true_iff]
 refine⟨?_,?_⟩
 ·rcases Int.lt_or_lt_of_ne hz with h | h
  ·exact .inr ⟨sx.2.1 h,sy.2.1 h,sv.2.1 h,h⟩
  ·exact .inl ⟨sx.1 h,sy.1 h,sv.1 h,h⟩
 ·refine mul_can (c:=w4) ?_ h4
  have e:((a.natAbs:Int)*p.D+(b.natAbs:Int)*q.D+(c.natAbs:Int)*r.D+(z.natAbs:Int)*s.D)*w4=(z.natAbs:Int)*(w1*p.D+w2*q.D+w3*r.D+w4*s.D):=by
   have a1:=sx.2.2;have a2:=sy.2.2;have a3:=sv.2.2;grind
  rw[e,Int.zero_mul]
  exact Int.mul_nonpos_of_nonneg_of_nonpos (by omega) hd
theorem cross_dep{p q r:Pl}(h:det3 p q r=0) :
  (cr0 q r*p.A+cr0 r p*q.A+cr0 p q*r.A=0∧cr0 q r*p.B+cr0 r p*q.B+cr0 p q*r.B=0∧cr0 q r*p.C+cr0 r p*q.C+cr0 p q*r.C=0) ∧
  (cr1 q r*p.A+cr1 r p*q.A+cr1 p q*r.A=0∧cr1 q r*p.B+cr1 r p*q.B+cr1 p q*r.B=0∧cr1 q r*p.C+cr1 r p*q.C+cr1 p q*r.C=0) ∧
  (cr2 q r*p.A+cr2 r p*q.A+cr2 p q*r.A=0∧cr2 q r*p.B+cr2 r p*q.B+cr2 p q*r.B=0∧cr2 q r*p.C+cr2 r p*q.C+cr2 p q*r.C=0):=by
 obtain⟨a,b,c,d⟩:=p;obtain⟨e,f,g,i⟩:=q;obtain⟨j,k,l,m⟩:=r
 simp only[det3,cr0,cr1,cr2] at h ⊢
 refine⟨⟨?_,?_,?_⟩,⟨?_,?_,?_⟩,?_,?_,?_⟩ <;> grind
theorem det_dep(p q r s:Pl) :
  det3 q r s*p.A+(0-det3 p r s)*q.A+det3 p q s*r.A+(0-det3 p q r)*s.A=0 ∧
  det3 q r s*p.B+(0-det3 p r s)*q.B+det3 p q s*r.B+(0-det3 p q r)*s.B=0 ∧
  det3 q r s*p.C+(0-det3 p r s)*q.C+det3 p q s*r.C+(0-det3 p q r)*s.C=0:=by
 obtain⟨a,b,c,d⟩:=p;obtain⟨e,f,g,i⟩:=q;obtain⟨j,k,l,m⟩:=r;obtain⟨u,v,w,x⟩:=s
 simp only[det3]
 refine⟨?_,?_,?_⟩ <;> grind
theorem det_zero{w1 w2 w3:Int}{p q r:Pl}(h1:0<w1)(ha:w1*p.A+w2*q.A+w3*r.A=0)(hb:w1*p.B+w2*q.B+w3*r.B=0)(hc:w1*p.C+w2*q.C+w3*r.C=0):det3 p q r=0:=by
 obtain⟨a,b,c,d⟩:=p;obtain⟨e,f,g,i⟩:=q;obtain⟨j,k,l,m⟩:=r
 simp only[det3] at ha hb hc ⊢
 refine(Int.mul_eq_zero.1 (show w1*_=0 from ?_)).resolve_left (by omega)
 have e1:w1*a=-(w2*e)-w3*j:=by omega
 have e2:w1*b=-(w2*f)-w3*k:=by omega
 have e3:w1*c=-(w2*g)-w3*l:=by omega
 rw[Int.mul_add,Int.mul_add,←Int.mul_assoc,←Int.mul_assoc,←Int.mul_assoc,e1,e2,e3]
 grind
theorem dep3{p q r:Pl}(h:det3 p q r=0)(hp:Nz p)(hq:Nz q):∃x y z:Int,(x≠0∨z≠0) ∧
  x*p.A+y*q.A+z*r.A=0∧x*p.B+y*q.B+z*r.B=0∧x*p.C+y*q.C+z*r.C=0:=by
 by_cases hw:cr0 p q=0∧cr1 p q=0∧cr2 p q=0
 ·obtain⟨x,y,h1,h2,h3,h4,h5⟩:=cr_dep p q hw hp hq
  exact⟨x,y,0,.inl h1,by omega,by omega,by omega⟩
 ·obtain⟨c0,c1,c2⟩:=cross_dep h
  by_cases h0:cr0 p q=0
  ·by_cases h1:cr1 p q=0
   ·exact⟨_,_,_,.inr fun h2=>hw ⟨h0,h1,h2⟩,c2⟩
   ·exact⟨_,_,_,.inr h1,c1⟩
  ·exact⟨_,_,_,.inr h0,c0⟩
end Evl.T
namespace Evl.T
open Go Evl
theorem no_cert{l:List Pl}(ho:Opn l)(hz:∀q∈l,Nz q):∀(n:Nat) (c:List (Int×Pl)),c.length<n→Cert c→(c.map (·.2)).Sublist l→False:=by
 intro n
 induction n with
 | zero=>intro c h;omega
 | succ n ih =>
  intro c hn hc hs
  have go:(∃c',Cert c'∧c'.length<c.length∧(c'.map (·.2)).Sublist (c.map (·.2)))→False:=fun ⟨c',h1,h2,h3⟩=>ih c' (by omega) h1 (h3.trans hs)
  have nz:∀x∈c,Nz x.2:=fun x hx=>hz _ (hs.subset (List.mem_map.2 ⟨x,hx,rfl⟩))
  have ps:=hc.pos
  have ha:=hc.a;have hb:=hc.b;have hcc:=hc.cc;have hd:=hc.d
  match c,hc,hs,go,nz,ps,ha,hb,hcc,hd with
  | [],hc,_,_,_,_,_,_,_,_=>exact hc.ne rfl
  | [(w,p)],_,_,_,nz,ps,ha,hb,hcc,_ =>
   have hw:=ps _ (List.mem_singleton.2 rfl)
   have hn:=nz _ (List.mem_singleton.2 rfl)
   simp only[sm,Int.add_zero] at ha hb hcc hw
   have z:∀y:Int,w*y=0→y=0:=fun y h=>(Int.mul_eq_zero.1 h).resolve_left (by omega)
   rcases hn with h | h | h
   ·exact h (z _ ha)
   ·exact h (z _ hb)
   ·exact h (z _ hcc)
  | [(w1,p),(w2,q)],_,hs,_,nz,ps,ha,hb,hcc,hd =>
   have h1:0<w1:=ps (w1,p) (by simp)
   have h2:0<w2:=ps (w2,q) (by simp)
   have nq:Nz q:=nz (w2,q) (by simp)
   simp only[sm,Int.add_zero] at ha hb hcc hd
   have hcl:=same2 h1 h2 nq ha hb hcc hd
   obtain⟨l',h3,h4⟩:=ho.last (r:=[p]) (p:=q) hs
   rw[(wth_sub l' q).2 (.inl ⟨p,h3,hcl⟩)] at h4
   cases h4
  | [(w1,p),(w2,q),(w3,r)],hc,hs,go,nz,ps,ha,hb,hcc,hd =>
   have h1:0<w1:=ps (w1,p) (by simp)
   have h2:0<w2:=ps (w2,q) (by simp)
   have h3:0<w3:=ps (w3,r) (by simp)
   have np:Nz p:=nz (w1,p) (by simp)
   have nq:Nz q:=nz (w2,q) (by simp)
   simp only[sm,Int.add_zero] at ha hb hcc hd
   have hdet:det3 p q r=0:=det_zero (w2:=w2) (w3:=w3) h1 (by omega) (by omega) (by omega)
   by_cases hw:cr0 p q=0∧cr1 p q=0∧cr2 p q=0
   ·obtain⟨x,y,hx,hy,e1,e2,e3⟩:=cr_dep p q hw np nq
    refine go (red2 [(w1,x,p),(w2,y,q)] [(w3,r)] hc ?_ ?_ ?_ (.inr ⟨by simp,(w1,x,p),by simp,hx⟩))
    ·simp only[tv,List.map_cons,List.map_nil,sm];omega
    ·simp only[tv,List.map_cons,List.map_nil,sm];omega
    ·simp only[tv,List.map_cons,List.map_nil,sm];omega
   ·obtain⟨c0,c1,c2⟩:=cross_dep hdet
    obtain⟨⟨a1,a2,a3⟩,b1,b2,b3⟩:=par3 hdet
    have pX:=prj a1 a2 a3;have pY:=prj b1 b2 b3
    have key:∀x y z:Int,z≠0→(x*p.A+y*q.A+z*r.A=0∧x*p.B+y*q.B+z*r.B=0∧x*p.C+y*q.C+z*r.C=0) →
      d3 (cr0 q r) (cr1 q r) (cr2 q r) (cr0 p q) (cr1 p q) (cr2 p q)*z=x*d3 (cr0 p q) (cr1 p q) (cr2 p q) (cr0 p q) (cr1 p q) (cr2 p q) →
      d3 (cr0 r p) (cr1 r p) (cr2 r p) (cr0 p q) (cr1 p q) (cr2 p q)*z=y*d3 (cr0 p q) (cr1 p q) (cr2 p q) (cr0 p q) (cr1 p q) (cr2 p q)→False:=by
     intro x y z hz0 ⟨d1,d2,d3'⟩ hX hY
     by_cases hx:w3*x=w1*z
     ·by_cases hy:w3*y=w2*z
      ·have hk:=same3 (p:=p) (q:=q) (r:=r) h1 h2 h3 hz0 hx hy (by omega)
       rw[sk_cl3 hdet hw hz0 hX hY] at hk
       obtain⟨l',h3,h4⟩:=ho.last (r:=[p,q]) (p:=r) hs
       rw[(wth_sub l' r).2 (.inr (.inl ⟨p,q,h3,hk⟩))] at h4
       cases h4
      ·refine go (red2 [(w1,x,p),(w2,y,q),(w3,z,r)] [] hc ?_ ?_ ?_ (.inl ⟨(w3,z,r),by simp,(w2,y,q),by simp,hy⟩))
       ·simp only[tv,List.map_cons,List.map_nil,sm];omega
       ·simp only[tv,List.map_cons,List.map_nil,sm];omega
       ·simp only[tv,List.map_cons,List.map_nil,sm];omega
     ·refine go (red2 [(w1,x,p),(w2,y,q),(w3,z,r)] [] hc ?_ ?_ ?_ (.inl ⟨(w3,z,r),by simp,(w1,x,p),by simp,hx⟩))
      ·simp only[tv,List.map_cons,List.map_nil,sm];omega
      ·simp only[tv,List.map_cons,List.map_nil,sm];omega
      ·simp only[tv,List.map_cons,List.map_nil,sm];omega
    by_cases h0:cr0 p q=0
    ·by_cases h1:cr1 p q=0
     ·exact key _ _ _ (fun h2=>hw ⟨h0,h1,h2⟩) c2 pX.2.2 pY.2.2
     ·exact key _ _ _ h1 c1 pX.2.1 pY.2.1
    ·exact key _ _ _ h0 c0 pX.1 pY.1
  | (w1,p)::(w2,q)::(w3,r)::(w4,s)::rest,hc,hs,go,nz,ps,ha,hb,hcc,hd =>
   have h1:0<w1:=ps (w1,p) (by simp)
   have h2:0<w2:=ps (w2,q) (by simp)
   have h3:0<w3:=ps (w3,r) (by simp)
   have h4:0<w4:=ps (w4,s) (by simp)
   have np:Nz p:=nz (w1,p) (by simp)
   have nq:Nz q:=nz (w2,q) (by simp)
   by_cases hz0:0-det3 p q r=0
   ·obtain⟨x,y,z,hxz,e1,e2,e3⟩:=dep3 (p:=p) (q:=q) (r:=r) (by omega) np nq
    refine go (red2 [(w1,x,p),(w2,y,q),(w3,z,r)] ((w4,s)::rest) hc ?_ ?_ ?_ (.inr ⟨by simp,?_⟩))
    ·simp only[tv,List.map_cons,List.map_nil,sm];omega
    ·simp only[tv,List.map_cons,List.map_nil,sm];omega
    ·simp only[tv,List.map_cons,List.map_nil,sm];omega
    ·rcases hxz with h | h
     ·exact⟨(w1,x,p),by simp,h⟩
     ·exact⟨(w3,z,r),by simp,h⟩
   ·obtain⟨e1,e2,e3⟩:=det_dep p q r s
    have rd:=red2 [(w1,det3 q r s,p),(w2,0-det3 p r s,q),(w3,det3 p q s,r),(w4,0-det3 p q r,s)] rest hc
     (by simp only[tv,List.map_cons,List.map_nil,sm];omega) (by simp only[tv,List.map_cons,List.map_nil,sm];omega) (by simp only[tv,List.map_cons,List.map_nil,sm];omega)
    by_cases hr:rest=[]
    ·subst hr
     by_cases hx:w4*det3 q r s=w1*(0-det3 p q r)
     ·by_cases hy:w4*(0-det3 p r s)=w2*(0-det3 p q r)
      ·by_cases hv:w4*det3 p q s=w3*(0-det3 p q r)
       ·simp only[sm,Int.add_zero] at hd
        have hk:=same4 h1 h2 h3 h4 hz0 hx hy hv (by omega)
        obtain⟨l',h3,h4⟩:=ho.last (r:=[p,q,r]) (p:=s) hs
        rw[(wth_sub l' s).2 (.inr (.inr ⟨p,q,r,h3,hk⟩))] at h4
        cases h4
       ·exact go (rd (.inl ⟨(w4,0-det3 p q r,s),by simp,(w3,det3 p q s,r),by simp,hv⟩))
      ·exact go (rd (.inl ⟨(w4,0-det3 p q r,s),by simp,(w2,0-det3 p r s,q),by simp,hy⟩))
     ·exact go (rd (.inl ⟨(w4,0-det3 p q r,s),by simp,(w1,det3 q r s,p),by simp,hx⟩))
    ·exact go (rd (.inr ⟨hr,(w4,0-det3 p q r,s),by simp,hz0⟩))
def Half (l:List Pl)(p:Pl):Prop:=∃(c:List (Int×Pl)) (m:Int),0<m∧c≠[]∧(∀x∈c,0<x.1)∧(c.map (·.2)).Sublist l ∧
 sm Pl.A c+m*p.A=0∧sm Pl.B c+m*p.B=0∧sm Pl.C c+m*p.C=0∧sm Pl.D c+m*p.D≤0
theorem half2{p q:Pl}{l:List Pl}(hs:[q].Sublist l)(hq:Nz q)(h:cl2 q p=true):Half l p:=by
 unfold cl2 at h
 rw[decide_eq_true_iff] at h
 obtain⟨⟨h0,h1,h2,h3⟩,h4⟩:=h
 obtain⟨a,b,c,d⟩:=p;obtain⟨e,f,g,i⟩:=q
 simp only[cr0,cr1,cr2,dt,Nz] at h0 h1 h2 h3 h4 hq
 have hN:0<d3 e f g e f g:=d3_pos (fun h=>by
  rcases hq with h' | h' | h'
  ·exact h' h.1
  ·exact h' h.2.1
  ·exact h' h.2.2)
 have ca:(0-(e*a+f*b+g*c))*e+d3 e f g e f g*a=0:=by unfold d3;grind
 have cb:(0-(e*a+f*b+g*c))*f+d3 e f g e f g*b=0:=by unfold d3;grind
 have cc:(0-(e*a+f*b+g*c))*g+d3 e f g e f g*c=0:=by unfold d3;grind
 generalize d3 e f g e f g=N at *
 have hM:0<0-(e*a+f*b+g*c):=by omega
 generalize 0-(e*a+f*b+g*c)=M at *
 refine⟨[(M,⟨e,f,g,i⟩)],N,hN,by simp,?_,hs,?_,?_,?_,?_⟩
 ·intro x hx;rw[List.mem_singleton.1 hx];exact hM
 ·simp only[sm];omega
 ·simp only[sm];omega
 ·simp only[sm];omega
 ·simp only[sm,Int.add_zero]
  have n:∀x y:Int,M*x+N*y=0→M*(x.natAbs:Int)=N*(y.natAbs:Int):=fun x y h=>by
   have:=na_mul (a:=M) (b:=x) (c:=N) (d:=-y) (by grind)
   rw[Int.natAbs_neg] at this
   rwa [Int.natAbs_of_nonneg (a:=M) (by omega),Int.natAbs_of_nonneg (a:=N) (by omega)] at this
  have na:=n _ _ ca;have nb:=n _ _ cb;have nc:=n _ _ cc
  push_cast at h4
  have hQ:0<(e.natAbs:Int)+f.natAbs+g.natAbs:=by
   rcases hq with h' | h' | h' <;> omega
  refine mul_can (c:=(e.natAbs:Int)+f.natAbs+g.natAbs) ?_ hQ
  have e1:(M*i+N*d)*((e.natAbs:Int)+f.natAbs+g.natAbs)=N*(((a.natAbs:Int)+b.natAbs+c.natAbs)*i+((e.natAbs:Int)+f.natAbs+g.natAbs)*d):=by grind
  rw[e1,Int.zero_mul]
  exact Int.mul_nonpos_of_nonneg_of_nonpos (by omega) h4
theorem lin3{x0 x1 x2 y0 y1 y2 w0 w1 w2 a b c:Int}(h0:x0*a+y0*b+w0*c=0)(h1:x1*a+y1*b+w1*c=0)(h2:x2*a+y2*b+w2*c=0) :
  d3 x0 x1 x2 w0 w1 w2*a+d3 y0 y1 y2 w0 w1 w2*b+d3 w0 w1 w2 w0 w1 w2*c=0:=by
 have e:d3 x0 x1 x2 w0 w1 w2*a+d3 y0 y1 y2 w0 w1 w2*b+d3 w0 w1 w2 w0 w1 w2*c=w0*(x0*a+y0*b+w0*c)+w1*(x1*a+y1*b+w1*c)+w2*(x2*a+y2*b+w2*c):=by unfold d3;grind
 rw[e,h0,h1,h2];simp
theorem half3{p q r:Pl}{l:List Pl}(hs:[q,r].Sublist l)(h:cl3 q r p=true):Half l p:=by
 unfold cl3 at h
 rw[decide_eq_true_iff] at h
 obtain⟨h0,h1,⟨h2,h3⟩,h4⟩:=h
 obtain⟨⟨c1,c2,c3⟩,⟨c4,c5,c6⟩,c7,c8,c9⟩:=cross_dep h0
 refine⟨[(d3 (cr0 r p) (cr1 r p) (cr2 r p) (cr0 q r) (cr1 q r) (cr2 q r),q),(d3 (cr0 p q) (cr1 p q) (cr2 p q) (cr0 q r) (cr1 q r) (cr2 q r),r)],d3 (cr0 q r) (cr1 q r) (cr2 q r) (cr0 q r) (cr1 q r) (cr2 q r),h1,by simp,?_,hs,?_,?_,?_,?_⟩
 ·intro x hx
  simp only[List.mem_cons,List.not_mem_nil,or_false] at hx
  rcases hx with rfl | rfl
  ·exact h2
  ·exact h3
 ·simp only[sm,Int.add_zero];exact lin3 c1 c4 c7
 ·simp only[sm,Int.add_zero];exact lin3 c2 c5 c8
 ·simp only[sm,Int.add_zero];exact lin3 c3 c6 c9
 ·simp only[sm];omega
theorem half4{p q r s:Pl}{l:List Pl}(hs:[q,r,s].Sublist l)(h:cl4 q r s p=true):Half l p:=by
 unfold cl4 at h
 rw[decide_eq_true_iff] at h
 obtain⟨h0,h4⟩:=h
 obtain⟨c1,c2,c3⟩:=det_dep q r s p
 generalize det3 r s p=a at *
 generalize (0-det3 q s p)=b at *
 generalize det3 q r p=c at *
 generalize (0-det3 q r s)=z at *
 have ps:0<(a.natAbs:Int)∧0<(b.natAbs:Int)∧0<(c.natAbs:Int)∧0<(z.natAbs:Int):=by omega
 have key:∀x y u v:Int,a*x+b*y+c*u+z*v=0→(a.natAbs:Int)*x+((b.natAbs:Int)*y+((c.natAbs:Int)*u+0))+(z.natAbs:Int)*v=0:=fun x y u v h=>by
  rcases h0 with h0 | h0
  ·rw[Int.natAbs_of_nonneg (by omega),Int.natAbs_of_nonneg (by omega),Int.natAbs_of_nonneg (by omega),Int.natAbs_of_nonneg (by omega)];omega
  ·rw[Int.ofNat_natAbs_of_nonpos (by omega),Int.ofNat_natAbs_of_nonpos (by omega),Int.ofNat_natAbs_of_nonpos (by omega),Int.ofNat_natAbs_of_nonpos (by omega)];grind
 refine⟨[((a.natAbs:Int),q),((b.natAbs:Int),r),((c.natAbs:Int),s)],(z.natAbs:Int),ps.2.2.2,by simp,?_,hs,key _ _ _ _ c1,key _ _ _ _ c2,key _ _ _ _ c3,?_⟩
 ·intro x hx
  simp only[List.mem_cons,List.not_mem_nil,or_false] at hx
  rcases hx with rfl | rfl | rfl
  ·exact ps.1
  ·exact ps.2.1
  ·exact ps.2.2.1
 ·simp only[sm];omega
theorem half_of{l:List Pl}{p:Pl}(hz:∀q∈l,Nz q)(h:wth l p=true):Half l p:=by
 rcases(wth_sub l p).1 h with ⟨q,h1,h2⟩ | ⟨q,r,h1,h2⟩ | ⟨q,r,s,h1,h2⟩
 ·exact half2 h1 (hz q (h1.subset List.mem_cons_self)) h2
 ·exact half3 h1 h2
 ·exact half4 h1 h2
theorem sm_pos{c:List (Int×Pl)}(h:∀x∈c,0<x.1)(hn:c≠[]):0<sm (fun _=>1) c:=by
 have ge:∀c:List (Int×Pl),(∀x∈c,0<x.1)→0≤sm (fun _=>1) c:=fun c=>by
  induction c with
  | nil=>intro _;exact Int.le_refl _
  | cons x r ih =>
   intro h
   have h1:=h x List.mem_cons_self
   have h2:=ih fun y hy=>h y (List.mem_cons_of_mem _ hy)
   rw[sm_cons];omega
 obtain⟨x,r,rfl⟩:=List.exists_cons_of_ne_nil hn
 have h1:=h x List.mem_cons_self
 have h2:=ge r fun y hy=>h y (List.mem_cons_of_mem _ hy)
 rw[sm_cons];omega
end Evl.T
namespace Evl.T
open Go Evl
theorem nz_snoc{l:List Pl}{p:Pl}(hz:∀q∈l,Nz q)(hp:Nz p):∀q∈l++[p],Nz q:=fun q hq=>by
 rcases List.mem_append.1 hq with hq | hq
 ·exact hz q hq
 ·rw[List.mem_singleton.1 hq];exact hp
end Evl.T
namespace Evl.T
open Go Evl
def Con (l:List Pl):Prop:=∀c,Cert c→¬∀x∈c,x.2∈l
theorem Con.mono{l l':List Pl}(h:Con l')(hs:∀q∈l,q∈l'):Con l:=fun c hc hm=>h c hc fun x hx=>hs _ (hm x hx)
theorem addAt(p:Pl)(w:Int)(hw:0≤w):∀z:List (Int×Pl),p∈z.map (·.2)→(∀x∈z,0≤x.1)→∃z',z'.map (·.2)=z.map (·.2)∧(∀x∈z',0≤x.1)∧∀f,sm f z'=sm f z+w*f p
 | [],h,_=>by simp at h
 | (u,q)::z,h,hz=>by
  by_cases hq:p=q
  ·subst hq
   refine⟨(u+w,p)::z,rfl,fun x hx=>?_,fun f=>?_⟩
   ·rcases List.mem_cons.1 hx with rfl | hx
    ·have:=hz (u,p) (by simp)
     show 0≤u+w
     simp only at this;omega
    ·exact hz x (by simp[hx])
   ·simp only[sm_cons];grind
  ·obtain⟨z',h1,h2,h3⟩:=addAt p w hw z (by
    simp only[List.map_cons,List.mem_cons] at h
    exact h.resolve_left hq) fun x hx=>hz x (by simp[hx])
   refine⟨(u,q)::z',by simp[h1],fun x hx=>?_,fun f=>?_⟩
   ·rcases List.mem_cons.1 hx with rfl | hx
    ·exact hz _ (by simp)
    ·exact h2 x hx
   ·simp only[sm_cons,h3];omega
theorem sm_nul(f:Pl→Int)(l:List Pl):sm f (l.map fun x=>((0:Int),x))=0:=by
 induction l with
 | nil=>rfl
 | cons y l ih=>simp only[List.map_cons,sm_cons,ih];omega
theorem padM(l:List Pl):∀c:List (Int×Pl),(∀x∈c,0<x.1)→(∀x∈c,x.2∈l)→∃z,z.map (·.2)=l∧(∀x∈z,0≤x.1)∧∀f,sm f z=sm f c
 | [],_,_=>⟨l.map fun x=>((0:Int),x),by simp[Function.comp_def],fun x hx=>by
   obtain⟨y,_,rfl⟩:=List.mem_map.1 hx;exact Int.le_refl _,fun f=>sm_nul f l⟩
 | (w,p)::c,hp,hm=>by
  obtain⟨z,h1,h2,h3⟩:=padM l c (fun x hx=>hp x (by simp[hx])) fun x hx=>hm x (by simp[hx])
  obtain⟨z',g1,g2,g3⟩:=addAt p w (Int.le_of_lt (hp (w,p) (by simp))) z (by rw[h1];exact hm (w,p) (by simp)) h2
  exact⟨z',g1.trans h1,g2,fun f=>by rw[g3,h3,sm_cons];simp only;omega⟩
theorem Opn.con{l:List Pl}(ho:Opn l)(hz:∀q∈l,Nz q):Con l:=fun c hc hm=>by
 obtain⟨z,z1,z2,z3⟩:=padM l c hc.pos hm
 have e:∀f,sm f (pst z)=sm f c:=fun f=>by rw[sm_pst _ _ z2,z3]
 refine no_cert ho hz _ (pst z) (Nat.lt_succ_self _) ⟨fun x hx=>pst_pos hx,by rw[e];exact hc.a,by rw[e];exact hc.b,by rw[e];exact hc.cc,by rw[e];exact hc.d,fun h=>?_⟩ ?_
 ·have:=e fun _=>1
  rw[h,sm_nil] at this
  have:=sm_pos hc.pos hc.ne
  omega
 ·have:=(pst_sub z).map (·.2)
  rw[z1] at this;exact this
theorem con_wth{l:List Pl}{p:Pl}(hz:∀q∈l,Nz q)(h:wth l p=true):¬Con (p::l):=fun hC=>by
 obtain⟨c,m,hm,hcn,hcp,hcs,ca,cb,cc,cd⟩:=half_of hz h
 refine hC ((m,p)::c) ⟨fun x hx=>?_,?_,?_,?_,?_,by simp⟩ fun x hx=>?_
 ·rcases List.mem_cons.1 hx with rfl | hx
  ·exact hm
  ·exact hcp x hx
 ·rw[sm_cons];simp only;omega
 ·rw[sm_cons];simp only;omega
 ·rw[sm_cons];simp only;omega
 ·rw[sm_cons];simp only;omega
 ·rcases List.mem_cons.1 hx with rfl | hx
  ·simp
  ·exact List.mem_cons_of_mem _ (hcs.subset (List.mem_map.2 ⟨x,hx,rfl⟩))
theorem con_snoc{l:List Pl}{p:Pl}(ho:Opn l)(hz:∀q∈l,Nz q)(hp:Nz p)(h:wth l p=false):Con (p::l) :=
 ((Opn.snoc ho h).con (nz_snoc hz hp)).mono fun q hq=>by
  rcases List.mem_cons.1 hq with rfl | hq
  ·simp
  ·simp[hq]
theorem wth_con{l:List Pl}{p:Pl}(ho:Opn l)(hz:∀q∈l,Nz q)(hp:Nz p):wth l p=true↔¬Con (p::l) :=
 ⟨con_wth hz,fun h=>by
  cases hw:wth l p with
  | true=>rfl
  | false=>exact absurd (con_snoc ho hz hp hw) h⟩
end Evl.T
namespace Evl.T
open Go Evl
theorem cmpDQ(a b:Int):Dcmp_Compare a b=some (cmpI a b):=by
 unfold Dcmp_Compare Dcmp_isNaN cmpI frk
 simp only[Option.bind_some,bne_self_eq_false]
 by_cases h1:a<b
 ·simp[h1]
 ·by_cases h2:a>b <;> simp[h1,h2]
theorem orD4'(m:Nat)(a b c d:Int):Dcmp_Or (m+9) [a,b,c,d]=some (or4 a b c d):=by
 unfold Dcmp_Or or4
 by_cases ha:a=0
 ·by_cases hb:b=0
  ·by_cases hc:c=0
   ·by_cases hd:d=0
    ·subst ha hb hc hd;simp[loopN,Dcmp_Or_0,frk,lget,w64,IntKind.wrap,IntKind.bits,IntKind.signed]
    ·subst ha hb hc;simp[loopN,Dcmp_Or_0,frk,lget,w64,IntKind.wrap,IntKind.bits,IntKind.signed,hd]
   ·subst ha hb;simp[loopN,Dcmp_Or_0,frk,lget,w64,IntKind.wrap,IntKind.bits,IntKind.signed,hc]
  ·subst ha;simp[loopN,Dcmp_Or_0,frk,lget,w64,IntKind.wrap,IntKind.bits,IntKind.signed,hb]
 ·simp[loopN,Dcmp_Or_0,frk,lget,ha]
def gtr (p:Pl):Pl:=if cmpP (flp p) p>0 then flp p else p
theorem iGreaterN{p:Pl}(h:PB p)(n:Nat)(hn:9≤n):Dimpl_greater n p=some (gtr p):=by
 obtain⟨m,rfl⟩:∃m,n=m+9:=⟨n-9,by omega⟩
 unfold Dimpl_greater Dimpl_CmpPlane gtr
 rw[iFlip p h,Option.bind_some]
 simp only[cmpDQ,Option.bind_some,orD4']
 unfold cmpP
 by_cases hc:or4 (cmpI (flp p).A p.A) (cmpI (flp p).B p.B) (cmpI (flp p).C p.C) (cmpI (flp p).D p.D)>0
 ·rw[decide_eq_true hc,frk_t,if_pos hc]
 ·rw[decide_eq_false hc,frk_f,if_neg hc]
end Evl.T
namespace Evl.T
open Go Evl
theorem any_gtQ(l:List Pl)(f:Pl→Bool):((List.range' 0 l.length).any fun i=>f (gt l i))=l.any f:=by
 rw[Bool.eq_iff_iff,List.any_eq_true,List.any_eq_true]
 constructor
 ·rintro⟨i,hi,h⟩
  have:i<l.length:=by simpa using hi
  exact⟨_,gt_mem this,h⟩
 ·rintro⟨x,hx,h⟩
  obtain⟨i,hi,e⟩:=List.getElem_of_mem hx
  refine⟨i,by simpa using hi,?_⟩
  have:=gt_some hi
  rw[List.getElem?_eq_getElem hi] at this
  rw[←Option.some.inj this,e];exact h
def opBQ (l:List Pl):Bool:=!(List.range' 0 l.length).any fun i=>wth (l.take i) (gt l i)
theorem sOpenQ(l:List Pl)(hl:∀q∈l,PB q)(hb:l.length≤big):Ev fun n=>Dspec_l6Open n l=some (opBQ l):=by
 refine(e_ge (l.length+502)).mono fun n hn=>?_
 have e:opBQ l=!(List.range' 1 (l.length-1)).any fun i=>wth (l.take i) (gt l i):=by
  unfold opBQ
  cases l with
  | nil=>rfl
  | cons x l=>simp only[List.length_cons,List.range'_succ,List.any_cons,Nat.add_sub_cancel];rfl
 have hF:∀rec (i:Nat),i<l.length→Dspec_l6Open_0 n l rec (i:Int)=cond (wth (l.take i) (gt l i)) (some false) (rec (w64 ((i:Int)+1))):=by
  intro rec i hi
  unfold Dspec_l6Open_0
  simp only[lt_dec hi,frk_t,lget_nat,gt_some hi,Option.bind_some,lsl_take l i (by omega)]
  rw[sWith (l.take i) (gt l i) (fun q hq=>hl q (List.mem_of_mem_take hq)) (hl _ (gt_mem hi)) (by rw[List.length_take];omega) n (by rw[List.length_take];omega),Option.bind_some,frk_cond]
 have hE:∀rec,Dspec_l6Open_0 n l rec (l.length:Int)=some true:=by
  intro rec
  unfold Dspec_l6Open_0
  simp only[lt_self,frk_f]
 show loopN _ _ _=_
 cases hc:l with
 | nil =>
  obtain⟨m,rfl⟩:∃m,n=m+1:=⟨n-1,by omega⟩
  rw[loop_suc];rfl
 | cons x r =>
  rw[←hc]
  have hlen:l.length=r.length+1:=by rw[hc];rfl
  have h:=search (F:=Dspec_l6Open_0 n l) (len:=l.length) (b:=fun i=>wth (l.take i) (gt l i)) (hit:=some false) (miss:=some true) hb hF hE (l.length-1) 1 n (by omega) (by omega)
  rw[show (1:Int)=((1:Nat):Int) from rfl,h,e]
  cases (List.range' 1 (l.length-1)).any fun i=>wth (l.take i) (gt l i) <;> rfl
theorem opn_ofQ{l:List Pl}(h:opBQ l=true):Opn l:=by
 have key:∀k,k≤l.length→Opn (l.take k):=by
  intro k
  induction k with
  | zero=>intro _;exact .nil
  | succ k ih =>
   intro hk
   have e:l.take (k+1)=l.take k++[gt l k]:=by rw[List.take_add_one,gt_some (by omega)];rfl
   rw[e]
   refine .snoc (ih (by omega)) ?_
   unfold opBQ at h
   simp only[Bool.not_eq_true',List.any_eq_false] at h
   simpa using h k (by simp;omega)
 have:=key l.length (Nat.le_refl _)
 rwa [List.take_length] at this
theorem Opn.pre{l:List Pl}(h:Opn l):∀k,Opn (l.take k):=by
 induction h with
 | nil=>intro k;simpa using Opn.nil
 | @snoc l p h hw ih =>
  intro k
  by_cases hk:k≤l.length
  ·rw[List.take_append_of_le_length hk];exact ih k
  ·rw[List.take_of_length_le (by rw[List.length_append,List.length_singleton];omega)];exact .snoc h hw
theorem Opn.last1{l:List Pl}{p:Pl}(h:Opn (l++[p])):Opn l∧wth l p=false:=by
 generalize e:l++[p]=m at h
 cases h with
 | nil=>simp at e
 | @snoc l' p' h hw =>
  obtain⟨rfl,e2⟩:=List.append_inj' e rfl
  simp only[List.cons.injEq,and_true] at e2
  subst e2
  exact⟨h,hw⟩
theorem opB_ofQ{l:List Pl}(h:Opn l):opBQ l=true:=by
 unfold opBQ
 simp only[Bool.not_eq_true',List.any_eq_false]
 intro i hi
 have hi:i<l.length:=by simpa using hi
 have:=h.pre (i+1)
 rw[List.take_add_one,gt_some hi] at this
 have:=this.last1.2
 simpa using this
theorem flp_flpQ(p:Pl):flp (flp p)=p:=by cases p;unfold flp;simp only[Pl.mk.injEq];omega
theorem Nz_flpQ{p:Pl}(h:Nz p):Nz (flp p):=by unfold Nz flp at *;simp only;omega
theorem cmpI_gt(a b:Int):cmpI a b>0↔a>b:=by unfold cmpI;split;omega;split <;> omega
theorem or4_gt(a b c d:Int):or4 a b c d>0↔a>0∨(a=0∧(b>0∨(b=0∧(c>0∨(c=0∧d>0))))):=by unfold or4;split;omega;split;omega;split <;> omega
def ngp (p:Pl):Prop:=p.A<0∨(p.A=0∧(p.B<0∨(p.B=0∧(p.C<0∨(p.C=0∧p.D<0)))))
theorem gtr_ng(p:Pl):cmpP (flp p) p>0↔ngp p:=by
 unfold cmpP
 rw[or4_gt,cmpI_gt,cmpI_gt,cmpI_gt,cmpI_gt,cmpI_eq,cmpI_eq,cmpI_eq]
 unfold ngp flp;simp only;omega
theorem gtr_pos{p:Pl}(h:¬ngp p):gtr p=p:=by unfold gtr;rw[if_neg (fun h'=>h ((gtr_ng p).1 h'))]
theorem gtr_neg{p:Pl}(h:ngp p):gtr p=flp p:=by unfold gtr;rw[if_pos ((gtr_ng p).2 h)]
theorem ngp_flp{p:Pl}(h:Nz p):ngp (flp p)↔¬ngp p:=by unfold ngp flp Nz at *;simp only;omega
theorem gtr_flp{p:Pl}(h:Nz p):gtr (flp p)=gtr p:=by
 by_cases hn:ngp p
 ·rw[gtr_neg hn,gtr_pos (fun h'=>(ngp_flp h).1 h' hn)]
 ·rw[gtr_pos hn,gtr_neg ((ngp_flp h).2 hn),flp_flpQ]
theorem gtr_or(p:Pl):gtr p=p∨gtr p=flp p:=by unfold gtr;split <;> simp
theorem gtr_gtr{p:Pl}(h:Nz p):gtr (gtr p)=gtr p:=by
 rcases gtr_or p with e | e
 ·rw[e,e]
 ·rw[e,gtr_flp h,e]
theorem gtr_eq{q P:Pl}(hq:Nz q)(hP:gtr P=P):gtr q=P↔q=P∨q=flp P:=by
 constructor
 ·intro h
  rcases gtr_or q with e | e
  ·exact .inl (e.symm.trans h)
  ·right;rw[←h,e,flp_flpQ]
 ·rintro(rfl | e)
  ·exact hP
  ·have hz:Nz P:=by have:=Nz_flpQ hq;rw[e,flp_flpQ] at this;exact this
   rw[e,gtr_flp hz,hP]
def fE (L:List Pl)(P:Pl):Bool:=opBQ L&&(!wth L P&&!wth L (flp P))
def LL (a b:List Pl)(P:Pl):List Pl:=(a++b).filter fun q=>decide (gtr q≠P)
def meetB(a b:List Pl)(P:Pl):Bool:=((decide (P∈a)&&decide (flp P∈b))||(decide (P∈b)&&decide (flp P∈a)))&&fE (LL a b P) P
def touchB(a b:List Pl):Bool:=a.any fun q=>decide (flp q∈b)&&fE (LL a b (gtr q)) (gtr q)
theorem touch_eq{a b Pm:List Pl}(ha:∀q∈a,Nz q)(hP:∀m∈Pm,Nz m∧gtr m=m)(hin:∀q∈a,gtr q∈Pm):touchB a b=Pm.any (meetB a b):=by
 rw[Bool.eq_iff_iff]
 unfold touchB meetB
 simp only[List.any_eq_true,Bool.and_eq_true,Bool.or_eq_true,decide_eq_true_eq]
 constructor
 ·rintro⟨q,hq,h1,h2⟩
  refine⟨gtr q,hin q hq,?_,h2⟩
  rcases gtr_or q with e | e
  ·rw[e];exact .inl ⟨hq,h1⟩
  ·rw[e];exact .inr ⟨h1,by rw[flp_flpQ];exact hq⟩
 ·rintro⟨m,hm,h1 | h1,h2⟩
  ·exact⟨m,h1.1,h1.2,by rw[(hP m hm).2];exact h2⟩
  ·refine⟨flp m,h1.2,by rw[flp_flpQ];exact h1.1,?_⟩
   rw[gtr_flp (hP m hm).1,(hP m hm).2];exact h2
theorem pl_eqQ(a p:Pl):(a.A==p.A&&(a.B==p.B&&(a.C==p.C&&(a.D==p.D&&true))))=decide (a=p):=by
 cases a;cases p
 rw[Bool.eq_iff_iff,decide_eq_true_iff]
 simp
theorem amStep(n:Nat)(l:List Pl)(p:Pl)(rec0:Int→Option Bool)(k:Int):Dspec_l13Among_0 n l p.A p.B p.C p.D rec0 k=frk (decide (k<(l.length:Int))) ((lget l k).bind fun v0=>frk (v0.A==p.A&&(v0.B==p.B&&(v0.C==p.C&&(v0.D==p.D&&true)))) (some true) (rec0 (w64 (k+1)))) (some false):=rfl
theorem sAmong{l:List Pl}(hb:l.length≤1000)(p:Pl)(n:Nat)(hn:2000≤n):Dspec_l13Among n l p=some (decide (p∈l)):=by
 have h:=search (F:=Dspec_l13Among_0 n l p.A p.B p.C p.D) (len:=l.length) (b:=fun k=>decide (gt l k=p)) (hit:=some true) (miss:=some false) (by unfold big;omega) (fun rec k hk=>by
  rw[amStep,lt_dec hk,frk_t,lget_nat,gt_some hk,Option.bind_some,pl_eqQ,frk_cond]) (fun rec=>by rw[amStep,lt_self,frk_f]) l.length 0 n (by omega) (by omega)
 refine h.trans ?_
 rw[any_gtQ l fun q=>decide (q=p)]
 have e:(l.any fun q=>decide (q=p))=decide (p∈l):=by
  rw[Bool.eq_iff_iff,List.any_eq_true,decide_eq_true_iff]
  exact⟨fun ⟨x,hx,e⟩=>by rw[decide_eq_true_iff] at e;exact e ▸ hx,fun h=>⟨p,h,by simp⟩⟩
 rw[e]
 cases decide (p∈l) <;> rfl
theorem ixStepQ(n:Nat)(l:List Pl)(p:Pl)(rec0:Int→Option Int)(k:Int):Dslices_Index_0 n l (l.length:Int) p.A p.B p.C p.D rec0 k=frk (decide (k<(l.length:Int))) ((lget l k).bind fun v0=>frk (p.A==v0.A&&(p.B==v0.B&&(p.C==v0.C&&(p.D==v0.D&&true)))) (some k) (rec0 (w64 (k+1)))) (some (-1)):=rfl
theorem iHasQ{l:List Pl}(hb:l.length≤1000)(p:Pl)(n:Nat)(hn:2000≤n):Dslices_Contains n l p=some (decide (p∈l)):=by
 have key:∀d k m:Nat,k+d=l.length→d<m→∃v,loopN (Dslices_Index_0 n l (l.length:Int) p.A p.B p.C p.D) m (k:Int)=some v∧(v≥0↔p∈l.drop k):=by
  intro d
  induction d with
  | zero =>
   intro k m hk hm
   obtain⟨m,rfl⟩:∃j,m=j+1:=⟨m-1,by omega⟩
   refine⟨-1,by rw[loop_suc,ixStepQ,decide_eq_false (by omega),frk_f],?_⟩
   rw[List.drop_eq_nil_of_le (by omega)];simp
  | succ d ih =>
   intro k m hk hm
   obtain⟨m,rfl⟩:∃j,m=j+1:=⟨m-1,by omega⟩
   have hkl:k<l.length:=by omega
   rw[List.drop_eq_getElem_cons hkl]
   by_cases he:p=l[k]
   ·refine⟨(k:Int),?_,⟨fun _=>by rw[he];exact List.mem_cons_self,fun _=>by omega⟩⟩
    rw[loop_suc,ixStepQ,decide_eq_true (by omega),frk_t,lget_nat,List.getElem?_eq_getElem hkl,Option.bind_some,pl_eqQ,decide_eq_true he,frk_t]
   ·obtain⟨v,g1,g2⟩:=ih (k+1) m (by omega) (by omega)
    refine⟨v,?_,by rw[g2,List.mem_cons];exact⟨.inr,fun h=>h.resolve_left he⟩⟩
    rw[loop_suc,ixStepQ,decide_eq_true (by omega),frk_t,lget_nat,List.getElem?_eq_getElem hkl,Option.bind_some,pl_eqQ,decide_eq_false he,frk_f,w64_suc (by unfold big;omega)]
    exact g1
 obtain⟨v,h1,h2⟩:=key l.length 0 n (by omega) (by omega)
 rw[List.drop_zero] at h2
 unfold Dslices_Contains Dslices_Index
 rw[show (0:Int)=((0:Nat):Int) from rfl,h1,Option.bind_some]
 congr 1
 exact decide_eq_decide.2 h2
theorem aQ32{n:Nat}(h:n≤1000000):apB 32 n=true:=by
 unfold apB;simp only[Bool.and_eq_true,decide_eq_true_eq];omega
theorem rsStep(n:Nat)(l:List Pl)(p:Pl)(rec0:(Int×List Pl)→Option (List Pl))(k:Int)(a:List Pl) :
  Dspec_l13Rest_1 n l p.A p.B p.C p.D rec0 (k,a)=frk (decide (k<(l.length:Int))) ((lget l k).bind fun v0=>frk (!(v0.A==p.A&&(v0.B==p.B&&(v0.C==p.C&&(v0.D==p.D&&true))))) ((lget l k).bind fun v1=>(Dspec_l3Flip p).bind fun v2=>frk (!(v1.A==v2.A&&(v1.B==v2.B&&(v1.C==v2.C&&(v1.D==v2.D&&true))))) ((lget l k).bind fun v3=>chk (apB 32 (a.length+1)) (rec0 (w64 (k+1),(a++[v3])))) (rec0 (w64 (k+1),a))) (rec0 (w64 (k+1),a))) (some a):=rfl
theorem sRest{l:List Pl}(hb:l.length≤1000){P:Pl}(hP:PB P)(hg:gtr P=P)(hz:∀q∈l,Nz q)(n:Nat)(hn:2000≤n):Dspec_l13Rest n l P=some (l.filter fun q=>decide (gtr q≠P)):=by
 have key:∀(d k m:Nat) (a:List Pl),k+d=l.length→d<m→a.length≤k→loopN (Dspec_l13Rest_1 n l P.A P.B P.C P.D) m ((k:Int),a)=some (a++(l.drop k).filter fun q=>decide (gtr q≠P)):=by
  intro d
  induction d with
  | zero =>
   intro k m a hk hm _
   obtain⟨m,rfl⟩:∃j,m=j+1:=⟨m-1,by omega⟩
   rw[loop_suc,rsStep,decide_eq_false (by omega),frk_f,List.drop_eq_nil_of_le (by omega)];simp
  | succ d ih =>
   intro k m a hk hm ha
   obtain⟨m,rfl⟩:∃j,m=j+1:=⟨m-1,by omega⟩
   have hkl:k<l.length:=by omega
   have hge:=gtr_eq (hz _ (List.getElem_mem hkl)) hg
   rw[List.drop_eq_getElem_cons hkl,List.filter_cons,loop_suc,rsStep,decide_eq_true (by omega),frk_t,lget_nat,List.getElem?_eq_getElem hkl,Option.bind_some,pl_eqQ,Option.bind_some,sFlip P hP,Option.bind_some,pl_eqQ,Option.bind_some,w64_suc (by unfold big;omega)]
   by_cases h1:l[k]=P
   ·rw[decide_eq_true h1,Bool.not_true,frk_f,decide_eq_false (fun h=>h (hge.2 (.inl h1))),if_neg (by simp)]
    exact ih (k+1) m a (by omega) (by omega) (by omega)
   ·rw[decide_eq_false h1,Bool.not_false,frk_t]
    by_cases h2:l[k]=flp P
    ·rw[decide_eq_true h2,Bool.not_true,frk_f,decide_eq_false (fun h=>h (hge.2 (.inr h2))),if_neg (by simp)]
     exact ih (k+1) m a (by omega) (by omega) (by omega)
    ·rw[decide_eq_false h2,Bool.not_false,frk_t,chk_eq (aQ32 (by omega)),decide_eq_true (show gtr l[k]≠P from fun h=>(hge.1 h).elim h1 h2),if_pos rfl,ih (k+1) m _ (by omega) (by omega) (by simp;omega)]
     simp
 have:=key l.length 0 n [] (by omega) (by omega) (by simp)
 rw[List.drop_zero,List.nil_append] at this
 exact this
theorem LL_B{a b:List Pl}(ha:∀p∈a,PB p)(hb:∀p∈b,PB p)(P:Pl):∀q∈LL a b P,PB q:=fun q hq=>by
 unfold LL at hq
 rcases List.mem_append.1 (List.mem_filter.1 hq).1 with h | h
 ·exact ha q h
 ·exact hb q h
theorem LL_len(a b:List Pl)(P:Pl):(LL a b P).length≤a.length+b.length:=by
 unfold LL
 have:=List.length_filter_le (fun q=>decide (gtr q≠P)) (a++b)
 rwa [List.length_append] at this
theorem sMeet13{a b:List Pl}(ha:∀p∈a,PB p∧Nz p)(hb:∀p∈b,PB p∧Nz p)(la:a.length≤24)(lb:b.length≤24){P:Pl}(hP:PB P)(hg:gtr P=P):Ev fun n=>Dspec_l13Meet n a b P=some (meetB a b P):=by
 have hB:=LL_B (fun p h=>(ha p h).1) (fun p h=>(hb p h).1) P
 have hL:=LL_len a b P
 refine((sOpenQ (LL a b P) hB (by unfold big;omega)).and (e_ge 2000)).mono fun n ⟨hO,hn⟩=>?_
 have r1:=sRest (l:=a) (by omega) hP hg (fun q h=>(ha q h).2) n hn
 have r2:=sRest (l:=b) (by omega) hP hg (fun q h=>(hb q h).2) n hn
 have eL:(a.filter fun q=>decide (gtr q≠P))++(b.filter fun q=>decide (gtr q≠P))=LL a b P:=by unfold LL;rw[List.filter_append]
 have hlen:(a.filter fun q=>decide (gtr q≠P)).length+(b.filter fun q=>decide (gtr q≠P)).length≤48:=by rw[←List.length_append,eL];omega
 have w1:=sWith (LL a b P) P hB hP (by unfold big;omega) n (by omega)
 have w2:=sWith (LL a b P) (flp P) hB (flp_PB hP) (by unfold big;omega) n (by omega)
 have fin0:Dspec_l13Meet_0 n a b P.A P.B P.C P.D=some (fE (LL a b P) P):=by
  unfold Dspec_l13Meet_0
  show ((Dspec_l13Rest n a P).bind fun v3=>(Dspec_l13Rest n b P).bind fun v4=>chk (apB 32 (v3.length+v4.length)) ((Dspec_l6Open n (v3++v4)).bind fun v6=>frk v6 ((Dspec_l6With n (v3++v4) P).bind fun v7=>frk (!v7) ((Dspec_l3Flip P).bind fun v8=>(Dspec_l6With n (v3++v4) v8).bind fun v9=>some (!v9)) (some false)) (some false)))=_
  rw[r1,Option.bind_some,r2,Option.bind_some,chk_eq (aQ32 (by omega)),eL,hO,Option.bind_some,w1,Option.bind_some,sFlip P hP,Option.bind_some,w2,Option.bind_some]
  unfold fE
  cases opBQ (LL a b P) <;> cases wth (LL a b P) P <;> cases wth (LL a b P) (flp P) <;> rfl
 have fin1:∀t,Dspec_l13Meet_1 n a b t P.A P.B P.C P.D=some (!t&&fE (LL a b P) P):=fun t=>by
  cases t with
  | true=>rfl
  | false=>exact fin0
 unfold Dspec_l13Meet meetB
 rw[sAmong (by omega) P n hn,sFlip P hP,Option.bind_some,Option.bind_some,Option.bind_some,sAmong (by omega) (flp P) n hn,sAmong (l:=b) (by omega) P n hn,sAmong (l:=a) (by omega) (flp P) n hn,Option.bind_some,Option.bind_some,Option.bind_some,fin0,fin1]
 cases decide (P∈a) <;> cases decide (flp P∈b) <;> cases decide (P∈b) <;> cases decide (flp P∈a) <;> cases fE (LL a b P) P <;> rfl
end Evl.T
namespace Evl.T
open Go Evl
theorem wth_set{l l':List Pl}(ho:Opn l)(ho':Opn l')(hz:∀q∈l,Nz q)(hz':∀q∈l',Nz q){p:Pl}(hp:Nz p)(h:∀q,q∈l↔q∈l'):wth l p=wth l' p:=by
 rw[Bool.eq_iff_iff,wth_con ho hz hp,wth_con ho' hz' hp]
 have a:∀q,q∈p::l↔q∈p::l':=fun q=>by rw[List.mem_cons,List.mem_cons,h]
 exact⟨fun h1 h2=>h1 (h2.mono fun q hq=>(a q).1 hq),fun h1 h2=>h1 (h2.mono fun q hq=>(a q).2 hq)⟩
theorem wth_in{l:List Pl}(ho:Opn l)(hz:∀q∈l,Nz q){p:Pl}(hp:p∈l):wth l p=false:=by
 rw[Bool.eq_false_iff]
 intro h
 refine(wth_con ho hz (hz p hp)).1 h ((ho.con hz).mono fun q hq=>?_)
 rcases List.mem_cons.1 hq with rfl | hq
 ·exact hp
 ·exact hq
theorem cn1(n:Nat)(L:List (List Pl))(t26:Int)(rec1:(Int×List Pl)→Option (List Pl))(k:Int)(a:List Pl):Dslices_Concat_1 n L t26 rec1 (k,a)=frk (decide (k<t26)) ((lget L k).bind fun v2=>chk (apB 32 (a.length+v2.length)) (rec1 (w64 (k+1),(a++v2)))) (some a):=rfl
theorem cn2(n:Nat)(L t9:List (List Pl))(t10:Int)(rec0:(Int×Int)→Option (List Pl))(s k:Int):Dslices_Concat_2 n L t9 t10 rec0 (s,k)=frk (decide (k<t10)) ((lget t9 k).bind fun v0=>frk (decide ((w64 (s+(v0.length:Int)))<0)) (none) (rec0 (w64 (s+(v0.length:Int)),w64 (k+1)))) (Dslices_Concat_0 n L s):=rfl
theorem iConcat{a b:List Pl}(ha:a.length≤24)(hb:b.length≤24)(n:Nat)(hn:3≤n):Dslices_Concat n [a,b]=some (a++b):=by
 obtain⟨m,rfl⟩:∃m,n=m+1+1+1:=⟨n-3,by omega⟩
 have L1:loopN (Dslices_Concat_1 (m+1+1+1) [a,b] (([a,b]:List (List Pl)).length:Int)) (m+1+1+1) (0,([]:List Pl))=some (a++b):=by
  rw[loop_suc,cn1,show decide ((0:Int)<(([a,b]:List (List Pl)).length:Int))=true from rfl,frk_t,show lget [a,b] 0=some a from rfl,Option.bind_some,chk_eq (aQ32 (by simp;omega)),List.nil_append,show w64 (0+1)=1 from rfl,loop_suc,cn1,show decide ((1:Int)<(([a,b]:List (List Pl)).length:Int))=true from rfl,frk_t,show lget [a,b] 1=some b from rfl,Option.bind_some,chk_eq (aQ32 (by omega)),show w64 (1+1)=2 from rfl,loop_suc,cn1,show decide ((2:Int)<(([a,b]:List (List Pl)).length:Int))=false from rfl,frk_f]
 have w1:w64 (0+(a.length:Int))=(a.length:Int):=by rw[w64_id (by omega) (by omega)];omega
 have w2:w64 ((a.length:Int)+(b.length:Int))=(a.length:Int)+b.length:=w64_id (by omega) (by omega)
 have hg:grB ((a.length:Int)+b.length)=true:=by unfold grB;simp only[Bool.and_eq_true,decide_eq_true_eq];omega
 unfold Dslices_Concat
 rw[loop_suc,cn2,show decide ((0:Int)<(([a,b]:List (List Pl)).length:Int))=true from rfl,frk_t,show lget [a,b] 0=some a from rfl,Option.bind_some,w1,decide_eq_false (by omega),frk_f,show w64 (0+1)=1 from rfl,loop_suc,cn2,show decide ((1:Int)<(([a,b]:List (List Pl)).length:Int))=true from rfl,frk_t,show lget [a,b] 1=some b from rfl,Option.bind_some,w2,decide_eq_false (by omega),frk_f,show w64 (1+1)=2 from rfl,loop_suc,cn2,show decide ((2:Int)<(([a,b]:List (List Pl)).length:Int))=false from rfl,frk_f]
 unfold Dslices_Concat_0
 rw[chk_eq hg]
 exact L1
def FL (L:List Pl)(P:Pl)(k:Nat):List Pl:=(L.take k).filter fun q=>decide (gtr q≠P)
theorem FL_suc{L:List Pl}{P:Pl}{k:Nat}(hk:k<L.length):FL L P (k+1)=FL L P k++(if gtr L[k]=P then [] else [L[k]]):=by
 unfold FL
 rw[List.take_add_one,List.getElem?_eq_getElem hk,List.filter_append]
 congr 1
 show [L[k]].filter _=_
 rw[List.filter_cons]
 by_cases h:gtr L[k]=P
 ·rw[if_neg (by simpa using h),if_pos h];rfl
 ·rw[if_pos (by simpa using h),if_neg h];rfl
theorem FL_pre(L:List Pl)(P:Pl)(k:Nat):FL L P k=(FL L P L.length).take (FL L P k).length:=by
 have:FL L P L.length=FL L P k++(L.drop k).filter fun q=>decide (gtr q≠P):=by
  unfold FL;rw[←List.filter_append,List.take_length,List.take_append_drop]
 rw[this,List.take_left]
theorem acStep(n:Nat)(len:Int)(P:Pl)(rec0:(Int×List Pl×List Pl)→Option Bool)(k:Int)(L both:List Pl) :
  Dimpl_across_2 n len P.A P.B P.C P.D rec0 (k,L,both)=frk (decide (k<len)) ((lget L k).bind fun v1=>(Dimpl_greater n v1).bind fun v2=>frk (v2.A==P.A&&(v2.B==P.B&&(v2.C==P.C&&(v2.D==P.D&&true)))) (rec0 (w64 (k+1),L,both)) ((Dslices_Contains n both v1).bind fun v3=>frk v3 (rec0 (w64 (k+1),L,both)) ((Dimpl_room n both v1).bind fun v4=>frk (!v4) (some false) (chk (apB 32 (both.length+1)) (rec0 (w64 (k+1),L,(both++[v1]))))))) ((Dimpl_room n both P).bind fun v6=>frk v6 ((Dimpl_flip P).bind fun v7=>(Dimpl_room n both v7).bind fun v8=>some v8) (some false)):=rfl
theorem acLoop{L:List Pl}(hL:∀q∈L,PB q∧Nz q)(hb:L.length≤48){P:Pl}(hP:PB P)(hzP:Nz P)(n:Nat)(hn:2000≤n):∀(d k m:Nat) (both:List Pl),k+d=L.length→d<m→(∀q,q∈both↔q∈FL L P k)→Opn both→Opn (FL L P k)→both.length≤k →
  loopN (Dimpl_across_2 n (L.length:Int) P.A P.B P.C P.D) m ((k:Int),L,both)=some (fE (FL L P L.length) P):=by
 have hF:∀k,∀q∈FL L P k,q∈L:=fun k q hq=>List.mem_of_mem_take (List.mem_filter.1 hq).1
 intro d
 induction d with
 | zero =>
  intro k m both hk hm hs ho hf hbl
  obtain⟨m,rfl⟩:∃j,m=j+1:=⟨m-1,by omega⟩
  obtain rfl:k=L.length:=by omega
  have hB:∀q∈both,PB q∧Nz q:=fun q hq=>hL q (hF _ q ((hs q).1 hq))
  rw[loop_suc,acStep,decide_eq_false (by omega),frk_f,iRoom both P (fun q hq=>(hB q hq).1) hP (by unfold big;omega) n (by omega),Option.bind_some,iFlip P hP,Option.bind_some,iRoom both (flp P) (fun q hq=>(hB q hq).1) (flp_PB hP) (by unfold big;omega) n (by omega),Option.bind_some]
  rw[wth_set ho hf (fun q hq=>(hB q hq).2) (fun q hq=>(hL q (hF _ q hq)).2) hzP hs,wth_set ho hf (fun q hq=>(hB q hq).2) (fun q hq=>(hL q (hF _ q hq)).2) (Nz_flpQ hzP) hs]
  unfold fE
  rw[opB_ofQ hf]
  cases wth (FL L P L.length) P <;> cases wth (FL L P L.length) (flp P) <;> rfl
 | succ d ih =>
  intro k m both hk hm hs ho hf hbl
  obtain⟨m,rfl⟩:∃j,m=j+1:=⟨m-1,by omega⟩
  have hkl:k<L.length:=by omega
  have hq:=hL _ (List.getElem_mem hkl)
  have hB:∀q∈both,PB q∧Nz q:=fun q hq=>hL q (hF _ q ((hs q).1 hq))
  have hS:=FL_suc (P:=P) hkl
  rw[loop_suc,acStep,decide_eq_true (by omega),frk_t,lget_nat,List.getElem?_eq_getElem hkl,Option.bind_some,iGreaterN hq.1 n (by omega),Option.bind_some,pl_eqQ,w64_suc (by unfold big;omega)]
  by_cases hg:gtr L[k]=P
  ·rw[if_pos hg,List.append_nil] at hS
   rw[decide_eq_true hg,frk_t]
   exact ih (k+1) m both (by omega) (by omega) (by rw[hS];exact hs) ho (by rw[hS];exact hf) (by omega)
  ·rw[if_neg hg] at hS
   rw[decide_eq_false hg,frk_f,iHasQ (by omega) L[k] n hn,Option.bind_some]
   by_cases hin:L[k]∈both
   ·rw[decide_eq_true hin,frk_t]
    have hin':=(hs _).1 hin
    refine ih (k+1) m both (by omega) (by omega) (fun q=>?_) ho ?_ (by omega)
    ·rw[hS,List.mem_append,List.mem_singleton,hs]
     exact⟨.inl,fun h=>h.elim id fun e=>e ▸ hin'⟩
    ·rw[hS];exact .snoc hf (wth_in hf (fun q hq=>(hL q (hF _ q hq)).2) hin')
   ·rw[decide_eq_false hin,frk_f,iRoom both L[k] (fun q hq=>(hB q hq).1) hq.1 (by unfold big;omega) n (by omega),Option.bind_some,Bool.not_not]
    have hw:=wth_set ho hf (fun q hq=>(hB q hq).2) (fun q hq=>(hL q (hF _ q hq)).2) hq.2 hs
    cases hwt:wth both L[k] with
    | true =>
     rw[frk_t]
     congr 1
     unfold fE
     have:opBQ (FL L P L.length)=false:=by
      rw[Bool.eq_false_iff]
      intro h
      have:=(opn_ofQ h).pre (FL L P (k+1)).length
      rw[←FL_pre,hS] at this
      have h2:=this.last1.2
      rw[←hw,hwt] at h2;cases h2
     rw[this];rfl
    | false =>
     rw[frk_f,chk_eq (aQ32 (by omega))]
     refine ih (k+1) m _ (by omega) (by omega) (fun q=>?_) (.snoc ho hwt) ?_ (by simp;omega)
     ·rw[hS,List.mem_append,List.mem_append,hs]
     ·rw[hS];exact .snoc hf (by rw[←hw];exact hwt)
theorem iAcross{a b:List Pl}(ha:∀p∈a,PB p∧Nz p)(hb:∀p∈b,PB p∧Nz p)(la:a.length≤24)(lb:b.length≤24){P:Pl}(hP:PB P)(hzP:Nz P)(n:Nat)(hn:2000≤n):Dimpl_across n a b P=some (fE (LL a b P) P):=by
 have h:=acLoop (L:=a++b) (fun q hq=>(List.mem_append.1 hq).elim (ha q) (hb q)) (by rw[List.length_append];omega) hP hzP n hn (a++b).length 0 n [] (by omega) (by rw[List.length_append];omega) (fun q=>by unfold FL;simp) .nil (by unfold FL;simpa using Opn.nil) (by simp)
 unfold Dimpl_across
 rw[iConcat la lb n (by omega),Option.bind_some,show (0:Int)=((0:Nat):Int) from rfl,h]
 unfold FL LL
 rw[List.take_length]
theorem tchStep(n:Nat)(a b t7:List Pl)(len:Int)(rec0:Int→Option Bool)(k:Int) :
  Dimpl_touch_1 n a b t7 len rec0 k=frk (decide (k<len)) ((lget t7 k).bind fun v0=>(Dimpl_flip v0).bind fun v1=>(Dslices_Contains n b v1).bind fun v2=>frk v2 ((Dimpl_greater n v0).bind fun v3=>(Dimpl_across n a b v3).bind fun v4=>frk v4 (some true) (rec0 (w64 (k+1)))) (rec0 (w64 (k+1)))) (some false):=rfl
theorem iTouch{a b:List Pl}(ha:∀p∈a,PB p∧Nz p)(hb:∀p∈b,PB p∧Nz p)(la:a.length≤24)(lb:b.length≤24)(n:Nat)(hn:2000≤n):Dimpl_touch n a b=some (touchB a b):=by
 have h:=search (F:=Dimpl_touch_1 n a b a (a.length:Int)) (len:=a.length) (b:=fun k=>decide (flp (gt a k)∈b)&&fE (LL a b (gtr (gt a k))) (gtr (gt a k))) (hit:=some true) (miss:=some false) (by unfold big;omega) (fun rec k hk=>by
  have hq:=ha _ (gt_mem hk)
  have hgz:PB (gtr (gt a k))∧Nz (gtr (gt a k)):=by
   rcases gtr_or (gt a k) with e | e <;> rw[e]
   ·exact hq
   ·exact⟨flp_PB hq.1,Nz_flpQ hq.2⟩
  rw[tchStep,lt_dec hk,frk_t,lget_nat,gt_some hk,Option.bind_some,iFlip _ hq.1,Option.bind_some,iHasQ (by omega) _ n hn,Option.bind_some,iGreaterN hq.1 n (by omega),Option.bind_some,iAcross ha hb la lb hgz.1 hgz.2 n hn,Option.bind_some]
  cases decide (flp (gt a k)∈b) <;> cases fE (LL a b (gtr (gt a k))) (gtr (gt a k)) <;> rfl) (fun rec=>by rw[tchStep,lt_self,frk_f]) a.length 0 n (by omega) (by omega)
 refine h.trans ?_
 unfold touchB
 rw[any_gtQ a fun q=>decide (flp q∈b)&&fE (LL a b (gtr q)) (gtr q)]
 cases a.any fun q=>decide (flp q∈b)&&fE (LL a b (gtr q)) (gtr q) <;> rfl
end Evl.T
namespace Evl.T
open Go Evl
theorem sCmpP(n:Nat)(a b:Pl):Dspec_CmpPlane n a b=some (cmpP a b):=by
 have ci:∀x y:Int,Dspec_l3CmpInt x y=some (cmpI x y):=fun x y=>by
  unfold Dspec_l3CmpInt cmpI
  by_cases h1:x<y
  ·rw[decide_eq_true h1,frk_t,if_pos h1]
  ·rw[decide_eq_false h1,frk_f,if_neg h1]
   by_cases h2:x>y
   ·rw[decide_eq_true h2,frk_t,if_pos h2]
   ·rw[decide_eq_false h2,frk_f,if_neg h2]
 have ne:∀{x y:Int},x≠y→cmpI x y≠0:=fun h e=>h ((cmpI_eq _ _).1 e)
 have eq:∀{x y:Int},x=y→cmpI x y=0:=fun h=>(cmpI_eq _ _).2 h
 unfold Dspec_CmpPlane cmpP or4
 rw[ci,ci,ci,ci]
 by_cases h1:a.A=b.A
 ·rw[show (a.A != b.A)=false by simpa using h1,frk_f,if_neg (fun h=>h (eq h1))]
  by_cases h2:a.B=b.B
  ·rw[show (a.B != b.B)=false by simpa using h2,frk_f,if_neg (fun h=>h (eq h2))]
   by_cases h3:a.C=b.C
   ·rw[show (a.C != b.C)=false by simpa using h3,frk_f,if_neg (fun h=>h (eq h3))]
    by_cases h4:a.D=b.D
    ·rw[show (a.D != b.D)=false by simpa using h4,frk_f,eq h4]
    ·rw[show (a.D != b.D)=true by simpa using h4,frk_t];rfl
   ·rw[show (a.C != b.C)=true by simpa using h3,frk_t,if_pos (ne h3)];rfl
  ·rw[show (a.B != b.B)=true by simpa using h2,frk_t,if_pos (ne h2)];rfl
 ·rw[show (a.A != b.A)=true by simpa using h1,frk_t,if_pos (ne h1)];rfl
theorem cmp_ng(p:Pl):cmpP p (flp p)<0↔ngp p:=by
 unfold cmpP
 rw[or4_lt,cmpI_lt,cmpI_lt,cmpI_lt,cmpI_lt,cmpI_eq,cmpI_eq,cmpI_eq]
 unfold ngp flp;simp only;omega
inductive Gn:Sol→Pl→Prop
 | here {i p a b}:Gn (.mk i p [a,b]) (gtr p)
 | left {i p a b x}:Gn a x→Gn (.mk i p [a,b]) x
 | right {i p a b x}:Gn b x→Gn (.mk i p [a,b]) x
def insP (l:List Pl)(p:Pl):Nat→List Pl
 | 0=>(l.take 0++[p])++l.drop 0
 | k+1=>if cmpP (gt l k) p>0 then insP l p k else if gt l k=p then l else (l.take (k+1)++[p])++l.drop (k+1)
theorem insP_mem{l:List Pl}{p:Pl}:∀k,k≤l.length→(∀x,x∈insP l p k↔x∈l∨x=p)∧(insP l p k).length≤l.length+1:=by
 have hat:∀k,k≤l.length→(∀x,x∈(l.take k++[p])++l.drop k↔x∈l∨x=p)∧((l.take k++[p])++l.drop k).length≤l.length+1:=fun k hk=>by
  refine⟨fun x=>?_,by simp only[List.length_append,List.length_take,List.length_drop,List.length_singleton];omega⟩
  rw[List.mem_append,List.mem_append,List.mem_singleton]
  have:x∈l↔x∈l.take k∨x∈l.drop k:=by rw[←List.mem_append,List.take_append_drop]
  rw[this]
  exact⟨fun h=>by rcases h with (h | h) | h;exact .inl (.inl h);exact .inr h;exact .inl (.inr h),fun h=>by rcases h with (h | h) | h;exact .inl (.inl h);exact .inr h;exact .inl (.inr h)⟩
 intro k
 induction k with
 | zero=>intro hk;exact hat 0 hk
 | succ k ih =>
  intro hk
  unfold insP
  by_cases hc:cmpP (gt l k) p>0
  ·rw[if_pos hc];exact ih (by omega)
  ·rw[if_neg hc]
   by_cases he:gt l k=p
   ·rw[if_pos he]
    exact⟨fun x=>⟨.inl,fun h=>h.elim id fun e=>by rw[e,←he];exact gt_mem (by omega)⟩,Nat.le_succ _⟩
   ·rw[if_neg he];exact hat (k+1) hk
def cont (self:(Sol×List Pl)→Option (List Pl))(kids:List Sol)(l:List Pl):Option (List Pl) :=
 (lget kids 1).bind fun v1=>(lget kids 0).bind fun v0=>(self (v0,l)).bind fun v3=>(self (v1,v3)).bind fun v4=>some v4
theorem lsl_dropQ(l:List Pl)(k:Nat)(h:k≤l.length):lsl l (k:Int) (l.length:Int)=some (l.drop k):=by
 unfold lsl
 rw[if_pos ⟨by omega,by omega,by omega⟩]
 congr 1
 rw[Int.toNat_natCast,Int.toNat_natCast,List.take_of_length_le (by rw[List.length_drop];omega)]
theorem pl7Step(n:Nat)(self:(Sol×List Pl)→Option (List Pl))(s:Sol)(p:Pl)(rec0:(Int×List Pl)→Option (List Pl))(k:Int)(l:List Pl) :
  Dspec_l8Planeso1_7 n self s.inn s.pl.A s.pl.B s.pl.C s.pl.D s.kids p.A p.B p.C p.D rec0 (k,l)=frk (decide (k>0)) ((lget l (w64 (k-1))).bind fun v4=>(Dspec_CmpPlane n v4 p).bind fun v5=>frk (decide (v5>0)) (rec0 (w64 (k-1),l)) (Dspec_l8Planeso1_2 n self k s.inn s.pl.A s.pl.B s.pl.C s.pl.D s.kids p.A p.B p.C p.D l)) (Dspec_l8Planeso1_2 n self k s.inn s.pl.A s.pl.B s.pl.C s.pl.D s.kids p.A p.B p.C p.D l):=rfl
theorem pl2(n:Nat)(self:(Sol×List Pl)→Option (List Pl))(s:Sol)(p:Pl)(k:Nat)(l:List Pl)(hk:k≤l.length)(hl:l.length≤100000) :
  Dspec_l8Planeso1_2 n self (k:Int) s.inn s.pl.A s.pl.B s.pl.C s.pl.D s.kids p.A p.B p.C p.D l=cont self s.kids (if k≠0∧gt l (k-1)=p then l else (l.take k++[p])++l.drop k):=by
 have c1:apB 32 (0+(l.take k).length)=true:=aQ32 (by rw[List.length_take];omega)
 have c2:apB 32 (([]++l.take k).length+1)=true:=aQ32 (by rw[List.nil_append,List.length_take];omega)
 have c3:apB 32 ((([]++l.take k)++[Pl.mk p.A p.B p.C p.D]).length+(l.drop k).length)=true:=aQ32 (by simp only[List.nil_append,List.length_append,List.length_take,List.length_drop,List.length_singleton];omega)
 unfold Dspec_l8Planeso1_2
 cases k with
 | zero =>
  rw[show (((0:Nat):Int)==0)=true from rfl,frk_t,if_neg (fun h=>h.1 rfl)]
  unfold Dspec_l8Planeso1_3
  rw[lsl_take l 0 (by omega),Option.bind_some,chk_eq c1,chk_eq c2,lsl_dropQ l 0 (by omega),Option.bind_some,chk_eq c3,List.nil_append]
  rfl
 | succ k =>
  have hw:w64 (((k+1:Nat):Int)-1)=(k:Int):=by rw[w64_id (by omega) (by omega)];omega
  rw[show (((k+1:Nat):Int)==0)=false by rw[beq_eq_false_iff_ne];omega,frk_f,hw,lget_nat,gt_some (by omega),Option.bind_some,pl_eqQ]
  unfold Dspec_l8Planeso1_4 Dspec_l8Planeso1_5 Dspec_l8Planeso1_6
  by_cases he:gt l k=p
  ·rw[decide_eq_true he,Bool.not_true,frk_f,if_pos ⟨by omega,he⟩];rfl
  ·rw[decide_eq_false he,Bool.not_false,frk_t,if_neg (fun h=>he h.2),lsl_take l (k+1) hk,Option.bind_some,chk_eq c1,chk_eq c2,lsl_dropQ l (k+1) hk,Option.bind_some,chk_eq c3,List.nil_append];rfl
theorem pl7(n:Nat)(self:(Sol×List Pl)→Option (List Pl))(s:Sol)(p:Pl)(l:List Pl)(hl:l.length≤100000):∀(k m:Nat),k≤l.length→k<m →
  loopN (Dspec_l8Planeso1_7 n self s.inn s.pl.A s.pl.B s.pl.C s.pl.D s.kids p.A p.B p.C p.D) m ((k:Int),l)=cont self s.kids (insP l p k):=by
 intro k
 induction k with
 | zero =>
  intro m hk hm
  obtain⟨m,rfl⟩:∃j,m=j+1:=⟨m-1,by omega⟩
  rw[loop_suc,pl7Step,decide_eq_false (by omega),frk_f,pl2 n self s p 0 l hk hl,if_neg (fun h=>h.1 rfl)];rfl
 | succ k ih =>
  intro m hk hm
  obtain⟨m,rfl⟩:∃j,m=j+1:=⟨m-1,by omega⟩
  have hw:w64 (((k+1:Nat):Int)-1)=(k:Int):=by rw[w64_id (by omega) (by omega)];omega
  rw[loop_suc,pl7Step,decide_eq_true (by omega),frk_t,hw,lget_nat,gt_some (by omega),Option.bind_some,sCmpP,Option.bind_some,show insP l p (k+1)=(if cmpP (gt l k) p>0 then insP l p k else if gt l k=p then l else (l.take (k+1)++[p])++l.drop (k+1)) from rfl]
  by_cases hc:cmpP (gt l k) p>0
  ·rw[decide_eq_true hc,frk_t,if_pos hc];exact ih m (by omega) (by omega)
  ·rw[decide_eq_false hc,frk_f,if_neg hc,pl2 n self s p (k+1) l hk hl]
   by_cases he:gt l k=p
   ·rw[if_pos ⟨by omega,he⟩,if_pos he]
   ·rw[if_neg (fun h=>he h.2),if_neg he]
theorem plbStep(n:Nat)(self:(Sol×List Pl)→Option (List Pl))(s:Sol)(l:List Pl):Dspec_l8Planeso1_b n self (s,l)=(Dspec_l8Leaf s).bind fun v0=>frk v0 (some l) ((Dspec_l3Flip s.pl).bind fun v1=>(Dspec_CmpPlane n s.pl v1).bind fun v2=>frk (decide (v2<0)) ((Dspec_l3Flip s.pl).bind fun v3=>loopN (Dspec_l8Planeso1_7 n self s.inn s.pl.A s.pl.B s.pl.C s.pl.D s.kids v3.A v3.B v3.C v3.D) n ((l.length:Int),l)) (loopN (Dspec_l8Planeso1_7 n self s.inn s.pl.A s.pl.B s.pl.C s.pl.D s.kids s.pl.A s.pl.B s.pl.C s.pl.D) n ((l.length:Int),l))):=rfl
theorem sPls{s:Sol}{path:List Pl}(h:Rt s path):∀out:List Pl,out.length+nod s≤10000→∃out',(∀x,x∈out'↔x∈out∨Gn s x)∧out'.length≤out.length+nod s∧E2 fun n m=>loopN (Dspec_l8Planeso1_b n) m (s,out)=some out':=by
 induction h with
 | @leaf i p path _ =>
  intro out _
  refine⟨out,fun x=>⟨.inl,fun h=>h.elim id fun h=>by cases h⟩,by rw[nod_leaf];omega,E2.suc (E2.of fun n m=>?_)⟩
  rw[loop_suc,plbStep];rfl
 | @node p a b path hp _ _ _ _ _ iha ihb =>
  intro out hl
  rw[nod2] at hl
  obtain⟨m1,l1⟩:=insP_mem (l:=out) (p:=gtr p) out.length (Nat.le_refl _)
  obtain⟨o2,m2,l2,e2⟩:=iha (insP out (gtr p) out.length) (by omega)
  obtain⟨o3,m3,l3,e3⟩:=ihb o2 (by omega)
  refine⟨o3,fun x=>?_,by rw[nod2];omega,E2.suc (((e2.and e3).and (e_ge 10001).e2).mono fun n m ⟨⟨g2,g3⟩,hn⟩=>?_)⟩
  ·rw[m3,m2,m1]
   constructor
   ·rintro(((h | rfl) | h) | h)
    ·exact .inl h
    ·exact .inr .here
    ·exact .inr (.left h)
    ·exact .inr (.right h)
   ·rintro(h | h)
    ·exact .inl (.inl (.inl h))
    ·cases h with
     | here=>exact .inl (.inl (.inr rfl))
     | left h=>exact .inl (.inr h)
     | right h=>exact .inr h
  ·have hc:cont (loopN (Dspec_l8Planeso1_b n) m) [a,b] (insP out (gtr p) out.length)=some o3:=by
    show ((some b).bind fun v1=>(some a).bind fun v0=>(loopN (Dspec_l8Planeso1_b n) m (v0,insP out (gtr p) out.length)).bind fun v3=>(loopN (Dspec_l8Planeso1_b n) m (v1,v3)).bind fun v4=>some v4)=_
    rw[Option.bind_some,Option.bind_some,g2,Option.bind_some,g3];rfl
   rw[loop_suc,plbStep]
   show frk false _ ((Dspec_l3Flip p).bind fun v1=>(Dspec_CmpPlane n p v1).bind fun v2=>frk (decide (v2<0)) ((Dspec_l3Flip p).bind fun v3=>loopN (Dspec_l8Planeso1_7 n (loopN (Dspec_l8Planeso1_b n) m) false p.A p.B p.C p.D [a,b] v3.A v3.B v3.C v3.D) n ((out.length:Int),out)) (loopN (Dspec_l8Planeso1_7 n (loopN (Dspec_l8Planeso1_b n) m) false p.A p.B p.C p.D [a,b] p.A p.B p.C p.D) n ((out.length:Int),out)))=_
   rw[frk_f,sFlip p (pOk_PB hp),Option.bind_some,sCmpP,Option.bind_some,Option.bind_some]
   by_cases hg:ngp p
   ·rw[decide_eq_true ((cmp_ng p).2 hg),frk_t]
    refine(pl7 n (loopN (Dspec_l8Planeso1_b n) m) (.mk false p [a,b]) (flp p) out (by omega) out.length n (Nat.le_refl _) (by omega)).trans ?_
    rw[←gtr_neg hg];exact hc
   ·rw[decide_eq_false (fun h=>hg ((cmp_ng p).1 h)),frk_f]
    refine(pl7 n (loopN (Dspec_l8Planeso1_b n) m) (.mk false p [a,b]) p out (by omega) out.length n (Nat.le_refl _) (by omega)).trans ?_
    rw[gtr_pos hg] at hc;exact hc
theorem Gn.of{s:Sol}{path:List Pl}(h:Rt s path){x:Pl}(hx:Gn s x):∃p,pOk p=true∧x=gtr p:=by
 induction h with
 | leaf _=>cases hx
 | node hp _ _ _ _ _ iha ihb =>
  cases hx with
  | here=>exact⟨_,hp,rfl⟩
  | left h=>exact iha h
  | right h=>exact ihb h
end Evl.T
namespace Evl.T
open Go Evl
def gi (g:List Int)(i:Nat):Int:=(g[i]?).getD 0
theorem gi_some{g:List Int}{i:Nat}(h:i<g.length):g[i]?=some (gi g i):=by unfold gi;rw[List.getElem?_eq_getElem h];rfl
theorem gi_mem{g:List Int}{i:Nat}(h:i<g.length):gi g i∈g:=by unfold gi;rw[List.getElem?_eq_getElem h];exact List.getElem_mem h
def sw (x y v:Int):Int:=if v=x then y else v
def rpl (g:List Int)(x y:Int):List Int:=g.map (sw x y)
def stp (T:Nat→Nat→Bool)(i:Nat)(g:List Int)(j:Nat):List Int:=if gi g i≠gi g j∧T i j=true then rpl g (gi g i) (gi g j) else g
structure Grp(N:Nat)(g:List Int):Prop where
 len:g.length=N
 val:∀v∈g,∃a:Nat,a<N∧v=a
def nd (N:Nat)(g:List Int):Nat:=((List.range N).filter fun v:Nat=>decide ((v:Int)∈g)).length
theorem filt_len{P Q:Nat→Bool}:∀N,(∀v,v<N→P v=Q v)→((List.range N).filter P).length=((List.range N).filter Q).length:=fun N h=>by
 rw[List.filter_congr fun v hv=>h v (List.mem_range.1 hv)]
theorem filt1{P:Nat→Bool}{a:Nat}(hP:P a=true):∀N,((List.range N).filter fun v=>P v&&decide (v≠a)).length+(if a<N then 1 else 0)=((List.range N).filter P).length
 | 0=>by simp
 | N+1=>by
  have ih:=filt1 hP N
  rw[List.range_succ,List.filter_append,List.filter_append,List.length_append,List.length_append,←ih]
  by_cases h:N=a
  ·subst h
   rw[show ([N].filter fun v=>P v&&decide (v≠N))=[] by simp,show [N].filter P=[N] by simp[hP],if_pos (show N<N+1 by omega),if_neg (show ¬N<N by omega)];simp
  ·have:([N].filter fun v=>P v&&decide (v≠a))=[N].filter P:=List.filter_congr fun v hv=>by
    rw[List.mem_singleton.1 hv,decide_eq_true h,Bool.and_true]
   rw[this]
   by_cases h2:a<N
   ·rw[if_pos h2,if_pos (show a<N+1 by omega)];omega
   ·rw[if_neg h2,if_neg (show ¬a<N+1 by omega)];omega
theorem mem_rpl{g:List Int}{x y:Int}(hxy:x≠y)(hy:y∈g)(v:Int):v∈rpl g x y↔v∈g∧v≠x:=by
 unfold rpl
 rw[List.mem_map]
 constructor
 ·rintro⟨u,hu,rfl⟩
  unfold sw
  by_cases h:u=x
  ·rw[if_pos h];exact⟨hy,fun e=>hxy e.symm⟩
  ·rw[if_neg h];exact⟨hu,h⟩
 ·rintro⟨h1,h2⟩
  exact⟨v,h1,by unfold sw;rw[if_neg h2]⟩
theorem rpl_grp{N:Nat}{g:List Int}(h:Grp N g){x y:Int}(hy:y∈g):Grp N (rpl g x y):=⟨by unfold rpl;rw[List.length_map];exact h.len,fun v hv=>by
 unfold rpl at hv
 obtain⟨u,hu,rfl⟩:=List.mem_map.1 hv
 unfold sw
 split
 ·exact h.val y hy
 ·exact h.val u hu⟩
theorem nd_rpl{N:Nat}{g:List Int}(h:Grp N g){x y:Int}(hxy:x≠y)(hx:x∈g)(hy:y∈g):nd N (rpl g x y)+1=nd N g:=by
 obtain⟨a,ha,rfl⟩:=h.val x hx
 have:=filt1 (P:=fun v:Nat=>decide ((v:Int)∈g)) (a:=a) (decide_eq_true hx) N
 rw[if_pos ha] at this
 unfold nd
 rw[←this]
 congr 1
 refine filt_len N fun v _=>?_
 rw[Bool.eq_iff_iff,Bool.and_eq_true,decide_eq_true_iff,decide_eq_true_iff,decide_eq_true_iff,mem_rpl hxy hy]
 constructor
 ·rintro⟨h1,h2⟩;exact⟨h1,fun e=>h2 (by rw[e])⟩
 ·rintro⟨h1,h2⟩;exact⟨h1,fun e=>h2 (by omega)⟩
theorem stp_grp{N:Nat}{T:Nat→Nat→Bool}{g:List Int}(h:Grp N g){i j:Nat}(hj:j<N):Grp N (stp T i g j):=by
 unfold stp
 split
 ·exact rpl_grp h (gi_mem (by rw[h.len];exact hj))
 ·exact h
theorem fold_grp{N:Nat}{T:Nat→Nat→Bool}{i:Nat}(hi:i≤N):∀(d j:Nat) (g:List Int),j+d≤i→Grp N g→Grp N ((List.range' j d).foldl (stp T i) g)
 | 0,_,_,_,h=>h
 | d+1,j,g,hj,h=>by
  rw[List.range'_succ,List.foldl_cons]
  exact fold_grp hi d (j+1) _ (by omega) (stp_grp h (by omega))
def inG (T:Nat→Nat→Bool)(g:List Int)(i:Nat):List Int:=(List.range' 0 i).foldl (stp T i) g
theorem nd_snoc{N:Nat}(L:List Int){a:Nat}(ha:a<N):nd N (L++[(a:Int)])=nd N L+(if (a:Int)∈L then 0 else 1):=by
 by_cases h:(a:Int)∈L
 ·rw[if_pos h]
  unfold nd
  exact filt_len N fun v _=>by
   rw[Bool.eq_iff_iff,decide_eq_true_iff,decide_eq_true_iff,List.mem_append,List.mem_singleton]
   exact⟨fun h'=>h'.elim id fun e=>by rw[e];exact h,.inl⟩
 ·rw[if_neg h]
  have:=filt1 (P:=fun v:Nat=>decide ((v:Int)∈L++[(a:Int)])) (a:=a) (decide_eq_true (by simp)) N
  rw[if_pos ha] at this
  unfold nd
  rw[←this]
  congr 1
  refine filt_len N fun v _=>?_
  rw[Bool.eq_iff_iff,Bool.and_eq_true,decide_eq_true_iff,decide_eq_true_iff,decide_eq_true_iff,List.mem_append,List.mem_singleton]
  constructor
  ·rintro⟨h1 | h1,h2⟩
   ·exact h1
   ·exact absurd (by omega) h2
  ·intro h1;exact⟨.inl h1,fun e=>h (by rw[←e];exact h1)⟩
theorem nd_nil(N:Nat):nd N []=0:=by unfold nd;simp
def g0 (N:Nat):List Int:=(List.range N).map fun v:Nat=>(v:Int)
theorem g0_grp(N:Nat):Grp N (g0 N):=⟨by unfold g0;simp,fun v hv=>by
 unfold g0 at hv
 obtain⟨a,ha,rfl⟩:=List.mem_map.1 hv
 exact⟨a,List.mem_range.1 ha,rfl⟩⟩
theorem nd_g0(N:Nat):nd N (g0 N)=N:=by
 unfold nd
 have:((List.range N).filter fun v:Nat=>decide ((v:Int)∈g0 N))=List.range N:=List.filter_eq_self.2 fun v hv=>by
  rw[decide_eq_true_iff];unfold g0;exact List.mem_map.2 ⟨v,hv,rfl⟩
 rw[this,List.length_range]
theorem nd_le(N:Nat)(g:List Int):nd N g≤N:=by
 unfold nd
 have:=List.length_filter_le (fun v:Nat=>decide ((v:Int)∈g)) (List.range N)
 rwa [List.length_range] at this
def hlf (g:List Int)(x y:Int)(k:Nat):List Int:=(g.take k).map (sw x y)++g.drop k
theorem hlf_len(g:List Int)(x y:Int)(k:Nat):(hlf g x y k).length=g.length:=by unfold hlf;rw[List.length_append,List.length_map,List.length_take,List.length_drop];omega
theorem hlf_zero(g:List Int)(x y:Int):hlf g x y 0=g:=by unfold hlf;simp
theorem hlf_all(g:List Int)(x y:Int):hlf g x y g.length=rpl g x y:=by unfold hlf rpl;simp
theorem hlf_at{g:List Int}{x y:Int}{k:Nat}(hk:k<g.length):(hlf g x y k)[k]?=some (gi g k):=by
 unfold hlf
 rw[List.getElem?_append_right (by rw[List.length_map,List.length_take];omega),List.length_map,List.length_take,show k-min k g.length=0 by omega,List.getElem?_drop]
 exact gi_some hk
theorem hlf_keep{g:List Int}{x y:Int}{k:Nat}(hk:k<g.length)(h:gi g k≠x):hlf g x y (k+1)=hlf g x y k:=by
 unfold hlf
 have e:=List.getElem?_eq_getElem hk
 have ev:g[k]=gi g k:=by unfold gi;rw[e];rfl
 rw[List.take_add_one,e,List.map_append,List.append_assoc,List.drop_eq_getElem_cons hk]
 show _++([sw x y g[k]]++_)=_
 rw[show sw x y g[k]=g[k] by unfold sw;rw[ev,if_neg h]];rfl
theorem hlf_set{g:List Int}{x y:Int}{k:Nat}(hk:k<g.length)(h:gi g k=x):(hlf g x y k).set k y=hlf g x y (k+1):=by
 unfold hlf
 have e:=List.getElem?_eq_getElem hk
 have ev:g[k]=gi g k:=by unfold gi;rw[e];rfl
 rw[List.take_add_one,e,List.map_append,List.append_assoc,List.drop_eq_getElem_cons hk,List.set_append_right _ _ (by rw[List.length_map,List.length_take];omega),List.length_map,List.length_take,show k-min k g.length=0 by omega]
 show _++(y::_)=_++([sw x y g[k]]++_)
 rw[show sw x y g[k]=y by unfold sw;rw[ev,if_pos h]];rfl
theorem hlf_y{g:List Int}{x y:Int}{k j:Nat}(hj:j<g.length)(hy:gi g j=y)(hxy:x≠y):(hlf g x y k)[j]?=some y:=by
 have e:=List.getElem?_eq_getElem hj
 have ev:g[j]=y:=by rw[←hy];unfold gi;rw[e];rfl
 unfold hlf
 by_cases h:j<(g.take k).length
 ·rw[List.getElem?_append_left (by rw[List.length_map];exact h),List.getElem?_map]
  rw[List.length_take] at h
  rw[List.getElem?_take_of_lt (by omega),e,ev]
  show some (sw x y y)=_
  unfold sw;rw[if_neg (fun e=>hxy e.symm)]
 ·rw[List.getElem?_append_right (by rw[List.length_map];omega),List.length_map]
  rw[List.length_take] at h ⊢
  rw[List.getElem?_drop,show k+(j-min k g.length)=j by omega,e,ev]
end Evl.T
namespace Evl.T
open Go Evl
def cl (L:List (List Pl))(i:Nat):List Pl:=(L[i]?).getD []
theorem cl_some{L:List (List Pl)}{i:Nat}(h:i<L.length):L[i]?=some (cl L i):=by unfold cl;rw[List.getElem?_eq_getElem h];rfl
theorem cl_mem{L:List (List Pl)}{i:Nat}(h:i<L.length):cl L i∈L:=by unfold cl;rw[List.getElem?_eq_getElem h];exact List.getElem_mem h
theorem gi_rpl{g:List Int}{x y:Int}{k:Nat}(hk:k<g.length):gi (rpl g x y) k=sw x y (gi g k):=by
 unfold gi rpl
 rw[List.getElem?_map,List.getElem?_eq_getElem hk];rfl
theorem ws{k:Nat}(h:k<100000):w64 ((k:Int)+1)=((k+1:Nat):Int):=w64_suc (by unfold big;omega)
abbrev P4:=Int×Int×List (List Pl)×List Int
theorem p2Step(n:Nat)(rec2 rec1:P4→Option Int)(t7:Int)(t8:List Pl)(t36:Int)(t43:List (List Pl))(t44 t35 t5 x y t45 t76:Int)(L:List (List Pl))(rec3:(Int×List Int)→Option Int)(k:Int)(g:List Int) :
  Dimpl_Pieces_2 n rec2 rec1 t7 t8 t36 t43 t44 t35 t5 x y t45 t76 L rec3 (k,g)=frk (decide (k<t76)) ((lget g k).bind fun v12=>frk (v12==x) ((lget g k).bind fun _=>rec3 (w64 (k+1),(g.set (Int.toNat k) y))) (rec3 (w64 (k+1),g))) (rec2 (t5,w64 (t45+1),L,g)):=rfl
theorem iRpl(n:Nat)(rec2 rec1:P4→Option Int)(t7:Int)(t8:List Pl)(t36:Int)(t43:List (List Pl))(t44 t35 t5 x y t45:Int)(L:List (List Pl)){g:List Int}(hg:g.length≤1000):∀(d k m:Nat),k+d=g.length→d<m →
  loopN (Dimpl_Pieces_2 n rec2 rec1 t7 t8 t36 t43 t44 t35 t5 x y t45 (g.length:Int) L) m ((k:Int),hlf g x y k)=rec2 (t5,w64 (t45+1),L,rpl g x y):=by
 intro d
 induction d with
 | zero =>
  intro k m hk hm
  obtain⟨m,rfl⟩:∃j,m=j+1:=⟨m-1,by omega⟩
  obtain rfl:k=g.length:=by omega
  rw[loop_suc,p2Step,decide_eq_false (by omega),frk_f,hlf_all]
 | succ d ih =>
  intro k m hk hm
  obtain⟨m,rfl⟩:∃j,m=j+1:=⟨m-1,by omega⟩
  have hkl:k<g.length:=by omega
  rw[loop_suc,p2Step,decide_eq_true (by omega),frk_t,lget_nat,hlf_at hkl,Option.bind_some,Option.bind_some,ws (by omega),Int.toNat_natCast]
  by_cases h:gi g k=x
  ·rw[show (gi g k==x)=true by simpa using h,frk_t,hlf_set hkl h];exact ih (k+1) m (by omega) (by omega)
  ·rw[show (gi g k==x)=false by simpa using h,frk_f,←hlf_keep hkl h];exact ih (k+1) m (by omega) (by omega)
theorem p3Step(n:Nat)(rec1:P4→Option Int)(t35 i:Int)(a:List Pl)(t36:Int)(t43:List (List Pl))(t44:Int)(rec2:P4→Option Int)(c j:Int)(L:List (List Pl))(g:List Int) :
  Dimpl_Pieces_3 n rec1 t35 i a t36 t43 t44 rec2 (c,j,L,g)=frk (decide (j<t44)) ((lget t43 j).bind fun v6=>(lget g i).bind fun v7=>(lget g j).bind fun v8=>frk (v7==v8) (rec2 (c,w64 (j+1),L,g)) ((Dimpl_touch n a v6).bind fun v9=>frk (!v9) (rec2 (c,w64 (j+1),L,g)) ((lget g i).bind fun v10=>(lget g j).bind fun v11=>loopN (Dimpl_Pieces_2 n rec2 rec1 i a t36 t43 t44 t35 (w64 (c-1)) v10 v11 j (g.length:Int) L) n (0,g)))) (rec1 (c,w64 (t36+1),L,g)):=rfl
theorem iInP(n:Nat)(hn:2000≤n){L:List (List Pl)}(hL:L.length≤1000){T:Nat→Nat→Bool}(hT:∀i j,i<L.length→j<L.length→Dimpl_touch n (cl L i) (cl L j)=some (T i j))(rec1:P4→Option Int)(t35:Int){i:Nat}(hi:i<L.length):∀(d j m:Nat) (g:List Int),j+d=i→d<m→Grp L.length g →
  loopN (Dimpl_Pieces_3 n rec1 t35 (i:Int) (cl L i) (i:Int) (L.take i) (i:Int)) m ((nd L.length g:Int),(j:Int),L,g)=rec1 ((nd L.length ((List.range' j d).foldl (stp T i) g):Int),((i+1:Nat):Int),L,(List.range' j d).foldl (stp T i) g):=by
 intro d
 induction d with
 | zero =>
  intro j m g hj hm hg
  obtain⟨m,rfl⟩:∃x,m=x+1:=⟨m-1,by omega⟩
  rw[loop_suc,p3Step,decide_eq_false (by omega),frk_f,ws (by omega)];rfl
 | succ d ih =>
  intro j m g hj hm hg
  obtain⟨m,rfl⟩:∃x,m=x+1:=⟨m-1,by omega⟩
  have hl:=hg.len
  have hnd:=nd_le L.length g
  have htk:(L.take i)[j]?=some (cl L j):=by rw[List.getElem?_take_of_lt (by omega)];exact cl_some (by omega)
  have key:∀g',g'=stp T i g j→loopN (Dimpl_Pieces_3 n rec1 t35 (i:Int) (cl L i) (i:Int) (L.take i) (i:Int)) m ((nd L.length g':Int),((j+1:Nat):Int),L,g')=rec1 ((nd L.length ((List.range' j (d+1)).foldl (stp T i) g):Int),((i+1:Nat):Int),L,(List.range' j (d+1)).foldl (stp T i) g):=fun g' e=>by
   rw[List.range'_succ,List.foldl_cons,←e]
   exact ih (j+1) m g' (by omega) (by omega) (by rw[e];exact stp_grp hg (by omega))
  rw[loop_suc,p3Step,decide_eq_true (by omega),frk_t,lget_nat,htk,Option.bind_some,lget_nat,gi_some (by omega),Option.bind_some,lget_nat,gi_some (by omega),Option.bind_some,ws (by omega),hT i j hi (by omega),Option.bind_some,Option.bind_some,Option.bind_some]
  by_cases he:gi g i=gi g j
  ·rw[show (gi g i==gi g j)=true by simpa using he,frk_t]
   exact key g (by unfold stp;rw[if_neg (fun h=>h.1 he)])
  ·rw[show (gi g i==gi g j)=false by simpa using he,frk_f]
   cases ht:T i j with
   | false =>
    rw[Bool.not_false,frk_t]
    exact key g (by unfold stp;rw[if_neg (fun h=>by rw[ht] at h;exact absurd h.2 (by simp))])
   | true =>
    rw[Bool.not_true,frk_f]
    have hr:=nd_rpl hg he (gi_mem (by omega)) (gi_mem (by omega))
    have r:=iRpl n (loopN (Dimpl_Pieces_3 n rec1 t35 (i:Int) (cl L i) (i:Int) (L.take i) (i:Int)) m) rec1 (i:Int) (cl L i) (i:Int) (L.take i) (i:Int) t35 (w64 ((nd L.length g:Int)-1)) (gi g i) (gi g j) (j:Int) L (g:=g) (by omega) g.length 0 n (by omega) (by omega)
    rw[hlf_zero,ws (by omega)] at r
    refine r.trans ?_
    have hw:w64 ((nd L.length g:Int)-1)=(nd L.length (rpl g (gi g i) (gi g j)):Int):=by rw[w64_id (by omega) (by omega)];omega
    rw[hw]
    exact key _ (by unfold stp;rw[if_pos ⟨he,ht⟩])
theorem p4Step(n:Nat)(t35:Int)(rec1:P4→Option Int)(c i:Int)(L:List (List Pl))(g:List Int) :
  Dimpl_Pieces_4 n t35 rec1 (c,i,L,g)=frk (decide (i<t35)) ((lget L i).bind fun v4=>(lsl L 0 i).bind fun v5=>loopN (Dimpl_Pieces_3 n rec1 t35 i v4 i v5 (v5.length:Int)) n (c,0,L,g)) (some c):=rfl
theorem iOutP(n:Nat)(hn:2000≤n){L:List (List Pl)}(hL:L.length≤1000){T:Nat→Nat→Bool}(hT:∀i j,i<L.length→j<L.length→Dimpl_touch n (cl L i) (cl L j)=some (T i j)):∀(d i m:Nat) (g:List Int),i+d=L.length→d<m→Grp L.length g →
  loopN (Dimpl_Pieces_4 n (L.length:Int)) m ((nd L.length g:Int),(i:Int),L,g)=some (nd L.length ((List.range' i d).foldl (inG T) g):Int):=by
 intro d
 induction d with
 | zero =>
  intro i m g hi hm hg
  obtain⟨m,rfl⟩:∃x,m=x+1:=⟨m-1,by omega⟩
  rw[loop_suc,p4Step,decide_eq_false (by omega),frk_f];rfl
 | succ d ih =>
  intro i m g hi hm hg
  obtain⟨m,rfl⟩:∃x,m=x+1:=⟨m-1,by omega⟩
  have hil:i<L.length:=by omega
  have htl:(L.take i).length=i:=by rw[List.length_take];omega
  rw[loop_suc,p4Step,decide_eq_true (by omega),frk_t,lget_nat,cl_some hil,Option.bind_some,lsl_take L i (by omega),Option.bind_some,htl,List.range'_succ,List.foldl_cons]
  have r:=iInP n hn hL hT (loopN (Dimpl_Pieces_4 n (L.length:Int)) m) (L.length:Int) hil i 0 n g (by omega) (by omega) hg
  refine r.trans ?_
  exact ih (i+1) m (inG T g i) (by omega) (by omega) (fold_grp (by omega) i 0 g (by omega) hg)
theorem p5Step(n:Nat)(t5 t25:Int)(L:List (List Pl))(rec0:(Int×List Int)→Option Int)(k:Int)(g:List Int) :
  Dimpl_Pieces_5 n t5 t25 L rec0 (k,g)=frk (decide (k<t25)) ((lget g k).bind fun _=>rec0 (w64 (k+1),(g.set (Int.toNat k) k))) (Dimpl_Pieces_0 n t5 (L.length:Int) 0 L g):=rfl
def ini (N k:Nat):List Int:=(List.range k).map (fun v:Nat=>(v:Int))++List.replicate (N-k) 0
theorem ini_at{N k:Nat}(h:k<N):(ini N k)[k]?=some 0:=by
 unfold ini
 rw[List.getElem?_append_right (by simp),List.length_map,List.length_range,Nat.sub_self,List.getElem?_replicate,if_pos (by omega)]
theorem ini_set{N k:Nat}(h:k<N):(ini N k).set k (k:Int)=ini N (k+1):=by
 unfold ini
 rw[List.set_append_right _ _ (by simp),List.length_map,List.length_range,Nat.sub_self,show N-k=(N-(k+1))+1 by omega,List.replicate_succ,List.set_cons_zero,List.range_succ,List.map_append,List.append_assoc];rfl
theorem iIni(n:Nat)(t5:Int){L:List (List Pl)}(hL:L.length≤1000):∀(d k m:Nat),k+d=L.length→d<m→loopN (Dimpl_Pieces_5 n t5 (L.length:Int) L) m ((k:Int),ini L.length k)=Dimpl_Pieces_0 n t5 (L.length:Int) 0 L (g0 L.length):=by
 intro d
 induction d with
 | zero =>
  intro k m hk hm
  obtain⟨m,rfl⟩:∃x,m=x+1:=⟨m-1,by omega⟩
  obtain rfl:k=L.length:=by omega
  rw[loop_suc,p5Step,decide_eq_false (by omega),frk_f]
  congr 1
  unfold ini g0;simp
 | succ d ih =>
  intro k m hk hm
  obtain⟨m,rfl⟩:∃x,m=x+1:=⟨m-1,by omega⟩
  rw[loop_suc,p5Step,decide_eq_true (by omega),frk_t,lget_nat,ini_at (by omega),Option.bind_some,Int.toNat_natCast,ini_set (by omega),ws (by omega)]
  exact ih (k+1) m (by omega) (by omega)
theorem iPieces(n:Nat)(hn:2000≤n){L:List (List Pl)}(hL:L.length≤1000){T:Nat→Nat→Bool}(hT:∀i j,i<L.length→j<L.length→Dimpl_touch n (cl L i) (cl L j)=some (T i j)) :
  loopN (Dimpl_Pieces_5 n (L.length:Int) (L.length:Int) L) n (0,List.replicate (Int.toNat (L.length:Int)) (0:Int))=some (nd L.length ((List.range' 0 L.length).foldl (inG T) (g0 L.length)):Int):=by
 have h1:=iIni n (L.length:Int) hL L.length 0 n (by omega) (by omega)
 have e:ini L.length 0=List.replicate L.length 0:=by unfold ini;simp
 rw[e] at h1
 rw[Int.toNat_natCast]
 refine h1.trans ?_
 unfold Dimpl_Pieces_0
 have h2:=iOutP n hn hL hT L.length 0 n (g0 L.length) (by omega) (by omega) (g0_grp _)
 rw[nd_g0] at h2
 exact h2
abbrev Q2:=Int×List Int
theorem q2Step(n:Nat)(rec3 rec2 rec1:Q2→Option Int)(j i:Int)(L:List (List Pl))(Pm:List Pl)(q x:Int)(rec4:Q2→Option Int)(k:Int)(g:List Int) :
  Dspec_Pieces_2 n rec3 rec2 rec1 j i L Pm q x rec4 (k,g)=frk (decide (k<(g.length:Int))) ((lget g k).bind fun v10=>frk (v10==x) ((lget g j).bind fun v11=>(lget g k).bind fun _=>rec4 (w64 (k+1),(g.set (Int.toNat k) v11))) (rec4 (w64 (k+1),g))) (rec3 (w64 (q+1),g)):=rfl
theorem sRpl(n:Nat)(rec3 rec2 rec1:Q2→Option Int)(i:Int)(L:List (List Pl))(Pm:List Pl)(q:Int){g:List Int}(hg:g.length≤1000){x:Int}{j:Nat}(hj:j<g.length)(hxy:x≠gi g j):∀(d k m:Nat),k+d=g.length→d<m →
  loopN (Dspec_Pieces_2 n rec3 rec2 rec1 (j:Int) i L Pm q x) m ((k:Int),hlf g x (gi g j) k)=rec3 (w64 (q+1),rpl g x (gi g j)):=by
 intro d
 induction d with
 | zero =>
  intro k m hk hm
  obtain⟨m,rfl⟩:∃j,m=j+1:=⟨m-1,by omega⟩
  obtain rfl:k=g.length:=by omega
  rw[loop_suc,q2Step,hlf_len,decide_eq_false (by omega),frk_f,hlf_all]
 | succ d ih =>
  intro k m hk hm
  obtain⟨m,rfl⟩:∃j,m=j+1:=⟨m-1,by omega⟩
  have hkl:k<g.length:=by omega
  rw[loop_suc,q2Step,hlf_len,decide_eq_true (by omega),frk_t,lget_nat,hlf_at hkl,Option.bind_some,lget_nat,hlf_y hj rfl hxy,Option.bind_some,Option.bind_some,ws (by omega),Int.toNat_natCast]
  by_cases h:gi g k=x
  ·rw[show (gi g k==x)=true by simpa using h,frk_t,hlf_set hkl h];exact ih (k+1) m (by omega) (by omega)
  ·rw[show (gi g k==x)=false by simpa using h,frk_f,←hlf_keep hkl h];exact ih (k+1) m (by omega) (by omega)
theorem q3Step(n:Nat)(rec2 rec1:Q2→Option Int)(i:Int)(L:List (List Pl))(Pm:List Pl)(j:Int)(rec3:Q2→Option Int)(q:Int)(g:List Int) :
  Dspec_Pieces_3 n rec2 rec1 i L Pm j rec3 (q,g)=frk (decide (q<(Pm.length:Int))) ((lget g i).bind fun v3=>(lget g j).bind fun v4=>frk (v3 != v4) ((lget L i).bind fun v5=>(lget L j).bind fun v6=>(lget Pm q).bind fun v7=>(Dspec_l13Meet n v5 v6 v7).bind fun v8=>frk v8 ((lget g i).bind fun v9=>loopN (Dspec_Pieces_2 n rec3 rec2 rec1 j i L Pm q v9) n (0,g)) (rec3 (w64 (q+1),g))) (rec2 (w64 (j+1),g))) (rec2 (w64 (j+1),g)):=rfl
theorem sIn3P(n:Nat)(hn:2000≤n){L:List (List Pl)}(hL:L.length≤1000){Pm:List Pl}(hPm:Pm.length≤1000){M:Nat→Nat→Pl→Bool}(hM:∀i j p,i<L.length→j<L.length→p∈Pm→Dspec_l13Meet n (cl L i) (cl L j) p=some (M i j p))(rec2 rec1:Q2→Option Int){i j:Nat}(hi:i<L.length)(hj:j<L.length):∀(d q m:Nat) (g:List Int),q+d=Pm.length→d<m→Grp L.length g →
  loopN (Dspec_Pieces_3 n rec2 rec1 (i:Int) L Pm (j:Int)) m ((q:Int),g)=rec2 (((j+1:Nat):Int),if gi g i≠gi g j∧(Pm.drop q).any (M i j)=true then rpl g (gi g i) (gi g j) else g):=by
 intro d
 induction d with
 | zero =>
  intro q m g hq hm hg
  obtain⟨m,rfl⟩:∃x,m=x+1:=⟨m-1,by omega⟩
  rw[loop_suc,q3Step,decide_eq_false (by omega),frk_f,ws (by omega),List.drop_eq_nil_of_le (by omega),if_neg (fun h=>by have:=h.2;simp at this)]
 | succ d ih =>
  intro q m g hq hm hg
  obtain⟨m,rfl⟩:∃x,m=x+1:=⟨m-1,by omega⟩
  have hl:=hg.len
  have hql:q<Pm.length:=by omega
  rw[loop_suc,q3Step,decide_eq_true (by omega),frk_t,lget_nat,gi_some (by omega),Option.bind_some,lget_nat,gi_some (by omega),Option.bind_some,lget_nat,cl_some hi,Option.bind_some,lget_nat,cl_some hj,Option.bind_some,lget_nat,List.getElem?_eq_getElem hql,Option.bind_some,hM i j _ hi hj (List.getElem_mem hql),Option.bind_some,Option.bind_some,ws (k:=j) (by omega),ws (k:=q) (by omega),List.drop_eq_getElem_cons hql,List.any_cons]
  by_cases he:gi g i=gi g j
  ·rw[show (gi g i != gi g j)=false by simpa using he,frk_f,if_neg (fun h=>h.1 he)]
  ·rw[show (gi g i != gi g j)=true by simpa using he,frk_t]
   cases hm':M i j Pm[q] with
   | false =>
    rw[frk_f,Bool.false_or]
    exact ih (q+1) m g (by omega) (by omega) hg
   | true =>
    rw[frk_t,Bool.true_or,if_pos ⟨he,rfl⟩]
    have r:=sRpl n (loopN (Dspec_Pieces_3 n rec2 rec1 (i:Int) L Pm (j:Int)) m) rec2 rec1 (i:Int) L Pm (q:Int) (g:=g) (by omega) (j:=j) (by omega) he g.length 0 n (by omega) (by omega)
    rw[hlf_zero,ws (by omega)] at r
    refine r.trans ?_
    have e1:gi (rpl g (gi g i) (gi g j)) i=gi (rpl g (gi g i) (gi g j)) j:=by
     rw[gi_rpl (by omega),gi_rpl (by omega)]
     unfold sw
     rw[if_pos rfl,if_neg (fun e=>he e.symm)]
    rw[ih (q+1) m _ (by omega) (by omega) (rpl_grp hg (gi_mem (by omega))),if_neg (fun h=>h.1 e1)]
theorem q4Step(n:Nat)(rec1:Q2→Option Int)(L:List (List Pl))(Pm:List Pl)(i:Int)(rec2:Q2→Option Int)(j:Int)(g:List Int) :
  Dspec_Pieces_4 n rec1 L Pm i rec2 (j,g)=frk (decide (j<i)) (loopN (Dspec_Pieces_3 n rec2 rec1 i L Pm j) n (0,g)) (rec1 (w64 (i+1),g)):=rfl
theorem sIn4P(n:Nat)(hn:2000≤n){L:List (List Pl)}(hL:L.length≤1000){Pm:List Pl}(hPm:Pm.length≤1000){M:Nat→Nat→Pl→Bool}(hM:∀i j p,i<L.length→j<L.length→p∈Pm→Dspec_l13Meet n (cl L i) (cl L j) p=some (M i j p))(rec1:Q2→Option Int){i:Nat}(hi:i<L.length):∀(d j m:Nat) (g:List Int),j+d=i→d<m→Grp L.length g →
  loopN (Dspec_Pieces_4 n rec1 L Pm (i:Int)) m ((j:Int),g)=rec1 (((i+1:Nat):Int),(List.range' j d).foldl (stp (fun i j=>Pm.any (M i j)) i) g):=by
 intro d
 induction d with
 | zero =>
  intro j m g hj hm hg
  obtain⟨m,rfl⟩:∃x,m=x+1:=⟨m-1,by omega⟩
  rw[loop_suc,q4Step,decide_eq_false (by omega),frk_f,ws (by omega)];rfl
 | succ d ih =>
  intro j m g hj hm hg
  obtain⟨m,rfl⟩:∃x,m=x+1:=⟨m-1,by omega⟩
  have r:=sIn3P n hn hL hPm hM (loopN (Dspec_Pieces_4 n rec1 L Pm (i:Int)) m) rec1 hi (j:=j) (by omega) Pm.length 0 n g (by omega) (by omega) hg
  rw[List.drop_zero] at r
  rw[loop_suc,q4Step,decide_eq_true (by omega),frk_t,List.range'_succ,List.foldl_cons]
  refine r.trans ?_
  exact ih (j+1) m (stp (fun i j=>Pm.any (M i j)) i g j) (by omega) (by omega) (stp_grp hg (by omega))
theorem q9Step(n:Nat)(L:List (List Pl))(Pm:List Pl)(rec1:Q2→Option Int)(i:Int)(g:List Int) :
  Dspec_Pieces_9 n L Pm rec1 (i,g)=frk (decide (i<(L.length:Int))) (loopN (Dspec_Pieces_4 n rec1 L Pm i) n (0,g)) (Dspec_Pieces_5 n 0 0 g):=rfl
theorem sOutP(n:Nat)(hn:2000≤n){L:List (List Pl)}(hL:L.length≤1000){Pm:List Pl}(hPm:Pm.length≤1000){M:Nat→Nat→Pl→Bool}(hM:∀i j p,i<L.length→j<L.length→p∈Pm→Dspec_l13Meet n (cl L i) (cl L j) p=some (M i j p)):∀(d i m:Nat) (g:List Int),i+d=L.length→d<m→Grp L.length g →
  loopN (Dspec_Pieces_9 n L Pm) m ((i:Int),g)=Dspec_Pieces_5 n 0 0 ((List.range' i d).foldl (inG fun i j=>Pm.any (M i j)) g):=by
 intro d
 induction d with
 | zero =>
  intro i m g hi hm hg
  obtain⟨m,rfl⟩:∃x,m=x+1:=⟨m-1,by omega⟩
  rw[loop_suc,q9Step,decide_eq_false (by omega),frk_f];rfl
 | succ d ih =>
  intro i m g hi hm hg
  obtain⟨m,rfl⟩:∃x,m=x+1:=⟨m-1,by omega⟩
  rw[loop_suc,q9Step,decide_eq_true (by omega),frk_t,List.range'_succ,List.foldl_cons]
  have r:=sIn4P n hn hL hPm hM (loopN (Dspec_Pieces_9 n L Pm) m) (i:=i) (by omega) i 0 n g (by omega) (by omega) hg
  refine r.trans ?_
  exact ih (i+1) m (inG (fun i j=>Pm.any (M i j)) g i) (by omega) (by omega) (fold_grp (by omega) i 0 g (by omega) hg)
theorem q7Step(n:Nat)(rec2:(Int×Int×List Int)→Option Int)(c i:Int)(g:List Int)(rec3:(Bool×Int)→Option Int)(b:Bool)(k:Int) :
  Dspec_Pieces_7 n rec2 c i g rec3 (b,k)=frk (decide (k<i)) (frk b ((lget g k).bind fun v13=>(lget g i).bind fun v14=>rec3 (v13 != v14,w64 (k+1))) (rec3 (false,w64 (k+1)))) (frk b (rec2 (w64 (c+1),w64 (i+1),g)) (rec2 (c,w64 (i+1),g))):=rfl
theorem sFst(n:Nat)(rec2:(Int×Int×List Int)→Option Int)(c:Int){g:List Int}(hg:g.length≤1000){i:Nat}(hi:i<g.length):∀(d k m:Nat) (b:Bool),k+d=i→d<m →
  loopN (Dspec_Pieces_7 n rec2 c (i:Int) g) m (b,(k:Int))=frk (b&&(List.range' k d).all fun t=>gi g t != gi g i) (rec2 (w64 (c+1),((i+1:Nat):Int),g)) (rec2 (c,((i+1:Nat):Int),g)):=by
 intro d
 induction d with
 | zero =>
  intro k m b hk hm
  obtain⟨m,rfl⟩:∃x,m=x+1:=⟨m-1,by omega⟩
  rw[loop_suc,q7Step,decide_eq_false (by omega),frk_f,ws (by omega)]
  simp
 | succ d ih =>
  intro k m b hk hm
  obtain⟨m,rfl⟩:∃x,m=x+1:=⟨m-1,by omega⟩
  rw[loop_suc,q7Step,decide_eq_true (by omega),frk_t,lget_nat,gi_some (by omega),Option.bind_some,lget_nat,gi_some hi,Option.bind_some,ws (k:=k) (by omega),ih (k+1) m _ (by omega) (by omega),ih (k+1) m _ (by omega) (by omega),List.range'_succ,List.all_cons]
  cases b
  ·rw[frk_f,Bool.false_and,Bool.false_and]
  ·rw[frk_t,Bool.true_and]
theorem q8Step(n:Nat)(rec2:(Int×Int×List Int)→Option Int)(c i:Int)(g:List Int):Dspec_Pieces_8 n rec2 (c,i,g)=frk (decide (i<(g.length:Int))) (loopN (Dspec_Pieces_7 n rec2 c i g) n (true,0)) (some c):=rfl
theorem sCount(n:Nat)(hn:2000≤n){N:Nat}(hN:N≤1000){g:List Int}(hg:Grp N g):∀(d i m:Nat),i+d=g.length→d<m→loopN (Dspec_Pieces_8 n) m ((nd N (g.take i):Int),(i:Int),g)=some (nd N g:Int):=by
 intro d
 have hl:=hg.len
 induction d with
 | zero =>
  intro i m hi hm
  obtain⟨m,rfl⟩:∃x,m=x+1:=⟨m-1,by omega⟩
  rw[loop_suc,q8Step,decide_eq_false (by omega),frk_f,List.take_of_length_le (by omega)]
 | succ d ih =>
  intro i m hi hm
  obtain⟨m,rfl⟩:∃x,m=x+1:=⟨m-1,by omega⟩
  have hil:i<g.length:=by omega
  have r:=sFst n (loopN (Dspec_Pieces_8 n) m) (nd N (g.take i):Int) (g:=g) (by omega) hil i 0 n true (by omega) (by omega)
  rw[loop_suc,q8Step,decide_eq_true (by omega),frk_t]
  refine r.trans ?_
  obtain⟨a,ha,e⟩:=hg.val _ (gi_mem hil)
  have ht:g.take (i+1)=g.take i++[(a:Int)]:=by rw[List.take_add_one,gi_some hil,e];rfl
  have hs:=nd_snoc (N:=N) (g.take i) ha
  have hnd:=nd_le N (g.take i)
  have ih':=ih (i+1) m (by omega) (by omega)
  rw[ht,hs] at ih'
  have hall:(true&&(List.range' 0 i).all fun t=>gi g t != gi g i)=decide ((a:Int)∉g.take i):=by
   rw[Bool.true_and,Bool.eq_iff_iff,List.all_eq_true,decide_eq_true_iff]
   constructor
   ·intro h hin
    obtain⟨t,htl,et⟩:=List.getElem_of_mem hin
    rw[List.length_take] at htl
    have:=h t (List.mem_range'_1.2 (by omega))
    rw[e,bne_iff_ne] at this
    apply this
    rw[List.getElem_take] at et
    unfold gi;rw[List.getElem?_eq_getElem (by omega)];exact et
   ·intro h t ht'
    rw[List.mem_range'_1] at ht'
    rw[bne_iff_ne]
    intro e'
    apply h
    rw[←e,←e']
    have:(g.take i)[t]?=some (gi g t):=by rw[List.getElem?_take_of_lt (by omega)];exact gi_some (by omega)
    exact List.mem_of_getElem? this
  rw[hall]
  by_cases hin:(a:Int)∈g.take i
  ·rw[decide_eq_false (fun h=>h hin),frk_f]
   rw[if_pos hin] at ih'
   exact ih'
  ·rw[decide_eq_true hin,frk_t,ws (by omega)]
   rw[if_neg hin] at ih'
   exact ih'
theorem q10Step(n:Nat)(L:List (List Pl))(Pm:List Pl)(rec0:Q2→Option Int)(k:Int)(g:List Int):Dspec_Pieces_10 n L Pm rec0 (k,g)=frk (decide (k<(L.length:Int))) (chk (apB 8 (g.length+1)) (rec0 (w64 (k+1),(g++[k])))) (Dspec_Pieces_0 n L Pm 0 g):=rfl
theorem aQ8{n:Nat}(h:n≤1000000):apB 8 n=true:=by
 unfold apB;simp only[Bool.and_eq_true,decide_eq_true_eq];omega
theorem sIni(n:Nat){L:List (List Pl)}(hL:L.length≤1000)(Pm:List Pl):∀(d k m:Nat),k+d=L.length→d<m→loopN (Dspec_Pieces_10 n L Pm) m ((k:Int),g0 k)=Dspec_Pieces_0 n L Pm 0 (g0 L.length):=by
 intro d
 induction d with
 | zero =>
  intro k m hk hm
  obtain⟨m,rfl⟩:∃x,m=x+1:=⟨m-1,by omega⟩
  obtain rfl:k=L.length:=by omega
  rw[loop_suc,q10Step,decide_eq_false (by omega),frk_f]
 | succ d ih =>
  intro k m hk hm
  obtain⟨m,rfl⟩:∃x,m=x+1:=⟨m-1,by omega⟩
  have hl:=(g0_grp k).len
  rw[loop_suc,q10Step,decide_eq_true (by omega),frk_t,chk_eq (aQ8 (by omega)),ws (by omega),show g0 k++[(k:Int)]=g0 (k+1) by unfold g0;rw[List.range_succ,List.map_append];rfl]
  exact ih (k+1) m (by omega) (by omega)
theorem sPieces(n:Nat)(hn:2000≤n){L:List (List Pl)}(hL:L.length≤1000){Pm:List Pl}(hPm:Pm.length≤1000){M:Nat→Nat→Pl→Bool}(hM:∀i j p,i<L.length→j<L.length→p∈Pm→Dspec_l13Meet n (cl L i) (cl L j) p=some (M i j p)) :
  loopN (Dspec_Pieces_10 n L Pm) n (0,[])=some (nd L.length ((List.range' 0 L.length).foldl (inG fun i j=>Pm.any (M i j)) (g0 L.length)):Int):=by
 have h1:=sIni n hL Pm L.length 0 n (by omega) (by omega)
 refine h1.trans ?_
 unfold Dspec_Pieces_0
 have h2:=sOutP n hn hL hPm hM L.length 0 n (g0 L.length) (by omega) (by omega) (g0_grp _)
 refine h2.trans ?_
 unfold Dspec_Pieces_5
 have hgr:∀(d i:Nat) (g:List Int),i+d≤L.length→Grp L.length g→Grp L.length ((List.range' i d).foldl (inG fun i j=>Pm.any (M i j)) g):=by
  intro d
  induction d with
  | zero=>intro i g _ h;exact h
  | succ d ih =>
   intro i g hi h
   rw[List.range'_succ,List.foldl_cons]
   exact ih (i+1) _ (by omega) (fold_grp (by omega) i 0 g (by omega) h)
 have hg:=hgr L.length 0 (g0 L.length) (by omega) (g0_grp _)
 have h3:=sCount n hn hL hg ((List.range' 0 L.length).foldl (inG fun i j=>Pm.any (M i j)) (g0 L.length)).length 0 n (by omega) (by rw[hg.len];omega)
 rw[List.take_zero,nd_nil] at h3
 exact h3
end Evl.T
namespace Evl.T
open Go Evl
structure CelB(c:List Pl):Prop where
 ok:∀q∈c,pOk q=true
 len:c.length≤24
theorem ok_flpB{p:Pl}(h:pOk p=true):pOk (flp p)=true:=by
 have hp:=pOk_PB h
 unfold pOk at h ⊢
 revert h
 obtain⟨a,b,c,d⟩:=p
 obtain⟨h1,h2,h3,h4⟩:=hp
 unfold B at h1 h2 h3 h4
 simp only at h1 h2 h3 h4
 unfold flp
 simp only[Int.zero_sub,Int.natAbs_neg,Bool.and_eq_true,Bool.or_eq_true,decide_eq_true_eq,bne_iff_ne,ne_eq,beq_iff_eq,rIn_iff,Int.neg_eq_zero]
 omega
theorem CelB.snoc{c:List Pl}{p:Pl}(h:CelB c)(hl:c.length<24)(hp:pOk p=true):CelB (c++[p]) :=
 ⟨fun q hq=>by
  rcases List.mem_append.1 hq with hq | hq
  ·exact h.ok q hq
  ·rw[List.mem_singleton.1 hq];exact hp,by rw[List.length_append,List.length_singleton];omega⟩
theorem sClStepB(n:Nat)(self:(Sol×Bool×(List Pl))→Option (List (List Pl)))(s:Sol)(b:Bool)(path:List Pl) :
  Dspec_l8Cells_b n self (s,b,path)=(Dspec_l8Leaf s).bind fun v0=>frk v0 (frk (s.inn==b) (chk (apB 32 (0+path.length)) (some [([]++path)])) (some [])) ((lget s.kids 0).bind fun v2=>(Dspec_l8Path path s.pl).bind fun v3=>(self (v2,b,v3)).bind fun v4=>(lget s.kids 1).bind fun v5=>(Dspec_l3Flip s.pl).bind fun v6=>(Dspec_l8Path path v6).bind fun v7=>(self (v5,b,v7)).bind fun v8=>chk (apB 24 (v4.length+v8.length)) (some (v4++v8))):=rfl
theorem iClStepB(n:Nat)(self:(Sol×Bool×(List Pl))→Option (List (List Pl)))(s:Sol)(b:Bool)(path:List Pl) :
  Dimpl_Solid_cells_b n self (s,b,path)=(Dimpl_Solid_isLeaf s).bind fun v0=>frk v0 (frk (s.inn==b) ((Dslices_Clone path).bind fun v1=>some [v1]) (some [])) ((lget s.kids 0).bind fun v2=>(Dimpl_with path s.pl).bind fun v3=>(self (v2,b,v3)).bind fun v4=>(lget s.kids 1).bind fun v5=>(Dimpl_flip s.pl).bind fun v6=>(Dimpl_with path v6).bind fun v7=>(self (v5,b,v7)).bind fun v8=>chk (apB 24 (v4.length+v8.length)) (some (v4++v8))):=rfl
theorem aB24B{n:Nat}(h:n≤1000000):apB 24 n=true:=by
 unfold apB;simp only[Bool.and_eq_true,decide_eq_true_eq];omega
theorem aBig{n:Nat}(h:n≤1000000000):apB 32 n=true:=by
 unfold apB;simp only[Bool.and_eq_true,decide_eq_true_eq];omega
theorem clnB{l:List Pl}(h:l.length≤1000):Dslices_Clone l=some l:=by
 unfold Dslices_Clone
 rw[chk_eq (aBig (by omega))];rfl
theorem cellsB{s:Sol}{path:List Pl}(h:Rt s path):CelB path→∃L:List (List Pl),(∀c∈L,CelB c)∧L.length≤nod s+1∧E2 fun n m=>nod s≤1000→loopN (Dspec_l8Cells_b n) m (s,true,path)=some L∧loopN (Dimpl_Solid_cells_b n) m (s,true,path)=some L:=by
 induction h with
 | @leaf i p path hz =>
  intro hc
  have hl:=hc.len
  cases i with
  | true =>
   refine⟨[path],fun c h=>by rw[List.mem_singleton.1 h];exact hc,by simp,E2.suc (E2.of fun n m _=>⟨?_,?_⟩)⟩
   ·rw[loop_suc,sClStepB]
    show frk true _ _=_
    rw[frk_t]
    show frk true _ _=_
    rw[frk_t,chk_eq (aBig (by omega))];rfl
   ·rw[loop_suc,iClStepB]
    show frk true _ _=_
    rw[frk_t]
    show frk true _ _=_
    rw[frk_t,clnB (by omega)];rfl
  | false=>exact⟨[],by simp,by simp,E2.suc (E2.of fun n m _=>⟨by rw[loop_suc,sClStepB];rfl,by rw[loop_suc,iClStepB];rfl⟩)⟩
 | @node p x y path hp hl h1 h2 _ _ ihx ihy =>
  intro hc
  have hpb:=pOk_PB hp
  obtain⟨L1,c1,l1,e1⟩:=ihx (hc.snoc hl hp)
  obtain⟨L2,c2,l2,e2⟩:=ihy (hc.snoc hl (ok_flpB hp))
  refine⟨L1++L2,fun c h=>(List.mem_append.1 h).elim (c1 c) (c2 c),by rw[List.length_append,nod2];omega,E2.suc ((e1.and e2).mono fun n m ⟨g1,g2⟩ hn=>?_)⟩
  rw[nod2] at hn
  obtain⟨p1,p2⟩:=g1 (by omega)
  obtain⟨p3,p4⟩:=g2 (by omega)
  refine⟨?_,?_⟩
  ·rw[loop_suc,sClStepB]
   show ((Dspec_l8Path path p).bind fun v3=>(loopN (Dspec_l8Cells_b n) m (x,true,v3)).bind fun v4=>(Dspec_l3Flip p).bind fun v6=>(Dspec_l8Path path v6).bind fun v7=>(loopN (Dspec_l8Cells_b n) m (y,true,v7)).bind fun v8=>chk (apB 24 (v4.length+v8.length)) (some (v4++v8)))=_
   rw[sPath _ _ (by omega),Option.bind_some,p1,Option.bind_some,sFlip p hpb,Option.bind_some,sPath _ _ (by omega),Option.bind_some,p3,Option.bind_some,chk_eq (aB24B (by omega))]
  ·rw[loop_suc,iClStepB]
   show ((Dimpl_with path p).bind fun v3=>(loopN (Dimpl_Solid_cells_b n) m (x,true,v3)).bind fun v4=>(Dimpl_flip p).bind fun v6=>(Dimpl_with path v6).bind fun v7=>(loopN (Dimpl_Solid_cells_b n) m (y,true,v7)).bind fun v8=>chk (apB 24 (v4.length+v8.length)) (some (v4++v8)))=_
   rw[iPath _ _ (by omega),Option.bind_some,p2,Option.bind_some,iFlip p hpb,Option.bind_some,iPath _ _ (by omega),Option.bind_some,p4,Option.bind_some,chk_eq (aB24B (by omega))]
end Evl.T
namespace Evl.T
open Go Evl
inductive In1:Sol→Prop
 | leaf {p}:In1 (.mk true p [])
 | left {p x y}:In1 x→In1 (.mk false p [x,y])
 | right {p x y}:In1 y→In1 (.mk false p [x,y])
theorem cellsQ{s:Sol}{path:List Pl}(h:Rt s path):CelB path→∃L:List (List Pl),(∀c∈L,CelB c∧∀q∈c,q∈path∨Gn s (gtr q))∧L.length≤nod s+1∧(L=[]↔¬In1 s)∧E2 fun n m=>nod s≤1000→loopN (Dspec_l8Cells_b n) m (s,true,path)=some L∧loopN (Dimpl_Solid_cells_b n) m (s,true,path)=some L:=by
 induction h with
 | @leaf i p path hz =>
  intro hc
  have hl:=hc.len
  cases i with
  | true =>
   refine⟨[path],fun c h=>by rw[List.mem_singleton.1 h];exact⟨hc,fun q hq=>.inl hq⟩,by simp,⟨fun h=>by simp at h,fun h=>absurd .leaf h⟩,E2.suc (E2.of fun n m _=>⟨?_,?_⟩)⟩
   ·rw[loop_suc,sClStepB]
    show frk true _ _=_
    rw[frk_t]
    show frk true _ _=_
    rw[frk_t,chk_eq (aBig (by omega))];rfl
   ·rw[loop_suc,iClStepB]
    show frk true _ _=_
    rw[frk_t]
    show frk true _ _=_
    rw[frk_t,clnB (by omega)];rfl
  | false=>exact⟨[],by simp,by simp,⟨fun _ h=>(by cases h),fun _=>rfl⟩,E2.suc (E2.of fun n m _=>⟨by rw[loop_suc,sClStepB];rfl,by rw[loop_suc,iClStepB];rfl⟩)⟩
 | @node p x y path hp hl h1 h2 _ _ ihx ihy =>
  intro hc
  have hpb:=pOk_PB hp
  obtain⟨L1,c1,l1,i1,e1⟩:=ihx (hc.snoc hl hp)
  obtain⟨L2,c2,l2,i2,e2⟩:=ihy (hc.snoc hl (ok_flpB hp))
  have k1:∀c∈L1,CelB c∧∀q∈c,q∈path∨Gn (.mk false p [x,y]) (gtr q):=fun c h=>⟨(c1 c h).1,fun q hq=>by
   rcases(c1 c h).2 q hq with hq | hq
   ·rcases List.mem_append.1 hq with hq | hq
    ·exact .inl hq
    ·rw[List.mem_singleton.1 hq];exact .inr .here
   ·exact .inr (.left hq)⟩
  have k2:∀c∈L2,CelB c∧∀q∈c,q∈path∨Gn (.mk false p [x,y]) (gtr q):=fun c h=>⟨(c2 c h).1,fun q hq=>by
   rcases(c2 c h).2 q hq with hq | hq
   ·rcases List.mem_append.1 hq with hq | hq
    ·exact .inl hq
    ·rw[List.mem_singleton.1 hq,gtr_flp (pOk_Nz hp)];exact .inr .here
   ·exact .inr (.right hq)⟩
  refine⟨L1++L2,fun c h=>(List.mem_append.1 h).elim (k1 c) (k2 c),by rw[List.length_append,nod2];omega,by
   rw[List.append_eq_nil_iff,i1,i2]
   exact⟨fun ⟨h,k⟩ e=>by cases e with | left e=>exact h e | right e=>exact k e,fun h=>⟨fun e=>h (.left e),fun e=>h (.right e)⟩⟩,E2.suc ((e1.and e2).mono fun n m ⟨g1,g2⟩ hn=>?_)⟩
  rw[nod2] at hn
  obtain⟨p1,p2⟩:=g1 (by omega)
  obtain⟨p3,p4⟩:=g2 (by omega)
  refine⟨?_,?_⟩
  ·rw[loop_suc,sClStepB]
   show ((Dspec_l8Path path p).bind fun v3=>(loopN (Dspec_l8Cells_b n) m (x,true,v3)).bind fun v4=>(Dspec_l3Flip p).bind fun v6=>(Dspec_l8Path path v6).bind fun v7=>(loopN (Dspec_l8Cells_b n) m (y,true,v7)).bind fun v8=>chk (apB 24 (v4.length+v8.length)) (some (v4++v8)))=_
   rw[sPath _ _ (by omega),Option.bind_some,p1,Option.bind_some,sFlip p hpb,Option.bind_some,sPath _ _ (by omega),Option.bind_some,p3,Option.bind_some,chk_eq (aB24B (by omega))]
  ·rw[loop_suc,iClStepB]
   show ((Dimpl_with path p).bind fun v3=>(loopN (Dimpl_Solid_cells_b n) m (x,true,v3)).bind fun v4=>(Dimpl_flip p).bind fun v6=>(Dimpl_with path v6).bind fun v7=>(loopN (Dimpl_Solid_cells_b n) m (y,true,v7)).bind fun v8=>chk (apB 24 (v4.length+v8.length)) (some (v4++v8)))=_
   rw[iPath _ _ (by omega),Option.bind_some,p2,Option.bind_some,iFlip p hpb,Option.bind_some,iPath _ _ (by omega),Option.bind_some,p4,Option.bind_some,chk_eq (aB24B (by omega))]
theorem outG{N:Nat}{T:Nat→Nat→Bool}:∀(d i:Nat) (g:List Int),i+d≤N→Grp N g→Grp N ((List.range' i d).foldl (inG T) g):=by
 intro d
 induction d with
 | zero=>intro i g _ h;exact h
 | succ d ih =>
  intro i g hi h
  rw[List.range'_succ,List.foldl_cons]
  exact ih (i+1) _ (by omega) (fold_grp (by omega) i 0 g (by omega) h)
open Classical in
theorem piecesR(a:Sol)(ha:Lens a)(hr:Right a):∃L:List (List Pl),L.length≤nod a+1∧(L=[]↔¬In1 a)∧∃g:List Int,Grp L.length g∧(E2 fun n m=>nod a≤1000→loopN (Dspec_l8Cells_b n) m (a,true,[])=some L∧loopN (Dimpl_Solid_cells_b n) m (a,true,[])=some L)∧Ev fun n=>Dspec_Pieces n a=some (nd L.length g:Int)∧Dimpl_Pieces n a=some (nd L.length g:Int):=by
 have e1:=sSolidOk a ha
 have e2:=iSolidOk a
 obtain⟨L,c1,c2,ci,hE⟩:=cellsQ hr.1 ⟨by simp,by simp⟩
 have hn:=hr.2
 obtain⟨Pm,p1,p2,p3⟩:=sPls hr.1 [] (by simp;omega)
 simp only[List.not_mem_nil,false_or,List.length_nil,Nat.zero_add] at p1 p2
 have hP:∀m∈Pm,PB m∧Nz m∧gtr m=m:=fun m hm=>by
  obtain⟨r,hr',e⟩:=((p1 m).1 hm).of hr.1
  have hz:=pOk_Nz hr'
  have hb:=pOk_PB hr'
  subst e
  refine⟨?_,?_,gtr_gtr hz⟩
  ·rcases gtr_or r with e | e <;> rw[e]
   ·exact hb
   ·exact flp_PB hb
  ·rcases gtr_or r with e | e <;> rw[e]
   ·exact hz
   ·exact Nz_flpQ hz
 have hc:∀c∈L,(∀q∈c,PB q∧Nz q)∧c.length≤24∧∀q∈c,gtr q∈Pm:=fun c h=>⟨fun q hq=>⟨pOk_PB ((c1 c h).1.ok q hq),pOk_Nz ((c1 c h).1.ok q hq)⟩,(c1 c h).1.len,fun q hq=>(p1 _).2 (((c1 c h).2 q hq).elim (fun h=>by simp at h) id)⟩
 have hM:Ev fun n=>∀c∈L,∀d∈L,∀p∈Pm,Dspec_l13Meet n c d p=some (meetB c d p):=Ev.all fun c hcL=>Ev.all fun d hdL=>Ev.all fun p hpm=>sMeet13 (hc c hcL).1 (hc d hdL).1 (hc c hcL).2.1 (hc d hdL).2.1 (hP p hpm).1 (hP p hpm).2.2
 refine⟨L,c2,ci,((List.range' 0 L.length).foldl (inG fun i j=>Pm.any fun p=>meetB (cl L i) (cl L j) p) (g0 L.length)),outG L.length 0 _ (by omega) (g0_grp _),hE,(e1.and (e2.and (hE.ev.and (p3.ev.and (hM.and (e_ge 2000)))))).mono fun n ⟨g1,g2,g3,g4,g5,hn'⟩=>?_⟩
 obtain⟨g6,g7⟩:=g3 (by omega)
 rw[decide_eq_true hr] at g1 g2
 have s1:=sPieces n hn' (L:=L) (by omega) (Pm:=Pm) (by omega) (M:=fun i j p=>meetB (cl L i) (cl L j) p) (fun i j p hi hj hp=>g5 _ (cl_mem hi) _ (cl_mem hj) p hp)
 have s2:=iPieces n hn' (L:=L) (by omega) (T:=fun i j=>Pm.any fun p=>meetB (cl L i) (cl L j) p) (fun i j hi hj=>by
  have hi':=hc _ (cl_mem hi)
  have hj':=hc _ (cl_mem hj)
  rw[iTouch hi'.1 hj'.1 hi'.2.1 hj'.2.1 n hn',touch_eq (Pm:=Pm) (fun q hq=>(hi'.1 q hq).2) (fun m hm=>(hP m hm).2) hi'.2.2])
 have hmk:mkB (L.length:Int) 8=true:=by simp only[mkB,Bool.and_eq_true,decide_eq_true_eq];omega
 constructor
 ·unfold Dspec_Pieces Dspec_Cells Dspec_PlanesOf Dspec_l8Cells Dspec_l8Planeso1
  rw[g1,Option.bind_some,Bool.not_true,frk_f,g6,Option.bind_some,Option.bind_some,Option.bind_some,Bool.not_true,frk_f,g4,Option.bind_some,Option.bind_some]
  exact s1
 ·unfold Dimpl_Pieces Dimpl_Solid_cells
  rw[g2,Option.bind_some,Bool.not_true,frk_f,g7,Option.bind_some,chk_eq hmk]
  exact s2
end Evl.T
namespace Evl.T
open Go Evl
theorem hStepN(n:Nat)(self:Sol×Bool→Option Bool)(i:Bool)(p:Pl)(k:List Sol)(b:Bool):Dimpl_Solid_has_b n self (.mk i p k,b)=frk ((k.length:Int)==0) (some (i==b)) ((lget k 0).bind fun v1=>(self (v1,b)).bind fun v2=>frk v2 (some true) ((lget k 1).bind fun v3=>(self (v3,b)).bind fun v4=>some v4)):=rfl
open Classical in
theorem hasI{s:Sol}{path:List Pl}(h:Rt s path):E2 fun n m=>loopN (Dimpl_Solid_has_b n) m (s,true)=some (decide (In1 s)):=by
 induction h with
 | @leaf i p _ _ =>
  have e:decide (In1 (.mk i p []))=(i==true):=by
   rw[Bool.eq_iff_iff,decide_eq_true_iff,beq_iff_eq]
   exact⟨fun h=>by cases h;rfl,fun h=>by subst h;exact .leaf⟩
  rw[e]
  exact E2.suc (E2.of fun n m=>by rw[loop_suc,hStepN];rfl)
 | @node p a c _ _ _ _ _ _ _ iha ihb =>
  have e:decide (In1 (.mk false p [a,c]))=(decide (In1 a)||decide (In1 c)):=by
   rw[Bool.eq_iff_iff,Bool.or_eq_true,decide_eq_true_iff,decide_eq_true_iff,decide_eq_true_iff]
   exact⟨fun h=>by cases h with | left h=>exact .inl h | right h=>exact .inr h,fun h=>h.elim .left .right⟩
  rw[e]
  generalize decide (In1 a)=v at *
  generalize decide (In1 c)=w at *
  refine E2.suc ((iha.and ihb).mono fun n m ⟨h2,h4⟩=>?_)
  rw[loop_suc,hStepN,show ((([a,c]:List Sol).length:Int)==0)=false from rfl,frk_f]
  show ((some a).bind _)=_
  rw[Option.bind_some,h2,Option.bind_some]
  cases v
  ·rw[frk_f];show ((some c).bind _)=_;rw[Option.bind_some,h4];rfl
  ·rfl
theorem nd_zero{N:Nat}{g:List Int}(h:Grp N g):nd N g=0↔N=0:=by
 constructor
 ·intro e
  match N,h,e with
  | 0,_,_=>rfl
  | N+1,h,e =>
   exfalso
   have hl:=h.len
   unfold nd at e
   rw[List.length_eq_zero_iff] at e
   match g,hl,h,e with
   | v::g,_,h,e =>
    obtain⟨k,hk,e'⟩:=h.val v List.mem_cons_self
    have:k∈([]:List Nat):=by
     rw[←e]
     exact List.mem_filter.2 ⟨List.mem_range.2 hk,by rw[decide_eq_true_eq,←e'];exact List.mem_cons_self⟩
    cases this
 ·intro e
  subst e
  have:=nd_le 0 g
  omega
end Evl.T
namespace Evl.T
open Go Evl
open Classical in
theorem piecesN(a:Sol)(ha:Lens a)(hr:Right a):∃(L:List (List Pl)) (v:Nat),v≤L.length∧(v=0↔L.length=0)∧Ev fun n=>Dspec_Pieces n a=some (v:Int)∧Dimpl_Pieces n a=some (v:Int)∧Dimpl_Cells n a true=some L∧Dimpl_Nothing n a=some ((v:Int)==0):=by
 obtain⟨L,c2,ci,g,hg,hE,hP⟩:=piecesR a ha hr
 refine⟨L,nd L.length g,nd_le _ _,nd_zero hg,(hP.and ((iSolidOk a).and (hE.ev.and (hasI hr.1).ev))).mono fun n ⟨⟨h1,h2⟩,h3,h4,h5⟩=>?_⟩
 obtain⟨_,h4⟩:=h4 (by have:=hr.2;omega)
 rw[decide_eq_true hr] at h3
 refine⟨h1,h2,?_,?_⟩
 ·unfold Dimpl_Cells Dimpl_Solid_cells
  rw[h3,Option.bind_some,Bool.not_true,frk_f,h4];rfl
 ·unfold Dimpl_Nothing Dimpl_Solid_has
  rw[h3,Option.bind_some,frk_t,h5,Option.bind_some]
  congr 1
  have hz:=nd_zero hg
  have hl:L.length=0↔¬In1 a:=by rw[List.length_eq_zero_iff];exact ci
  by_cases hi:In1 a
  ·have:nd L.length g≠0:=fun e=>absurd hi (hl.1 (hz.1 e))
   rw[decide_eq_true hi,Eq.comm,Bool.not_true,beq_eq_false_iff_ne]
   omega
  ·have:=hz.2 (hl.2 hi)
   rw[decide_eq_false hi,this];rfl
end Evl.T
namespace Evl.T
open Go Evl
def vl:List Int→Int
 | []=>0
 | d::l=>d+10000*vl l
def Dg (l:List Int):Prop:=∀d∈l,0≤d∧d≤9999
theorem Dg.head{d:Int}{l:List Int}(h:Dg (d::l)):0≤d∧d≤9999:=h d (by simp)
theorem Dg.tail{d:Int}{l:List Int}(h:Dg (d::l)):Dg l:=fun x hx=>h x (by simp[hx])
theorem Dg.cons{d:Int}{l:List Int}(h1:0≤d)(h2:d≤9999)(h:Dg l):Dg (d::l):=by
 intro x hx
 rcases List.mem_cons.1 hx with rfl | hx
 ·exact⟨h1,h2⟩
 ·exact h x hx
theorem Dg.nil:Dg []:=fun _ h=>absurd h (by simp)
theorem Dg.get{l:List Int}(h:Dg l){i:Nat}{d:Int}(hd:l[i]?=some d):0≤d∧d≤9999:=h d (List.mem_of_getElem? hd)
theorem Dg.take{l:List Int}(h:Dg l)(i:Nat):Dg (l.take i):=fun d hd=>h d (List.mem_of_mem_take hd)
theorem Dg.drop{l:List Int}(h:Dg l)(i:Nat):Dg (l.drop i):=fun d hd=>h d (List.mem_of_mem_drop hd)
theorem vl_nn:∀{l:List Int},Dg l→0≤vl l
 | [],_=>Int.le_refl _
 | d::l,h=>by have:=vl_nn h.tail;have:=h.head;unfold vl;omega
def dg (v:Nat):List Int:=if v=0 then [] else ((v % 10000:Nat):Int)::dg (v / 10000)
theorem dg_zero:dg 0=[]:=by rw[dg,if_pos rfl]
theorem dg_pos{v:Nat}(h:0<v):dg v=((v % 10000:Nat):Int)::dg (v / 10000):=by rw[dg,if_neg (by omega)]
theorem Dg_dg(v:Nat):Dg (dg v):=by
 induction v using Nat.strongRecOn with
 | ind v ih =>
  by_cases h:v=0
  ·subst h;rw[dg_zero];exact Dg.nil
  ·rw[dg_pos (by omega)];exact Dg.cons (by omega) (by omega) (ih _ (by omega))
theorem vl_dg(v:Nat):vl (dg v)=v:=by
 induction v using Nat.strongRecOn with
 | ind v ih =>
  by_cases h:v=0
  ·subst h;rw[dg_zero];rfl
  ·rw[dg_pos (by omega)];unfold vl;rw[ih _ (by omega)];omega
theorem dg_len:∀(k v:Nat),v<10000 ^ k→(dg v).length≤k
 | 0,v,h=>by
   have:v=0:=by simpa using h
   subst this;rw[dg_zero];exact Nat.le_refl 0
 | k+1,v,h=>by
  by_cases h0:v=0
  ·subst h0;rw[dg_zero];simp
  ·rw[dg_pos (by omega),List.length_cons]
   have:=dg_len k (v / 10000) (by rw[Nat.pow_succ] at h;omega)
   omega
theorem dg_len3{v:Nat}(h:v<1000000000000):(dg v).length≤3:=dg_len 3 v (by simpa using h)
theorem dg_mono{a b:Nat}(h:b≤a):(dg b).length≤(dg a).length:=by
 induction a using Nat.strongRecOn generalizing b with
 | ind a ih =>
  by_cases h0:b=0
  ·subst h0;rw[dg_zero];simp
  ·rw[dg_pos (v:=b) (by omega),dg_pos (v:=a) (by omega),List.length_cons,List.length_cons]
   have:=ih (a / 10000) (by omega) (b:=b / 10000) (by omega)
   omega
theorem dg_ne{v:Nat}:dg v≠[]↔0<v:=by
 constructor
 ·intro h
  by_cases h0:v=0
  ·subst h0;exact absurd dg_zero h
  ·omega
 ·intro h;rw[dg_pos h];simp
theorem dg_last(v:Nat):(dg v).getLast?≠some 0:=by
 induction v using Nat.strongRecOn with
 | ind v ih =>
  by_cases h:v=0
  ·subst h;rw[dg_zero];simp
  ·rw[dg_pos (by omega)]
   by_cases h2:v / 10000=0
   ·rw[h2,dg_zero];simp;omega
   ·have:=ih (v / 10000) (by omega)
    rw[dg_pos (v:=v / 10000) (by omega)] at this ⊢
    rw[List.getLast?_cons_cons];exact this
theorem dg_of:∀{l:List Int},Dg l→l.getLast?≠some 0→l=dg (vl l).toNat∧(l≠[]→0<vl l)
 | [],_,_=>⟨by show []=dg 0;rw[dg_zero],fun h=>absurd rfl h⟩
 | [d],h,hl=>by
  have hd:=h.head
  have h0:d≠0:=by simpa using hl
  have e:vl [d]=d:=by simp[vl]
  refine⟨?_,fun _=>by rw[e];omega⟩
  rw[e,dg_pos (by omega),show d.toNat / 10000=0 by omega,dg_zero]
  congr 1;omega
 | d::e::l,h,hl=>by
  rw[List.getLast?_cons_cons] at hl
  obtain⟨h1,h2⟩:=dg_of h.tail hl
  have h2:=h2 (by simp)
  have hd:=h.head
  have e1:vl (d::e::l)=d+10000*vl (e::l):=rfl
  refine⟨?_,fun _=>by omega⟩
  rw[e1,dg_pos (by omega),show (d+10000*vl (e::l)).toNat / 10000=(vl (e::l)).toNat by omega,←h1]
  congr 1;omega
theorem dg_of'{l:List Int}(h:Dg l)(hl:l.getLast?≠some 0){v:Nat}(hv:vl l=v):l=dg v:=by
 have:=(dg_of h hl).1;rw[hv] at this;exact this
theorem vl_app:∀(a b:List Int),vl (a++b)=vl a+10000 ^ a.length*vl b
 | [],b=>by simp[vl]
 | d::a,b=>by
  rw[List.cons_append];show d+10000*vl (a++b)=(d+10000*vl a)+10000 ^ (d::a).length*vl b;rw[vl_app a b,List.length_cons,Int.pow_succ,Int.mul_add]
  have:(10000:Int) ^ a.length*10000*vl b=10000*((10000:Int) ^ a.length*vl b):=by rw[Int.mul_comm ((10000:Int) ^ a.length) 10000,Int.mul_assoc]
  omega
theorem vl_lt:∀{l:List Int},Dg l→vl l<10000 ^ l.length
 | [],_=>by simp[vl]
 | d::l,h=>by
  have:=vl_lt h.tail;have:=h.head
  unfold vl;rw[List.length_cons,Int.pow_succ];omega
theorem vl_take_s{l:List Int}{i:Nat}{d:Int}(hd:l[i]?=some d):vl (l.take (i+1))=vl (l.take i)+10000 ^ i*d:=by
 have hi:=(List.getElem?_eq_some_iff.1 hd).1
 rw[List.take_add_one,hd,vl_app,List.length_take,Nat.min_eq_left (by omega)]
 simp[vl]
theorem vl_drop_s{l:List Int}{i:Nat}{d:Int}(hd:l[i]?=some d):vl (l.drop i)=d+10000*vl (l.drop (i+1)):=by
 obtain⟨hi,he⟩:=List.getElem?_eq_some_iff.1 hd
 rw[List.drop_eq_getElem_cons hi,he];rfl
theorem vl_drop_le{l:List Int}(h:Dg l):∀(i:Nat),vl (l.drop i)≤vl l:=by
 intro i
 induction i generalizing l with
 | zero=>exact Int.le_refl _
 | succ i ih =>
  cases l with
  | nil=>exact Int.le_refl _
  | cons d l =>
   have:=ih h.tail;have:=h.head;have:=vl_nn h.tail
   rw[List.drop_succ_cons]
   have e:vl (d::l)=d+10000*vl l:=rfl
   omega
theorem apB8{n:Nat}(h:n≤1000000):apB 8 n=true:=by
 simp only[apB,Bool.and_eq_true,decide_eq_true_eq];omega
theorem w64_prd{i:Nat}(h:i≤1000000):w64 (((i+1:Nat):Int)-1)=(i:Int):=by
 rw[w64_id (by omega) (by omega)];omega
theorem dec_t{p:Prop} [Decidable p](h:p):decide p=true:=by simp[h]
theorem dec_f{p:Prop} [Decidable p](h:¬p):decide p=false:=by simp[h]
theorem numStep(n:Nat)(t0:Bool)(t1:List Int)(b:Bool)(rec0:Int→Option Num)(a:Int) :
  Dspec_l1Num_2 n t0 t1 b rec0 a=frk (decide (a>0)) ((lget t1 (w64 (a-1))).bind fun v0=>frk (v0==0) (rec0 (w64 (a-1))) (Dspec_l1Num_1 n t0 t1 a b)) (Dspec_l1Num_1 n t0 t1 a b):=rfl
theorem numEnd(n:Nat)(t0:Bool)(l:List Int)(i:Nat)(b:Bool)(hi:i≤l.length)(hl:l.length≤1000) :
  Dspec_l1Num_1 n t0 l (i:Int) b=some ⟨t0&&decide (0<i),l.take i⟩:=by
 unfold Dspec_l1Num_1
 have hc:apB 8 (0+(l.take i).length)=true:=apB8 (by rw[List.length_take];omega)
 rw[lsl_take _ _ hi]
 simp only[Option.bind_some]
 rw[chk_eq hc,chk_eq hc]
 cases t0
 ·rw[frk_f];rfl
 ·rw[frk_t]
  have:decide ((i:Int)>0)=decide (0<i):=dec_iff (by omega)
  rw[this];simp
theorem numLoop(n:Nat)(t0 b:Bool)(l:List Int)(hD:Dg l)(hl:l.length≤1000){v:Nat}(hv:vl l=v):∀(i m:Nat),i≤l.length→vl (l.take i)=v→i<m →
  loopN (Dspec_l1Num_2 n t0 l b) m (i:Int)=some ⟨t0&&decide (0<v),dg v⟩:=by
 intro i
 induction i with
 | zero =>
  intro m _ h0 hm
  obtain⟨m,rfl⟩:∃j,m=j+1:=⟨m-1,by omega⟩
  have:v=0:=by simp[vl] at h0;omega
  subst this
  rw[loop_suc,numStep,dec_f (by simp),frk_f,numEnd n t0 l 0 b (by omega) hl,dg_zero]
  rfl
 | succ i ih =>
  intro m hi h0 hm
  obtain⟨m,rfl⟩:∃j,m=j+1:=⟨m-1,by omega⟩
  obtain⟨d,hd⟩:∃d,l[i]?=some d:=⟨l[i],List.getElem?_eq_getElem (by omega)⟩
  rw[loop_suc,numStep,dec_t (by omega),frk_t,w64_prd (by omega),lget_nat,hd,Option.bind_some]
  by_cases h:d=0
  ·subst h
   rw[show ((0:Int)==0)=true from rfl,frk_t]
   refine ih m (by omega) ?_ (by omega)
   rw[vl_take_s hd] at h0;omega
  ·rw[show (d==0)=false by simpa using h,frk_f,numEnd n t0 l (i+1) b hi hl]
   have hlast:(l.take (i+1)).getLast?≠some 0:=by
    rw[List.take_add_one,hd];simpa using h
   have e:=dg_of' (hD.take (i+1)) hlast h0
   have hp:=(dg_of (hD.take (i+1)) hlast).2 (by rw[List.take_add_one,hd];simp)
   rw[←e]
   have:decide (0<i+1)=decide (0<v):=dec_iff ⟨fun _=>by omega,fun _=>by omega⟩
   rw[this]
theorem numOk(n:Nat)(t0:Bool)(l:List Int)(hD:Dg l)(hl:l.length≤1000){v:Nat}(hv:vl l=v)(hn:l.length<n):Dspec_l1Num n t0 l=some ⟨t0&&decide (0<v),dg v⟩:=by
 unfold Dspec_l1Num
 exact numLoop n t0 false l hD hl hv l.length n (Nat.le_refl _) (by rw[List.take_length];exact hv) hn
theorem ofStep(n:Nat)(t0:Int)(b:Bool)(rec0:(Int×List Int)→Option Num)(t3:Int)(l:List Int) :
  Dspec_Of_2 n t0 b rec0 (t3,l)=frk (decide (t3>0)) (chk (apB 8 (l.length+1)) (rec0 (IntKind.u64.wrap (Int.tdiv t3 10000),(l++[w64 (Int.tmod t3 10000)])))) (Dspec_Of_1 n t0 b l):=rfl
theorem u64w{x:Int}(h:0≤x)(h2:x<18446744073709551616):IntKind.u64.wrap x=x:=by
 have:IntKind.u64.wrap x=x % 18446744073709551616:=rfl
 omega
theorem ofLoop(n:Nat)(t0:Int)(b:Bool):∀(v:Nat) (l:List Int) (m:Nat),v<18446744073709551616→l.length+(dg v).length≤1000→(dg v).length<m →
  loopN (Dspec_Of_2 n t0 b) m ((v:Int),l)=Dspec_Of_1 n t0 b (l++dg v):=by
 intro v
 induction v using Nat.strongRecOn with
 | ind v ih =>
  intro l m h0 h1 hm
  obtain⟨m,rfl⟩:∃j,m=j+1:=⟨m-1,by omega⟩
  rw[loop_suc,ofStep]
  by_cases h:v=0
  ·subst h;rw[dec_f (by simp),frk_f,dg_zero,List.append_nil]
  ·rw[dec_t (by omega),frk_t]
   rw[dg_pos (by omega)] at h1 hm ⊢
   rw[List.length_cons] at h1 hm
   rw[chk_eq (apB8 (by omega))]
   have e1:IntKind.u64.wrap (Int.tdiv (v:Int) 10000)=((v / 10000:Nat):Int):=by
    rw[Int.tdiv_eq_ediv_of_nonneg (by omega),u64w (by omega) (by omega)];omega
   have e2:w64 (Int.tmod (v:Int) 10000)=((v % 10000:Nat):Int):=by
    rw[Int.tmod_eq_emod_of_nonneg (by omega),w64_id (by omega) (by omega)];omega
   rw[e1,e2,ih (v / 10000) (by omega) _ m (by omega) (by rw[List.length_append,List.length_singleton];omega) (by omega),List.append_assoc]
   rfl
theorem ofOk(n:Nat)(x:Int)(h:x.natAbs<1000000000000)(hn:5≤n):Dspec_Of n x=some ⟨decide (x<0),dg x.natAbs⟩:=by
 have hl:=dg_len3 h
 have key:∀b,Dspec_Of_0 n x (x.natAbs:Int) b []=some ⟨decide (x<0),dg x.natAbs⟩:=by
  intro b
  unfold Dspec_Of_0
  rw[ofLoop n x b x.natAbs [] n (by omega) (by simp;omega) (by omega),List.nil_append]
  unfold Dspec_Of_1
  rw[numOk n _ _ (Dg_dg _) (by omega) (vl_dg _) (by omega),Option.bind_some]
  by_cases hx:x<0
  ·simp[hx];omega
  ·simp[hx]
 unfold Dspec_Of
 by_cases hx:x<0
 ·rw[dec_t hx,frk_t]
  have e:IntKind.u64.wrap ((IntKind.u64.wrap (w64 (0-(w64 (x+1)))))+1)=(x.natAbs:Int):=by
   rw[w64_id (x:=x+1) (by omega) (by omega),w64_id (by omega) (by omega),u64w (x:=0-(x+1)) (by omega) (by omega),u64w (by omega) (by omega)];omega
  rw[e,key];rw[dec_t hx]
 ·rw[dec_f hx,frk_f]
  have e:IntKind.u64.wrap x=(x.natAbs:Int):=by rw[u64w (by omega) (by omega)];omega
  rw[e,key];rw[dec_f hx]
theorem nokStep(n:Nat)(t3:Int)(g:Bool)(l:List Int)(rec0:Int→Option Bool)(a:Int) :
  Dspec_NumOk_2 n t3 g l rec0 a=frk (decide (a<t3)) (frk (decide (a≤120)) ((lget l a).bind fun v0=>(Dspec_l1In v0 0 9999).bind fun v1=>frk (!v1) (some false) (rec0 (w64 (a+1)))) (Dspec_NumOk_1 n t3 g l)) (Dspec_NumOk_1 n t3 g l):=rfl
theorem nokEnd(n:Nat)(g:Bool)(v:Nat)(hl:(dg v).length≤100)(hg:g=true→0<v):Dspec_NumOk_1 n ((dg v).length:Int) g (dg v)=some true:=by
 unfold Dspec_NumOk_1
 rw[dec_t (by omega),frk_t]
 by_cases h:v=0
 ·subst h
  rw[dg_zero]
  have:g=false:=by cases g with
   | false=>rfl
   | true=>have:=hg rfl;omega
  subst this;rfl
 ·have hp:=List.length_pos_iff.2 (dg_ne.2 (show 0<v by omega))
  obtain⟨k,hk⟩:∃k,(dg v).length=k+1:=⟨(dg v).length-1,by omega⟩
  have hla:=dg_last v
  rw[List.getLast?_eq_getElem?,hk] at hla
  obtain⟨d,hd⟩:∃d,(dg v)[k]?=some d:=⟨(dg v)[k],List.getElem?_eq_getElem (by omega)⟩
  rw[Nat.add_sub_cancel,hd] at hla
  have hd0:d≠0:=by simpa using hla
  rw[hk,show (((k+1:Nat):Int)==0)=false by simp;omega,frk_f,dec_t (by omega),frk_t,w64_prd (by omega),lget_nat,hd,Option.bind_some]
  simpa using hd0
theorem nokLoop(n:Nat)(g:Bool)(v:Nat)(hl:(dg v).length≤100)(hg:g=true→0<v):∀(k i m:Nat),i+k=(dg v).length→k<m →
  loopN (Dspec_NumOk_2 n ((dg v).length:Int) g (dg v)) m (i:Int)=some true:=by
 intro k
 induction k with
 | zero =>
  intro i m h0 hm
  obtain⟨m,rfl⟩:∃j,m=j+1:=⟨m-1,by omega⟩
  rw[loop_suc,nokStep,dec_f (by omega),frk_f,nokEnd n g v hl hg]
 | succ k ih =>
  intro i m h0 hm
  obtain⟨m,rfl⟩:∃j,m=j+1:=⟨m-1,by omega⟩
  obtain⟨d,hd⟩:∃d,(dg v)[i]?=some d:=⟨(dg v)[i],List.getElem?_eq_getElem (by omega)⟩
  have:=(Dg_dg v).get hd
  rw[loop_suc,nokStep,dec_t (by omega),frk_t,dec_t (by omega),frk_t,lget_nat,hd,Option.bind_some,sIn,Option.bind_some,rIn_iff.2 this,Bool.not_true,frk_f,w64_suc (by unfold big;omega)]
  exact ih (i+1) m (by omega) (by omega)
theorem nokOk(n:Nat)(g:Bool)(v:Nat)(hv:v<1000000000000)(hg:g=true→0<v)(hn:5≤n):Dspec_NumOk n ⟨g,dg v⟩=some true:=by
 have hl:=dg_len3 hv
 unfold Dspec_NumOk
 exact nokLoop n g v (by omega) hg (dg v).length 0 n (by omega) (by omega)
theorem magOk(n:Nat)(g:Bool)(v:Nat)(hv:v<1000000000000)(hg:g=true→0<v)(hn:5≤n):Dspec_l1Mag n ⟨g,dg v⟩=some (dg v):=by
 unfold Dspec_l1Mag;rw[nokOk n g v hv hg hn];rfl
theorem signOk(n:Nat)(g:Bool)(v:Nat)(hv:v<1000000000000)(hg:g=true→0<v)(hn:5≤n):Dspec_l1Sign n ⟨g,dg v⟩=some g:=by
 unfold Dspec_l1Sign;rw[nokOk n g v hv hg hn];rfl
end Evl.T
namespace Evl.T
open Go Evl
theorem cmpStep(n:Nat)(a b:List Int)(rec0:Int→Option Int)(i:Int) :
  Dspec_l1CmpMag_0 n a b rec0 i=frk (decide (i≥0)) ((lget a i).bind fun v0=>(lget b i).bind fun v1=>frk (v0 != v1) ((lget a i).bind fun v2=>(lget b i).bind fun v3=>frk (decide (v2<v3)) (some (-1)) (some 1)) (rec0 (w64 (i-1)))) (some 0):=rfl
theorem pow_step{x y P:Int}(hP:0≤P)(h:x<y):P*x+P≤P*y:=by
 have:P*(x+1)≤P*y:=Int.mul_le_mul_of_nonneg_left (by omega) hP
 rw[Int.mul_add,Int.mul_one] at this;exact this
theorem cmpLoop(n:Nat){a b:List Int}(ha:Dg a)(hb:Dg b)(hl:a.length=b.length)(hl2:a.length≤1000):∀(i m:Nat),i≤a.length→i<m →
  ∃r,loopN (Dspec_l1CmpMag_0 n a b) m ((i:Int)-1)=some r∧(r≥0↔vl (b.take i)≤vl (a.take i)):=by
 intro i
 induction i with
 | zero =>
  intro m _ hm
  obtain⟨m,rfl⟩:∃j,m=j+1:=⟨m-1,by omega⟩
  refine⟨0,?_,by simp[vl]⟩
  rw[loop_suc,cmpStep,dec_f (by omega),frk_f]
 | succ i ih =>
  intro m hi hm
  obtain⟨m,rfl⟩:∃j,m=j+1:=⟨m-1,by omega⟩
  obtain⟨x,hx⟩:∃d,a[i]?=some d:=⟨a[i],List.getElem?_eq_getElem (by omega)⟩
  obtain⟨y,hy⟩:∃d,b[i]?=some d:=⟨b[i],List.getElem?_eq_getElem (by omega)⟩
  have e:((i+1:Nat):Int)-1=(i:Int):=by omega
  rw[loop_suc,cmpStep,e,dec_t (by omega),frk_t,lget_nat,lget_nat,hx,hy,Option.bind_some,Option.bind_some]
  simp only[Option.bind_some]
  have p1:=vl_lt (ha.take i)
  have p2:=vl_lt (hb.take i)
  rw[List.length_take,Nat.min_eq_left (by omega)] at p1 p2
  have q1:=vl_nn (ha.take i)
  have q2:=vl_nn (hb.take i)
  have hP:(0:Int)≤10000 ^ i:=Int.pow_nonneg (by omega)
  rw[vl_take_s hx,vl_take_s hy]
  by_cases h:x=y
  ·subst h
   rw[show (x != x)=false by simp,frk_f,w64_id (by omega) (by omega)]
   obtain⟨r,h1,h2⟩:=ih m (by omega) (by omega)
   exact⟨r,h1,h2.trans (by omega)⟩
  ·rw[show (x != y)=true by simpa using h,frk_t]
   by_cases h2:x<y
   ·refine⟨-1,by rw[dec_t h2,frk_t],?_⟩
    have:=pow_step hP h2
    omega
   ·refine⟨1,by rw[dec_f h2,frk_f],?_⟩
    have:=pow_step hP (show y<x by omega)
    omega
theorem cmpOk(n:Nat)(a b:Nat)(hl:(dg a).length≤100)(hl2:(dg b).length≤100)(hn:101≤n):∃r,Dspec_l1CmpMag n (dg a) (dg b)=some r∧(r≥0↔b≤a):=by
 unfold Dspec_l1CmpMag
 by_cases h:(dg a).length=(dg b).length
 ·rw[show (((dg a).length:Int) != ((dg b).length:Int))=false by rw[h];simp,frk_f,w64_id (by omega) (by omega)]
  obtain⟨r,h1,h2⟩:=cmpLoop n (Dg_dg a) (Dg_dg b) h (by omega) (dg a).length n (Nat.le_refl _) (by omega)
  refine⟨r,h1,h2.trans ?_⟩
  rw[List.take_length,h,List.take_length,vl_dg,vl_dg];omega
 ·rw[show (((dg a).length:Int) != ((dg b).length:Int))=true by simpa using by omega,frk_t]
  by_cases h2:(dg a).length<(dg b).length
  ·refine⟨-1,by rw[dec_t (by omega),frk_t],?_⟩
   constructor
   ·intro h;omega
   ·intro h;have:=dg_mono h;omega
  ·refine⟨1,by rw[dec_f (by omega),frk_f],?_⟩
   constructor
   ·intro _
    by_cases hh:b≤a
    ·exact hh
    ·have:=dg_mono (show a≤b by omega);omega
   ·intro _;omega
theorem guessStep1(n:Nat)(a b:List Int)(rec0:Int×Int→Option Int)(t5 t6:Int) :
  Dspec_l1Guess_6 n a b rec0 (t5,t6)=frk (decide (t6≥0)) (frk (decide (t6≥(w64 ((b.length:Int)-3)))) ((lget a t6).bind fun v0=>rec0 (w64 ((w64 (t5*10000))+v0),w64 (t6-1))) (Dspec_l1Guess_1 n b t5 0 (w64 ((b.length:Int)-1)))) (Dspec_l1Guess_1 n b t5 0 (w64 ((b.length:Int)-1))):=rfl
theorem guessStep2(n:Nat)(b:List Int)(t5:Int)(rec1:Int×Int→Option Int)(t7 t8:Int) :
  Dspec_l1Guess_5 n b t5 rec1 (t7,t8)=frk (decide (t8≥0)) (frk (decide (t8≥(w64 ((b.length:Int)-3)))) ((lget b t8).bind fun v1=>rec1 (w64 ((w64 (t7*10000))+v1),w64 (t8-1))) (Dspec_l1Guess_3 n t5 t7 (decide ((b.length:Int)>3)))) (Dspec_l1Guess_3 n t5 t7 (decide ((b.length:Int)>3))):=rfl
theorem vl_small{a:List Int}(ha:Dg a)(hl:a.length≤3):vl a<1000000000000:=by
 have h:=vl_lt ha
 have:a.length=0∨a.length=1∨a.length=2∨a.length=3:=by omega
 rcases this with e | e | e | e <;> rw[e] at h <;> omega
theorem guessL1(n:Nat){a b:List Int}(ha:Dg a)(hl:a.length≤3)(hlb:b.length≤3):∀(i m:Nat),i≤a.length→i<m →
  loopN (Dspec_l1Guess_6 n a b) m (vl (a.drop i),(i:Int)-1)=Dspec_l1Guess_1 n b (vl a) 0 (w64 ((b.length:Int)-1)):=by
 intro i
 induction i with
 | zero =>
  intro m _ hm
  obtain⟨m,rfl⟩:∃j,m=j+1:=⟨m-1,by omega⟩
  rw[loop_suc,guessStep1,dec_f (by omega),frk_f];rfl
 | succ i ih =>
  intro m hi hm
  obtain⟨m,rfl⟩:∃j,m=j+1:=⟨m-1,by omega⟩
  obtain⟨x,hx⟩:∃d,a[i]?=some d:=⟨a[i],List.getElem?_eq_getElem (by omega)⟩
  have e:((i+1:Nat):Int)-1=(i:Int):=by omega
  have b1:=vl_small ha hl
  have b2:=vl_drop_le ha i
  have b3:=vl_nn (ha.drop i)
  have b4:=vl_nn (ha.drop (i+1))
  have b5:=ha.get hx
  have e2:=vl_drop_s hx
  rw[loop_suc,guessStep1,e,dec_t (by omega),frk_t,dec_t (by rw[w64_id (by omega) (by omega)];omega),frk_t,lget_nat,hx,Option.bind_some]
  rw[w64_id (x:=vl (a.drop (i+1))*10000) (by omega) (by omega),show vl (a.drop (i+1))*10000+x=vl (a.drop i) by omega,w64_id (x:=vl (a.drop i)) (by omega) (by omega),w64_id (x:=(i:Int)-1) (by omega) (by omega)]
  exact ih m (by omega) (by omega)
theorem guessL2(n:Nat){b:List Int}(ha:Dg b)(hl:b.length≤3)(t5:Int):∀(i m:Nat),i≤b.length→i<m →
  loopN (Dspec_l1Guess_5 n b t5) m (vl (b.drop i),(i:Int)-1)=Dspec_l1Guess_3 n t5 (vl b) false:=by
 intro i
 induction i with
 | zero =>
  intro m _ hm
  obtain⟨m,rfl⟩:∃j,m=j+1:=⟨m-1,by omega⟩
  rw[loop_suc,guessStep2,dec_f (by omega),frk_f,dec_f (by omega)];rfl
 | succ i ih =>
  intro m hi hm
  obtain⟨m,rfl⟩:∃j,m=j+1:=⟨m-1,by omega⟩
  obtain⟨x,hx⟩:∃d,b[i]?=some d:=⟨b[i],List.getElem?_eq_getElem (by omega)⟩
  have e:((i+1:Nat):Int)-1=(i:Int):=by omega
  have b1:=vl_small ha hl
  have b2:=vl_drop_le ha i
  have b3:=vl_nn (ha.drop i)
  have b4:=vl_nn (ha.drop (i+1))
  have b5:=ha.get hx
  have e2:=vl_drop_s hx
  rw[loop_suc,guessStep2,e,dec_t (by omega),frk_t,dec_t (by rw[w64_id (by omega) (by omega)];omega),frk_t,lget_nat,hx,Option.bind_some]
  rw[w64_id (x:=vl (b.drop (i+1))*10000) (by omega) (by omega),show vl (b.drop (i+1))*10000+x=vl (b.drop i) by omega,w64_id (x:=vl (b.drop i)) (by omega) (by omega),w64_id (x:=(i:Int)-1) (by omega) (by omega)]
  exact ih m (by omega) (by omega)
theorem guessOk(n a b:Nat)(ha:a<1000000000000)(hb:0<b)(hab:b≤a)(hn:5≤n):Dspec_l1Guess n (dg a) (dg b)=some ((a / b:Nat):Int):=by
 have l1:=dg_len3 ha
 have l2:=dg_len3 (show b<1000000000000 by omega)
 unfold Dspec_l1Guess
 rw[w64_id (by omega) (by omega)]
 have e1:=guessL1 n (b:=dg b) (Dg_dg a) l1 l2 (dg a).length n (Nat.le_refl _) (by omega)
 rw[List.drop_length] at e1
 have e1':loopN (Dspec_l1Guess_6 n (dg a) (dg b)) n ((0:Int),((dg a).length:Int)-1)=_:=e1
 rw[e1']
 unfold Dspec_l1Guess_1
 rw[w64_id (by omega) (by omega)]
 have e2:=guessL2 n (Dg_dg b) l2 (vl (dg a)) (dg b).length n (Nat.le_refl _) (by omega)
 rw[List.drop_length] at e2
 have e2':loopN (Dspec_l1Guess_5 n (dg b) (vl (dg a))) n ((0:Int),((dg b).length:Int)-1)=_:=e2
 rw[e2',vl_dg,vl_dg]
 unfold Dspec_l1Guess_3 Dspec_l1Guess_4
 rw[frk_f]
 have hq:0<a / b:=Nat.div_pos hab hb
 have hq2:a / b≤a:=Nat.div_le_self a b
 have e3:qt .i64 (a:Int) (b:Int)=some ((a / b:Nat):Int):=by
  unfold qt
  rw[if_neg (by omega),Int.tdiv_eq_ediv_of_nonneg (by omega)]
  have:IntKind.i64.wrap ((a:Int) / (b:Int))=((a / b:Nat):Int):=by
   have e:(a:Int) / (b:Int)=((a / b:Nat):Int):=by simp
   rw[e];exact w64_id (by omega) (by omega)
  rw[this]
 rw[e3]
 simp only[Option.bind_some]
 rw[dec_t (by omega),frk_t]
def subR:List Int→List Int→Int→List Int
 | [],_,_=>[]
 | x::xs,ys,c=>if x-c-ys.headD 0<0 then (x-c-ys.headD 0+10000)::subR xs ys.tail 1 else (x-c-ys.headD 0)::subR xs ys.tail 0
theorem hd_ok{ys:List Int}(h:Dg ys):0≤ys.headD 0∧ys.headD 0≤9999:=by
 cases ys with
 | nil=>simp
 | cons y ys=>exact h.head
theorem tl_ok{ys:List Int}(h:Dg ys):Dg ys.tail:=by
 cases ys with
 | nil=>exact Dg.nil
 | cons y ys=>exact h.tail
theorem vl_hd(ys:List Int):vl ys=ys.headD 0+10000*vl ys.tail:=by
 cases ys with
 | nil=>rfl
 | cons y ys=>rfl
theorem subR_Dg:∀(xs ys:List Int) (c:Int),Dg xs→Dg ys→0≤c→c≤1→Dg (subR xs ys c)
 | [],_,_,_,_,_,_=>Dg.nil
 | x::xs,ys,c,h1,h2,h3,h4=>by
  have:=h1.head;have:=hd_ok h2
  unfold subR
  split
  ·exact Dg.cons (by omega) (by omega) (subR_Dg xs ys.tail 1 h1.tail (tl_ok h2) (by omega) (by omega))
  ·exact Dg.cons (by omega) (by omega) (subR_Dg xs ys.tail 0 h1.tail (tl_ok h2) (by omega) (by omega))
theorem subR_vl:∀(xs ys:List Int) (c:Int),Dg xs→Dg ys→0≤c→c≤1→vl ys+c≤vl xs→vl (subR xs ys c)=vl xs-vl ys-c
 | [],ys,c,_,h2,h3,_,h5=>by
  have:=vl_nn h2
  have e:vl []=0:=rfl
  show vl []=_
  omega
 | x::xs,ys,c,h1,h2,h3,h4,h5=>by
  have:=h1.head;have:=hd_ok h2
  have e1:=vl_hd ys
  have e2:vl (x::xs)=x+10000*vl xs:=rfl
  unfold subR
  split
  ·have:=subR_vl xs ys.tail 1 h1.tail (tl_ok h2) (by omega) (by omega) (by omega)
   show x-c-ys.headD 0+10000+10000*vl (subR xs ys.tail 1)=_
   omega
  ·have:=subR_vl xs ys.tail 0 h1.tail (tl_ok h2) (by omega) (by omega) (by omega)
   show x-c-ys.headD 0+10000*vl (subR xs ys.tail 0)=_
   omega
theorem subR_len:∀(xs ys:List Int) (c:Int),(subR xs ys c).length=xs.length
 | [],_,_=>rfl
 | x::xs,ys,c=>by
  unfold subR
  split
  ·rw[List.length_cons,List.length_cons,subR_len]
  ·rw[List.length_cons,List.length_cons,subR_len]
theorem subStep(n:Nat)(a b:List Int)(rec0:Int×Int×List Int→Option (List Int))(t6 t7:Int)(l:List Int) :
  Dspec_l1SubMag_2 n a b rec0 (t6,t7,l)=frk (decide (t7<(a.length:Int))) ((lget a t7).bind fun v0=>frk (decide (t7<(b.length:Int))) ((lget b t7).bind fun v1=>Dspec_l1SubMag_0 n rec0 a b 0 t7 (w64 ((w64 (v0-t6))-v1)) (decide ((w64 ((w64 (v0-t6))-v1))<0)) l) (Dspec_l1SubMag_0 n rec0 a b 0 t7 (w64 (v0-t6)) (decide ((w64 (v0-t6))<0)) l)) (some l):=rfl
theorem subMid(n:Nat)(a b:List Int)(rec0:Int×Int×List Int→Option (List Int))(t:Int)(i:Nat)(l:List Int)(ht:-20000≤t)(ht2:t≤20000)(hl:l.length≤1000)(hi:i≤1000) :
  Dspec_l1SubMag_0 n rec0 a b 0 (i:Int) t (decide (t<0)) l=if t<0 then rec0 (1,((i+1:Nat):Int),l++[t+10000]) else rec0 (0,((i+1:Nat):Int),l++[t]):=by
 unfold Dspec_l1SubMag_0 Dspec_l1SubMag_1
 rw[chk_eq (apB8 (by omega)),chk_eq (apB8 (by omega)),w64_suc (by unfold big;omega),w64_id (x:=t+10000) (by omega) (by omega),frk_if]
 by_cases h:t<0
 ·rw[if_pos h,dec_t h,if_pos rfl]
 ·rw[if_neg h,dec_f h,if_neg (by decide)]
theorem subLoop(n:Nat){a b:List Int}(ha:Dg a)(hb:Dg b)(hl:a.length≤100):∀(k i m:Nat) (c:Int) (l:List Int),i+k=a.length→k<m→0≤c→c≤1→l.length=i →
  loopN (Dspec_l1SubMag_2 n a b) m (c,(i:Int),l)=some (l++subR (a.drop i) (b.drop i) c):=by
 intro k
 induction k with
 | zero =>
  intro i m c l h0 hm _ _ _
  obtain⟨m,rfl⟩:∃j,m=j+1:=⟨m-1,by omega⟩
  rw[loop_suc,subStep,dec_f (by omega),frk_f,show a.drop i=[] from List.drop_eq_nil_of_le (by omega)]
  show some l=some (l++[])
  rw[List.append_nil]
 | succ k ih =>
  intro i m c l h0 hm hc hc2 hll
  obtain⟨m,rfl⟩:∃j,m=j+1:=⟨m-1,by omega⟩
  obtain⟨x,hx⟩:∃d,a[i]?=some d:=⟨a[i],List.getElem?_eq_getElem (by omega)⟩
  obtain⟨hi,he⟩:=List.getElem?_eq_some_iff.1 hx
  have hxd:=ha.get hx
  have fin:∀y:Int,y=(b.drop i).headD 0→Dspec_l1SubMag_0 n (loopN (Dspec_l1SubMag_2 n a b) m) a b 0 (i:Int) (x-c-y) (decide (x-c-y<0)) l=some (l++subR (a.drop i) (b.drop i) c):=by
   intro y hy
   have hyd:=hd_ok (hb.drop i)
   rw[←hy] at hyd
   rw[subMid n a b _ (x-c-y) i l (by omega) (by omega) (by omega) (by omega),List.drop_eq_getElem_cons hi,he]
   unfold subR
   rw[←hy,List.tail_drop]
   by_cases h:x-c-y<0
   ·rw[if_pos h,if_pos h,ih (i+1) m 1 _ (by omega) (by omega) (by omega) (by omega) (by simp[hll]),List.append_assoc];rfl
   ·rw[if_neg h,if_neg h,ih (i+1) m 0 _ (by omega) (by omega) (by omega) (by omega) (by simp[hll]),List.append_assoc];rfl
  rw[loop_suc,subStep,dec_t (by omega),frk_t,lget_nat,hx,Option.bind_some]
  by_cases hb2:i<b.length
  ·obtain⟨y,hy⟩:∃d,b[i]?=some d:=⟨b[i],List.getElem?_eq_getElem hb2⟩
   have hyd:=hb.get hy
   rw[dec_t (by omega),frk_t,lget_nat,hy,Option.bind_some,w64_id (x:=x-c) (by omega) (by omega),w64_id (by omega) (by omega)]
   refine fin y ?_
   rw[List.drop_eq_getElem_cons hb2]
   have:=(List.getElem?_eq_some_iff.1 hy).2
   rw[this];rfl
  ·rw[dec_f (by omega),frk_f,w64_id (x:=x-c) (by omega) (by omega)]
   have:=fin 0 (by rw[show b.drop i=[] from List.drop_eq_nil_of_le (by omega)];rfl)
   rw[show x-c-0=x-c by omega] at this
   exact this
theorem subOk(n:Nat){a b:List Int}(ha:Dg a)(hb:Dg b)(hl:a.length≤100)(hv:vl b≤vl a)(hn:101≤n):∃r,Dspec_l1SubMag n a b=some r∧Dg r∧vl r=vl a-vl b∧r.length=a.length:=by
 refine⟨subR a b 0,?_,subR_Dg a b 0 ha hb (by omega) (by omega),?_,subR_len a b 0⟩
 ·unfold Dspec_l1SubMag
  exact subLoop n ha hb hl a.length 0 n 0 [] (by omega) (by omega) (by omega) (by omega) rfl
 ·have:=subR_vl a b 0 ha hb (by omega) (by omega) (by omega);omega
theorem mulStep1(n:Nat)(rec0:(Int×List Int)→Option (List Int))(t0 t1:List Int)(t6:Int)(rec1:(Int×Int×List Int)→Option (List Int))(t7 t8:Int)(l15:List Int) :
  Dspec_l1MulMag_1 n rec0 t0 t1 t6 rec1 (t7,t8,l15)=frk (decide (t8<(t1.length:Int))) ((lget t0 t6).bind fun v1=>(lget t1 t8).bind fun v2=>(lget l15 (w64 (t6+t8))).bind fun v3=>(lget l15 (w64 (t6+t8))).bind fun _v4=>rec1 (w64 (Int.tdiv (w64 ((w64 ((w64 (v1*v2))+v3))+t7)) 10000),w64 (t8+1),(l15.set (Int.toNat (w64 (t6+t8))) (Int.tmod (w64 ((w64 ((w64 (v1*v2))+v3))+t7)) 10000)))) (Dspec_l1MulMag_0 n rec0 t0 t1 t6 t7 l15):=rfl
theorem mulStep2(n:Nat)(t0 t1:List Int)(rec0:(Int×List Int)→Option (List Int))(t6:Int)(l15:List Int) :
  Dspec_l1MulMag_2 n t0 t1 rec0 (t6,l15)=frk (decide (t6<(t0.length:Int))) (loopN (Dspec_l1MulMag_1 n rec0 t0 t1 t6) n (0,0,l15)) (some l15):=rfl
theorem get_pre{α:Type}(p:List α)(k:Nat)(z:List α):(p++z)[p.length+k]?=z[k]?:=by
 rw[List.getElem?_append_right (by omega)];congr 1;omega
theorem set_pre{α:Type}(p:List α)(k:Nat)(z:List α)(x:α):(p++z).set (p.length+k) x=p++z.set k x:=by
 rw[List.set_append_right _ _ (by omega)];congr 2;omega
theorem mul_nn{x y:Int}(hx:0≤x∧x≤9999)(hy:0≤y∧y≤9999):0≤x*y∧x*y≤99980001:=by
 refine⟨Int.mul_nonneg hx.1 hy.1,?_⟩
 have h1:x*y≤9999*y:=Int.mul_le_mul_of_nonneg_right hx.2 hy.1
 omega
theorem mulCell(n:Nat)(rec0:(Int×List Int)→Option (List Int))(xs ys:List Int)(rec1:(Int×Int×List Int)→Option (List Int))(c:Int)(j:Nat)(p zs:List Int){x y z:Int}
  (hx:xs[p.length]?=some x) (hy:ys[j]?=some y) (hz:zs[j]?=some z) (hp:p.length≤1000) (hj:j≤1000)
  (bx:0≤x∧x≤9999) (by':0≤y∧y≤9999) (bz:0≤z∧z≤9999) (bc:0≤c∧c≤9999) :
  Dspec_l1MulMag_1 n rec0 xs ys (p.length:Int) rec1 (c,(j:Int),p++zs)=rec1 ((x*y+z+c) / 10000,((j+1:Nat):Int),p++zs.set j ((x*y+z+c) % 10000)):=by
 have hjl:j<ys.length:=(List.getElem?_eq_some_iff.1 hy).1
 have hb:=mul_nn bx by'
 have e:w64 ((p.length:Int)+(j:Int))=((p.length+j:Nat):Int):=by rw[w64_id (by omega) (by omega)];omega
 rw[mulStep1,dec_t (by omega),frk_t,lget_nat,hx,Option.bind_some,lget_nat,hy,Option.bind_some,e,lget_nat,get_pre,hz,Option.bind_some,Option.bind_some,Int.toNat_natCast,set_pre]
 rw[w64_id (x:=x*y) (by omega) (by omega),w64_id (x:=x*y+z) (by omega) (by omega),w64_id (x:=x*y+z+c) (by omega) (by omega),Int.tdiv_eq_ediv_of_nonneg (by omega),Int.tmod_eq_emod_of_nonneg (by omega),w64_id (by omega) (by omega),w64_suc (by unfold big;omega)]
theorem mulRow(n:Nat)(rec0:(Int×List Int)→Option (List Int))(xs:List Int)(y0 y1:Int)(m:Nat)(p zs:List Int){x z0 z1 z2:Int}
  (hx:xs[p.length]?=some x) (hp:p.length≤1000) (hm:3≤m)
  (bx:0≤x∧x≤9999) (by0:0≤y0∧y0≤9999) (by1:0≤y1∧y1≤9999) (bz0:0≤z0∧z0≤9999) (bz1:0≤z1∧z1≤9999) :
  ∃d0 d1 c,loopN (Dspec_l1MulMag_1 n rec0 xs [y0,y1] (p.length:Int)) m (0,0,p++z0::z1::z2::zs)=rec0 (((p.length+1:Nat):Int),p++d0::d1::c::zs) ∧
   (0≤d0∧d0≤9999)∧(0≤d1∧d1≤9999)∧(0≤c∧c≤9999)∧d0+10000*d1+100000000*c=x*y0+10000*(x*y1)+z0+10000*z1:=by
 obtain⟨m,rfl⟩:∃j,m=j+3:=⟨m-3,by omega⟩
 have h0:=mul_nn bx by0
 have h1:=mul_nn bx by1
 have s1:=mulCell n rec0 xs [y0,y1] (loopN (Dspec_l1MulMag_1 n rec0 xs [y0,y1] (p.length:Int)) (m+2)) 0 0 p (z0::z1::z2::zs) hx (y:=y0) rfl rfl hp (by omega) bx by0 bz0 (by omega)
 have s2:=mulCell n rec0 xs [y0,y1] (loopN (Dspec_l1MulMag_1 n rec0 xs [y0,y1] (p.length:Int)) (m+1)) ((x*y0+z0+0) / 10000) 1 p ((x*y0+z0+0) % 10000::z1::z2::zs) hx (y:=y1) rfl rfl hp (by omega) bx by1 bz1 (by omega)
 refine⟨(x*y0+z0+0) % 10000,(x*y1+z1+(x*y0+z0+0) / 10000) % 10000,(x*y1+z1+(x*y0+z0+0) / 10000) / 10000,?_,by omega,by omega,by omega,by omega⟩
 rw[loop_suc]
 refine s1.trans ?_
 rw[loop_suc]
 refine s2.trans ?_
 rw[loop_suc,mulStep1,dec_f (by show ¬(((1+1:Nat):Int)<((2:Nat):Int));omega),frk_f]
 unfold Dspec_l1MulMag_0
 have e:w64 ((p.length:Int)+(([y0,y1]:List Int).length:Int))=((p.length+2:Nat):Int):=by
  show w64 ((p.length:Int)+((2:Nat):Int))=_
  rw[w64_id (by omega) (by omega)];omega
 rw[e,lget_nat,get_pre,Int.toNat_natCast,set_pre,w64_suc (by unfold big;omega)]
 rfl
theorem mulLoop(n:Nat)(y0 y1:Int)(by0:0≤y0∧y0≤9999)(by1:0≤y1∧y1≤9999)(hn:3≤n){xs:List Int}(hD:Dg xs)(hl:xs.length≤100) :
  ∀(k m:Nat) (p:List Int) (z0 z1:Int),p.length+k=xs.length→k<m→0≤z0∧z0≤9999→0≤z1∧z1≤9999 →
  ∃r,loopN (Dspec_l1MulMag_2 n xs [y0,y1]) m ((p.length:Int),p++z0::z1::List.replicate k 0)=some (p++r)∧Dg r∧vl r=z0+10000*z1+vl (xs.drop p.length)*(y0+10000*y1)∧r.length=k+2:=by
 intro k
 induction k with
 | zero =>
  intro m p z0 z1 h0 hm b0 b1
  obtain⟨m,rfl⟩:∃j,m=j+1:=⟨m-1,by omega⟩
  refine⟨[z0,z1],?_,Dg.cons b0.1 b0.2 (Dg.cons b1.1 b1.2 Dg.nil),?_,rfl⟩
  ·rw[loop_suc,mulStep2,dec_f (by omega),frk_f];rfl
  ·rw[List.drop_eq_nil_of_le (by omega)];simp[vl]
 | succ k ih =>
  intro m p z0 z1 h0 hm b0 b1
  obtain⟨m,rfl⟩:∃j,m=j+1:=⟨m-1,by omega⟩
  obtain⟨x,hx⟩:∃d,xs[p.length]?=some d:=⟨xs[p.length],List.getElem?_eq_getElem (by omega)⟩
  have bx:=hD.get hx
  obtain⟨d0,d1,c,e1,q0,q1,q2,q3⟩:=mulRow n (loopN (Dspec_l1MulMag_2 n xs [y0,y1]) m) xs y0 y1 n p (List.replicate k 0) (z2:=0) hx (by omega) hn bx by0 by1 b0 b1
  obtain⟨r,r1,r2,r3,r4⟩:=ih m (p++[d0]) d1 c (by simp;omega) (by omega) q1 q2
  refine⟨d0::r,?_,Dg.cons q0.1 q0.2 r2,?_,by rw[List.length_cons,r4]⟩
  ·rw[loop_suc,mulStep2,dec_t (by omega),frk_t,List.replicate_succ,e1]
   have e2:(p++[d0]).length=p.length+1:=by simp
   rw[e2,List.append_assoc,List.append_assoc] at r1
   exact r1
  ·have e2:(p++[d0]).length=p.length+1:=by simp
   rw[e2] at r3
   rw[vl_drop_s hx]
   show d0+10000*vl r=_
   rw[r3]
   generalize vl (xs.drop (p.length+1))=V
   have e3:(x+10000*V)*(y0+10000*y1)=(x*y0+10000*(x*y1))+10000*(V*(y0+10000*y1)):=by
    rw[Int.add_mul,Int.mul_add,Int.mul_assoc 10000]
    congr 2
    rw[←Int.mul_assoc,Int.mul_comm x 10000,Int.mul_assoc]
   rw[e3]
   generalize V*(y0+10000*y1)=W
   omega
theorem mkB8{k:Int}(h:0≤k)(h2:k≤1000000):mkB k 8=true:=by
 simp only[mkB,Bool.and_eq_true,decide_eq_true_eq];omega
theorem mulOk(n:Nat)(y0 y1:Int)(by0:0≤y0∧y0≤9999)(by1:0≤y1∧y1≤9999){xs:List Int}(hD:Dg xs)(hl:xs.length≤100)(hn:101≤n) :
  ∃r,Dspec_l1MulMag n xs [y0,y1]=some r∧Dg r∧vl r=vl xs*(y0+10000*y1)∧r.length=xs.length+2:=by
 have e:w64 ((xs.length:Int)+(([y0,y1]:List Int).length:Int))=((xs.length+2:Nat):Int):=by
  show w64 ((xs.length:Int)+((2:Nat):Int))=_
  rw[w64_id (by omega) (by omega)];omega
 obtain⟨r,r1,r2,r3,r4⟩:=mulLoop n y0 y1 by0 by1 (by omega) hD hl xs.length n [] 0 0 (by simp) (by omega) (by omega) (by omega)
 refine⟨r,?_,r2,by rw[r3];show 0+10000*0+vl (xs.drop 0)*_=_;rw[List.drop_zero];omega,r4⟩
 unfold Dspec_l1MulMag
 rw[e,chk_eq (mkB8 (by omega) (by omega)),Int.toNat_natCast]
 exact r1
end Evl.T
namespace Evl.T
open Go Evl
theorem divStep0(n:Nat)(rec0:(Int×List Int×List Int)→Option ((List Int)×(List Int)))(t0 t1:List Int)(t8:Int)(rec1:(List Int×List Int)→Option ((List Int)×(List Int)))(l12 l29:List Int) :
  Dspec_l1DivMag_0 n rec0 t0 t1 t8 rec1 (l12,l29)=(Dspec_l1CmpMag n l29 t1).bind fun v4=>frk (decide (v4≥0)) ((Dspec_l1Guess n l29 t1).bind fun v5=>(lget l12 t8).bind fun v6=>(lget l12 t8).bind fun _v7=>(Dspec_l1MulMag n t1 [Int.tmod v5 10000,w64 (Int.tdiv v5 10000)]).bind fun v8=>(Dspec_l1Num n false v8).bind fun v9=>(Dspec_l1SubMag n l29 v9.D).bind fun v10=>(Dspec_l1Num n false v10).bind fun v11=>rec1 ((l12.set (Int.toNat t8) (w64 (v6+v5))),v11.D)) (rec0 (w64 (t8-1),l12,l29)):=rfl
theorem divStep1(n:Nat)(t0 t1:List Int)(rec0:(Int×List Int×List Int)→Option ((List Int)×(List Int)))(t8:Int)(l12 l13:List Int) :
  Dspec_l1DivMag_1 n t0 t1 rec0 (t8,l12,l13)=frk (decide (t8≥0)) ((lget t0 t8).bind fun v1=>chk (apB 8 (1+l13.length)) ((Dspec_l1Num n false ([v1]++l13)).bind fun v3=>loopN (Dspec_l1DivMag_0 n rec0 t0 t1 t8) n (l12,v3.D))) (some (l12,l13)):=rfl
theorem divOut(n:Nat)(rec0:(Int×List Int×List Int)→Option ((List Int)×(List Int)))(t0:List Int)(i:Nat)(q:List Int)(x b m:Nat)(hx:x<b)(hb:b<1000000000000)(hn:101≤n)(hi:i≤1000)(hm:1≤m) :
  loopN (Dspec_l1DivMag_0 n rec0 t0 (dg b) (i:Int)) m (q,dg x)=rec0 ((i:Int)-1,q,dg x):=by
 obtain⟨m,rfl⟩:∃j,m=j+1:=⟨m-1,by omega⟩
 obtain⟨r,h1,h2⟩:=cmpOk n x b (by have:=dg_len3 (show x<1000000000000 by omega);omega) (by have:=dg_len3 hb;omega) hn
 rw[loop_suc,divStep0,h1,Option.bind_some,dec_f (by omega),frk_f,w64_id (by omega) (by omega)]
theorem set_same{l:List Int}{i:Nat}(h:l[i]?=some 0):l.set i 0=l:=by
 apply List.ext_getElem?
 intro j
 rw[List.getElem?_set]
 split
 ·rename_i hj
  subst hj
  have:=(List.getElem?_eq_some_iff.1 h).1
  rw[if_pos this,h]
 ·rfl
theorem divIn(n:Nat)(rec0:(Int×List Int×List Int)→Option ((List Int)×(List Int)))(t0:List Int)(i:Nat)(q:List Int)(x b:Nat)(hx:x<1000000000000)(hb0:0<b)(hb:b<1000000000000)(hq:x / b≤9999)(hi:i≤1000)(hz:q[i]?=some 0)(hn:101≤n) :
  loopN (Dspec_l1DivMag_0 n rec0 t0 (dg b) (i:Int)) n (q,dg x)=rec0 ((i:Int)-1,q.set i ((x / b:Nat):Int),dg (x % b)):=by
 by_cases h:x<b
 ·rw[divOut n rec0 t0 i q x b n h hb hn hi (by omega),Nat.div_eq_of_lt h,Nat.mod_eq_of_lt h]
  rw[show ((0:Nat):Int)=0 from rfl,set_same hz]
 ·obtain⟨m,hm⟩:∃j,n=j+1:=⟨n-1,by omega⟩
  have l1:=dg_len3 hx
  have l2:=dg_len3 hb
  obtain⟨r,h1,h2⟩:=cmpOk n x b (by omega) (by omega) hn
  have hg:=guessOk n x b hx hb0 (by omega) (by omega)
  have hy0:(0:Int)≤((x / b:Nat):Int):=Int.natCast_nonneg _
  have hy:(0:Int)≤((x / b:Nat):Int)∧((x / b:Nat):Int)≤9999:=by omega
  obtain⟨P,p1,p2,p3,p4⟩:=mulOk n ((x / b:Nat):Int) 0 hy (by omega) (Dg_dg b) (by omega) hn
  have hmul:b*(x / b)≤x:=Nat.mul_div_le x b
  have hmod:x % b=x-b*(x / b):=by have:=Nat.div_add_mod x b;omega
  have p3':vl P=((b*(x / b):Nat):Int):=by
   rw[p3,vl_dg,show ((x / b:Nat):Int)+10000*0=((x / b:Nat):Int) by omega];exact(Int.natCast_mul _ _).symm
  have hP:=numOk n false P p2 (by omega) p3' (by omega)
  obtain⟨R,r1,r2,r3,r4⟩:=subOk n (Dg_dg x) (Dg_dg (b*(x / b))) (by omega) (by rw[vl_dg,vl_dg];omega) hn
  have r3':vl R=((x % b:Nat):Int):=by rw[r3,vl_dg,vl_dg];omega
  have hR:=numOk n false R r2 (by omega) r3' (by omega)
  have hgen:loopN (Dspec_l1DivMag_0 n rec0 t0 (dg b) (i:Int)) (m+1) (q,dg x)=rec0 ((i:Int)-1,q.set i ((x / b:Nat):Int),dg (x % b)):=by
   rw[loop_suc,divStep0,h1,Option.bind_some,dec_t (by omega),frk_t,hg,Option.bind_some,lget_nat,hz,Option.bind_some,Option.bind_some]
   have e1:Int.tmod ((x / b:Nat):Int) 10000=((x / b:Nat):Int):=by rw[Int.tmod_eq_emod_of_nonneg (by omega)];omega
   have e2:w64 (Int.tdiv ((x / b:Nat):Int) 10000)=0:=by rw[Int.tdiv_eq_ediv_of_nonneg (by omega),w64_id (by omega) (by omega)];omega
   rw[e1,e2,p1,Option.bind_some,hP,Option.bind_some]
   show ((Dspec_l1SubMag n (dg x) (dg (b*(x / b)))).bind _)=_
   rw[r1,Option.bind_some,hR,Option.bind_some]
   rw[w64_id (x:=0+((x / b:Nat):Int)) (by omega) (by omega),show (0:Int)+((x / b:Nat):Int)=((x / b:Nat):Int) by omega,Int.toNat_natCast]
   exact divOut n rec0 t0 i _ (x % b) b m (Nat.mod_lt _ hb0) hb hn hi (by omega)
  rw[←hm] at hgen
  exact hgen
theorem divLoop(n A b:Nat)(hA:A<1000000000000)(hb0:0<b)(hb:b<1000000000000)(hn:101≤n):∀(i m:Nat) (qh:List Int) (H:Nat),i≤(dg A).length→i<m→vl ((dg A).drop i)=H→Dg qh→vl qh=((H / b:Nat):Int) →
  ∃q,loopN (Dspec_l1DivMag_1 n (dg A) (dg b)) m ((i:Int)-1,List.replicate i 0++qh,dg (H % b))=some (q,dg (A % b))∧Dg q∧vl q=((A / b:Nat):Int)∧q.length=i+qh.length:=by
 have l1:=dg_len3 hA
 intro i
 induction i with
 | zero =>
  intro m qh H _ hm hH hD hv
  obtain⟨m,rfl⟩:∃j,m=j+1:=⟨m-1,by omega⟩
  rw[List.drop_zero,vl_dg] at hH
  have:A=H:=by omega
  subst this
  exact⟨qh,by rw[loop_suc,divStep1,dec_f (by omega),frk_f];rfl,hD,hv,by omega⟩
 | succ i ih =>
  intro m qh H hi hm hH hD hv
  obtain⟨m,rfl⟩:∃j,m=j+1:=⟨m-1,by omega⟩
  obtain⟨d,hd⟩:∃d,(dg A)[i]?=some d:=⟨(dg A)[i],List.getElem?_eq_getElem (by omega)⟩
  have hdb:=(Dg_dg A).get hd
  obtain⟨e,rfl⟩:∃e:Nat,d=e:=⟨d.toNat,by omega⟩
  have hlt:=Nat.mod_lt H hb0
  have hdm:=Nat.div_add_mod H b
  have hH':vl ((dg A).drop i)=((e+10000*H:Nat):Int):=by rw[vl_drop_s hd,hH];omega
  have hle:=vl_drop_le (Dg_dg A) i
  rw[hH',vl_dg] at hle
  have hmodle:H % b≤H:=Nat.mod_le H b
  have lr:=dg_len3 (show H % b<1000000000000 by omega)
  have hx:e+10000*(H % b)<1000000000000:=by omega
  have hsplit:e+10000*H=(e+10000*(H % b))+b*(10000*(H / b)):=by
   have:b*(10000*(H / b))=10000*(b*(H / b)):=by rw[←Nat.mul_assoc,Nat.mul_comm b 10000,Nat.mul_assoc]
   omega
  have hdiv:(e+10000*H) / b=(e+10000*(H % b)) / b+10000*(H / b):=by rw[hsplit,Nat.add_mul_div_left _ _ hb0]
  have hmod:(e+10000*H) % b=(e+10000*(H % b)) % b:=by rw[hsplit,Nat.add_mul_mod_self_left]
  have hq:(e+10000*(H % b)) / b≤9999:=by
   have:(e+10000*(H % b)) / b<10000:=by rw[Nat.div_lt_iff_lt_mul hb0];omega
   omega
  have hnum:=numOk n false ([(e:Int)]++dg (H % b)) (Dg.cons hdb.1 hdb.2 (Dg_dg _)) (by simp;omega) (v:=e+10000*(H % b)) (by show (e:Int)+10000*vl (dg (H % b))=_;rw[vl_dg];omega) (by simp;omega)
  have hz:(List.replicate (i+1) (0:Int)++qh)[i]?=some 0:=by
   rw[List.getElem?_append_left (by simp)];simp
  have hin:=divIn n (loopN (Dspec_l1DivMag_1 n (dg A) (dg b)) m) (dg A) i (List.replicate (i+1) 0++qh) (e+10000*(H % b)) b hx hb0 hb hq (by omega) hz hn
  have hset:(List.replicate (i+1) (0:Int)++qh).set i (((e+10000*(H % b)) / b:Nat):Int)=List.replicate i 0++((((e+10000*(H % b)) / b:Nat):Int)::qh):=by
   have e1:List.replicate (i+1) (0:Int)++qh=List.replicate i 0++(0::qh):=by
    rw[List.replicate_succ'];simp
   have e2:=set_pre (List.replicate i (0:Int)) 0 (0::qh) (((e+10000*(H % b)) / b:Nat):Int)
   rw[List.length_replicate] at e2
   rw[e1];exact e2
  have hy0:(0:Int)≤(((e+10000*(H % b)) / b:Nat):Int):=Int.natCast_nonneg _
  obtain⟨q,q1,q2,q3,q4⟩:=ih m ((((e+10000*(H % b)) / b:Nat):Int)::qh) (e+10000*H) (by omega) (by omega) hH' (Dg.cons hy0 (by omega) hD) (by
   show (((e+10000*(H % b)) / b:Nat):Int)+10000*vl qh=_
   rw[hv,hdiv];omega)
  refine⟨q,?_,q2,q3,by rw[q4,List.length_cons];omega⟩
  have ei:((i+1:Nat):Int)-1=(i:Int):=by omega
  rw[loop_suc,divStep1,ei,dec_t (by omega),frk_t,lget_nat,hd,Option.bind_some,chk_eq (apB8 (by omega)),hnum,Option.bind_some]
  refine hin.trans ?_
  rw[hset,←hmod]
  exact q1
theorem divOk(n A b:Nat)(hA:A<1000000000000)(hb0:0<b)(hb:b<1000000000000)(hn:101≤n) :
  ∃q,Dspec_l1DivMag n (dg A) (dg b)=some (q,dg (A % b))∧Dg q∧vl q=((A / b:Nat):Int)∧q.length≤3:=by
 have l1:=dg_len3 hA
 obtain⟨q,q1,q2,q3,q4⟩:=divLoop n A b hA hb0 hb hn (dg A).length n [] 0 (Nat.le_refl _) (by omega) (by rw[List.drop_length];rfl) Dg.nil (by simp[vl])
 refine⟨q,?_,q2,q3,by rw[q4];simpa using l1⟩
 unfold Dspec_l1DivMag
 rw[chk_eq (mkB8 (by omega) (by omega)),w64_id (by omega) (by omega),Int.toNat_natCast]
 rw[Nat.zero_mod,dg_zero,List.append_nil] at q1
 exact q1
theorem gcdStep(n:Nat)(rec0:(List Int×List Int)→Option (List Int))(t0 t1:List Int) :
  Dspec_l1Gcd_0 n rec0 (t0,t1)=frk (decide ((t1.length:Int)>0)) ((Dspec_l1DivMag n t0 t1).bind fun v0=>rec0 (t1,v0.2)) (some t0):=rfl
theorem gcdLoop(n:Nat)(hn:101≤n):∀(b a m:Nat),b<m→a<1000000000000→b<1000000000000→loopN (Dspec_l1Gcd_0 n) m (dg a,dg b)=some (dg (Nat.gcd a b)):=by
 intro b
 induction b using Nat.strongRecOn with
 | ind b ih =>
  intro a m hm ha hb
  obtain⟨m,rfl⟩:∃j,m=j+1:=⟨m-1,by omega⟩
  rw[loop_suc,gcdStep]
  by_cases h:b=0
  ·subst h;rw[dg_zero,dec_f (by simp),frk_f,Nat.gcd_zero_right]
  ·have hp:=List.length_pos_iff.2 (dg_ne.2 (show 0<b by omega))
   obtain⟨q,q1,-,-,-⟩:=divOk n a b ha (by omega) hb hn
   have hlt:=Nat.mod_lt a (show b>0 by omega)
   rw[dec_t (by omega),frk_t,q1,Option.bind_some]
   refine(ih (a % b) hlt b m (by omega) hb (by omega)).trans ?_
   rw[Nat.gcd_comm b,Nat.gcd_comm a,Nat.gcd_rec b a]
theorem gcd_lt{a b:Nat}(ha:a<1000000000000)(hb:b<1000000000000):Nat.gcd a b<1000000000000:=by
 by_cases h:b=0
 ·subst h;rw[Nat.gcd_zero_right];exact ha
 ·exact Nat.lt_of_le_of_lt (Nat.gcd_le_right a (by omega)) hb
theorem gcdOk(n:Nat)(g1 g2:Bool)(a b:Nat)(ha:a<1000000000000)(hb:b<1000000000000)(h1:g1=true→0<a)(h2:g2=true→0<b)(hbn:b<n)(hn:101≤n) :
  Dspec_Gcd n ⟨g1,dg a⟩ ⟨g2,dg b⟩=some ⟨false,dg (Nat.gcd a b)⟩:=by
 unfold Dspec_Gcd
 rw[magOk n g1 a ha h1 (by omega),Option.bind_some,magOk n g2 b hb h2 (by omega),Option.bind_some]
 unfold Dspec_l1Gcd
 rw[gcdLoop n hn b a n hbn ha hb,Option.bind_some,numOk n false _ (Dg_dg _) (by have:=dg_len3 (gcd_lt ha hb);omega) (vl_dg _) (by have:=dg_len3 (gcd_lt ha hb);omega)]
 rfl
def nm (x:Int):Num:=⟨decide (x<0),dg x.natAbs⟩
theorem ngStep(n:Nat)(t0:List Num)(b:Bool)(rec0:(Int×Bool×List Int)→Option Num)(t4:Int)(b3_0:Bool)(b3_1:List Int) :
  Dspec_l3NumGcd_0 n t0 b rec0 (t4,b3_0,b3_1)=frk (decide (t4<(t0.length:Int))) ((lget t0 t4).bind fun v1=>(Dspec_Gcd n (Num.mk b3_0 b3_1) v1).bind fun v2=>rec0 (w64 (t4+1),v2.Neg,v2.D)) (some (Num.mk b3_0 b3_1)):=rfl
theorem ngOne(n:Nat)(l:List Num)(b:Bool)(rec0:(Int×Bool×List Int)→Option Num)(i:Nat)(g:Nat){x:Int}(hx:l[i]?=some (nm x))(hg:g<1000000000000)(hb:x.natAbs<1000000000000)(hbn:x.natAbs<n)(hn:101≤n)(hi:i≤100) :
  Dspec_l3NumGcd_0 n l b rec0 ((i:Int),false,dg g)=rec0 (((i+1:Nat):Int),false,dg (Nat.gcd g x.natAbs)):=by
 have hil:=(List.getElem?_eq_some_iff.1 hx).1
 have hk:Dspec_Gcd n ⟨false,dg g⟩ (nm x)=_:=gcdOk n false (decide (x<0)) g x.natAbs hg hb (by simp) (by intro h;have:=of_decide_eq_true h;omega) hbn hn
 rw[ngStep,dec_t (by omega),frk_t,lget_nat,hx,Option.bind_some,hk,Option.bind_some,w64_suc (by unfold big;omega)]
def g4 (a b c d:Int):Nat:=Nat.gcd (Nat.gcd (Nat.gcd a.natAbs b.natAbs) c.natAbs) d.natAbs
theorem ngOk(n:Nat)(a b c d:Int)(ha:a.natAbs<1000000000000)(hb:b.natAbs<1000000000000)(hc:c.natAbs<1000000000000)(hd:d.natAbs<1000000000000)
  (na:a.natAbs<n) (nb:b.natAbs<n) (nc:c.natAbs<n) (nd:d.natAbs<n) (hn:101≤n):Dspec_l3NumGcd n [nm a,nm b,nm c,nm d]=some ⟨false,dg (g4 a b c d)⟩:=by
 unfold Dspec_l3NumGcd
 rw[ofOk n 0 (by decide) (by omega),Option.bind_some]
 obtain⟨m,hm⟩:∃j,n=j+5:=⟨n-5,by omega⟩
 have key:loopN (Dspec_l3NumGcd_0 n [nm a,nm b,nm c,nm d] false) (m+5) (((0:Nat):Int),false,dg 0)=some ⟨false,dg (g4 a b c d)⟩:=by
  rw[loop_suc,ngOne n _ _ _ 0 0 (x:=a) rfl (by omega) ha na hn (by omega),Nat.gcd_zero_left]
  rw[loop_suc,ngOne n _ _ _ 1 _ (x:=b) rfl ha hb nb hn (by omega)]
  rw[loop_suc,ngOne n _ _ _ 2 _ (x:=c) rfl (gcd_lt ha hb) hc nc hn (by omega)]
  rw[loop_suc,ngOne n _ _ _ 3 _ (x:=d) rfl (gcd_lt (gcd_lt ha hb) hc) hd nd hn (by omega)]
  rw[loop_suc,ngStep,dec_f (by show ¬(((3+1:Nat):Int)<((4:Nat):Int));omega),frk_f]
  rfl
 rw[←hm] at key
 exact key
theorem smallStep(n:Nat)(l:List Int)(b0:Bool)(b1:List Int)(rec0:(Int×Int)→Option (Int×Bool))(t5 t6:Int) :
  Dspec_Small_1 n l b0 b1 rec0 (t5,t6)=frk (decide (t6≥0)) (frk (decide (t5>922337203685477)) (some (0,false)) ((lget l t6).bind fun v1=>rec0 (IntKind.u64.wrap ((IntKind.u64.wrap (t5*10000))+(IntKind.u64.wrap v1)),w64 (t6-1)))) (Dspec_Small_0 n t5 b0 b1):=rfl
theorem smallLoop(n:Nat)(b0:Bool)(b1:List Int){a:List Int}(ha:Dg a)(hl:a.length≤3):∀(i m:Nat),i≤a.length→i<m →
  loopN (Dspec_Small_1 n a b0 b1) m (vl (a.drop i),(i:Int)-1)=Dspec_Small_0 n (vl a) b0 b1:=by
 intro i
 induction i with
 | zero =>
  intro m _ hm
  obtain⟨m,rfl⟩:∃j,m=j+1:=⟨m-1,by omega⟩
  rw[loop_suc,smallStep,dec_f (by omega),frk_f];rfl
 | succ i ih =>
  intro m hi hm
  obtain⟨m,rfl⟩:∃j,m=j+1:=⟨m-1,by omega⟩
  obtain⟨x,hx⟩:∃d,a[i]?=some d:=⟨a[i],List.getElem?_eq_getElem (by omega)⟩
  have e:((i+1:Nat):Int)-1=(i:Int):=by omega
  have b1':=vl_small ha hl
  have b2:=vl_drop_le ha i
  have b3:=vl_nn (ha.drop i)
  have b4:=vl_nn (ha.drop (i+1))
  have b5:=ha.get hx
  have e2:=vl_drop_s hx
  rw[loop_suc,smallStep,e,dec_t (by omega),frk_t,dec_f (by omega),frk_f,lget_nat,hx,Option.bind_some]
  rw[u64w (x:=vl (a.drop (i+1))*10000) (by omega) (by omega),u64w (x:=x) (by omega) (by omega),show vl (a.drop (i+1))*10000+x=vl (a.drop i) by omega,u64w (x:=vl (a.drop i)) (by omega) (by omega),w64_id (x:=(i:Int)-1) (by omega) (by omega)]
  exact ih m (by omega) (by omega)
theorem smallOk(n:Nat)(g:Bool)(v:Nat)(hv:v<1000000000000)(hg:g=true→0<v)(hn:5≤n):Dspec_Small n ⟨g,dg v⟩=some (if g then -(v:Int) else (v:Int),true):=by
 have l1:=dg_len3 hv
 unfold Dspec_Small
 rw[magOk n g v hv hg hn,Option.bind_some,dec_f (by omega),frk_f,w64_id (by omega) (by omega)]
 have e1:=smallLoop n g (dg v) (Dg_dg v) l1 (dg v).length n (Nat.le_refl _) (by omega)
 rw[List.drop_length] at e1
 have e1':loopN (Dspec_Small_1 n (dg v) g (dg v)) n ((0:Int),((dg v).length:Int)-1)=_:=e1
 rw[e1',vl_dg]
 unfold Dspec_Small_0
 rw[signOk n g v hv hg hn,Option.bind_some]
 cases g with
 | true =>
  have:=hg rfl
  rw[frk_t,dec_f (by omega),frk_f,u64w (by omega) (by omega),w64_id (x:=(v:Int)-1) (by omega) (by omega),w64_id (x:=0-((v:Int)-1)) (by omega) (by omega),w64_id (by omega) (by omega)]
  simp only[if_true];congr 2;omega
 | false =>
  rw[frk_f,dec_f (by omega),frk_f,w64_id (by omega) (by omega)];rfl
def pq (x:Int)(g:Nat):Int:=if x<0 then -((x.natAbs / g:Nat):Int) else ((x.natAbs / g:Nat):Int)
theorem compStep{β:Type}(n:Nat)(x:Int)(g:Nat)(hx:x.natAbs<1000000000000)(hg0:0<g)(hg:g<1000000000000)(hn:101≤n)(K:Int×Bool→Option β) :
  ((Dspec_l1DivMag n (dg x.natAbs) (dg g)).bind fun v5=>(Dspec_l1Num n (decide (x<0)) v5.1).bind fun v6=>(Dspec_Small n v6).bind K)=K (pq x g,true):=by
 obtain⟨q,q1,q2,q3,q4⟩:=divOk n x.natAbs g hx hg0 hg hn
 have hle:x.natAbs / g≤x.natAbs:=Nat.div_le_self _ _
 have h00:(0:Int)≤((x.natAbs / g:Nat):Int):=Int.natCast_nonneg _
 rw[q1,Option.bind_some,numOk n _ q q2 (by omega) q3 (by omega),Option.bind_some,smallOk n _ _ (by omega) (by simp) (by omega),Option.bind_some]
 congr 2
 unfold pq
 by_cases h:x<0
 ·by_cases h2:0<x.natAbs / g
  ·rw[dec_t h,dec_t h2,if_pos h];rfl
  ·rw[dec_t h,dec_f h2,if_pos h];simp only[Bool.and_false,Bool.false_eq_true,if_false];omega
 ·rw[dec_f h,if_neg h];rfl
def prim (a b c d:Int):Pl×Int :=
 if a=0∧b=0∧c=0 then (⟨0,0,0,0⟩,1)
 else if rIn (pq a (g4 a b c d)) (-500) 500&&(rIn (pq b (g4 a b c d)) (-500) 500&&(rIn (pq c (g4 a b c d)) (-500) 500&&rIn (pq d (g4 a b c d)) (-500) 500)) then (⟨pq a (g4 a b c d),pq b (g4 a b c d),pq c (g4 a b c d),pq d (g4 a b c d)⟩,0)
 else (⟨0,0,0,0⟩,2)
theorem g4_pos{a b c d:Int}(h:¬(a=0∧b=0∧c=0)):0<g4 a b c d:=by
 unfold g4
 apply Nat.pos_of_ne_zero
 intro h0
 have h1:=(Nat.gcd_eq_zero_iff.1 h0).1
 have h2:=Nat.gcd_eq_zero_iff.1 h1
 have h3:=Nat.gcd_eq_zero_iff.1 h2.1
 omega
theorem prim_body(n:Nat)(a b c d:Int)(ha:a.natAbs<1000000000000)(hb:b.natAbs<1000000000000)(hc:c.natAbs<1000000000000)(hd:d.natAbs<1000000000000)
  (na:a.natAbs<n) (nb:b.natAbs<n) (nc:c.natAbs<n) (nd:d.natAbs<n) (hn:101≤n) (h0:¬(a=0∧b=0∧c=0)):Dspec_Primitive_5 n a b c d 0 0 0 0=some (prim a b c d):=by
 have hp:=g4_pos (d:=d) h0
 have hg:g4 a b c d<1000000000000:=gcd_lt (gcd_lt (gcd_lt ha hb) hc) hd
 unfold prim
 rw[if_neg h0]
 unfold Dspec_Primitive_5
 have ea:Dspec_Of n a=some (nm a):=ofOk n a ha (by omega)
 have eb:Dspec_Of n b=some (nm b):=ofOk n b hb (by omega)
 have ec:Dspec_Of n c=some (nm c):=ofOk n c hc (by omega)
 have ed:Dspec_Of n d=some (nm d):=ofOk n d hd (by omega)
 rw[ea,Option.bind_some,eb,Option.bind_some,ec,Option.bind_some,ed,Option.bind_some,ngOk n a b c d ha hb hc hd na nb nc nd hn,Option.bind_some]
 refine(compStep n a (g4 a b c d) ha hp hg hn _).trans ?_
 rw[show (!(pq a (g4 a b c d),true).2)=false from rfl,frk_f,sIn,Option.bind_some]
 unfold Dspec_Primitive_1
 cases hA:rIn (pq a (g4 a b c d)) (-500) 500
 ·rfl
 rw[show (!true)=false from rfl,frk_f,chk_eq (apB8 (by simp)),show lget [nm a,nm b,nm c,nm d] 1=some (nm b) from rfl,Option.bind_some]
 refine(compStep n b (g4 a b c d) hb hp hg hn _).trans ?_
 rw[show (!(pq b (g4 a b c d),true).2)=false from rfl,frk_f,sIn,Option.bind_some]
 unfold Dspec_Primitive_2
 cases hB:rIn (pq b (g4 a b c d)) (-500) 500
 ·rfl
 rw[show (!true)=false from rfl,frk_f,chk_eq (apB8 (by simp)),show lget [nm a,nm b,nm c,nm d] 2=some (nm c) from rfl,Option.bind_some]
 refine(compStep n c (g4 a b c d) hc hp hg hn _).trans ?_
 rw[show (!(pq c (g4 a b c d),true).2)=false from rfl,frk_f,sIn,Option.bind_some]
 unfold Dspec_Primitive_3
 cases hC:rIn (pq c (g4 a b c d)) (-500) 500
 ·rfl
 rw[show (!true)=false from rfl,frk_f,chk_eq (apB8 (by simp)),show lget [nm a,nm b,nm c,nm d] 3=some (nm d) from rfl,Option.bind_some]
 refine(compStep n d (g4 a b c d) hd hp hg hn _).trans ?_
 rw[show (!(pq d (g4 a b c d),true).2)=false from rfl,frk_f,sIn,Option.bind_some]
 unfold Dspec_Primitive_4
 cases hE:rIn (pq d (g4 a b c d)) (-500) 500
 ·rfl
 rw[show (!true)=false from rfl,frk_f,chk_eq (apB8 (by simp))]
 rfl
theorem primOk(n:Nat)(a b c d:Int)(ha:a.natAbs<1000000000000)(hb:b.natAbs<1000000000000)(hc:c.natAbs<1000000000000)(hd:d.natAbs<1000000000000)
  (na:a.natAbs<n) (nb:b.natAbs<n) (nc:c.natAbs<n) (nd:d.natAbs<n) (hn:101≤n):Dspec_Primitive n a b c d=some (prim a b c d):=by
 unfold Dspec_Primitive
 by_cases h1:a=0
 ·by_cases h2:b=0
  ·by_cases h3:c=0
   ·subst h1;subst h2;subst h3;rfl
   ·have e:=prim_body n a b c d ha hb hc hd na nb nc nd hn (by omega)
    rw[show (a==0)=true by simpa using h1,frk_t,show (b==0)=true by simpa using h2,frk_t]
    rw[show (c==0)=false by simpa using h3]
    exact e
  ·have e:=prim_body n a b c d ha hb hc hd na nb nc nd hn (by omega)
   rw[show (a==0)=true by simpa using h1,frk_t,show (b==0)=false by simpa using h2,frk_f]
   exact e
 ·have e:=prim_body n a b c d ha hb hc hd na nb nc nd hn (by omega)
  rw[show (a==0)=false by simpa using h1,frk_f]
  exact e
end Evl.T
namespace Evl.T
open Go Evl
abbrev Cur:=List Int×Int×Int
def CurOk(c:Cur):Prop:=0≤c.2.1∧c.2.1≤c.1.length∧c.1.length≤1048576
theorem and255(a:Int):0≤bAnd .i64 a 255∧bAnd .i64 a 255≤255:=by
 unfold bAnd
 have h1:(BitVec.ofInt 64 a &&& BitVec.ofInt 64 255).toNat≤255:=by
  rw[BitVec.toNat_and]
  have e:(BitVec.ofInt 64 255).toNat=255:=by decide
  rw[e];exact Nat.and_le_right
 have h2:IntKind.i64.wrap (((BitVec.ofInt 64 a &&& BitVec.ofInt 64 255).toNat:Nat):Int)=(((BitVec.ofInt 64 a &&& BitVec.ofInt 64 255).toNat:Nat):Int):=w64_id (by omega) (by omega)
 show 0≤IntKind.i64.wrap (((BitVec.ofInt 64 a &&& BitVec.ofInt 64 255).toNat:Nat):Int)∧IntKind.i64.wrap (((BitVec.ofInt 64 a &&& BitVec.ofInt 64 255).toNat:Nat):Int)≤255
 rw[h2];omega
theorem byteOk{c:Cur}(h:CurOk c):∃v c',Dspec_l1Byte c=some (v,c')∧(0≤v∧v≤255)∧CurOk c':=by
 obtain⟨l,i,s⟩:=c
 obtain⟨h1,h2,h3⟩:=h
 simp only at h1 h2 h3
 unfold Dspec_l1Byte
 by_cases hi:i<(l.length:Int)
 ·rw[dec_t hi,frk_t]
  obtain⟨k,rfl⟩:∃k:Nat,i=k:=⟨i.toNat,by omega⟩
  have hg:lget l (k:Int)=some l[k]!:=by
   rw[lget_nat,List.getElem?_eq_getElem (by omega)]
   simp[List.getElem!_eq_getElem?_getD,List.getElem?_eq_getElem (show k<l.length by omega)]
  rw[hg,Option.bind_some,w64_suc (by unfold big;omega)]
  exact⟨_,_,rfl,and255 _,by simp only;omega,by simp only;omega,h3⟩
 ·rw[dec_f hi,frk_f]
  exact⟨_,_,rfl,and255 _,h1,h2,h3⟩
theorem belowOk{c:Cur}(h:CurOk c){a:Int}(h1:1≤a)(h2:a≤256):∃v c',Dspec_l1Below c a=some (v,c')∧(0≤v∧v<a)∧CurOk c':=by
 unfold Dspec_l1Below
 rw[dec_f (by omega),frk_f,dec_t h2,frk_t]
 obtain⟨v,c',e,hv,hc⟩:=byteOk h
 rw[e,Option.bind_some]
 unfold rm
 rw[if_neg (by omega),Option.bind_some]
 exact⟨_,_,rfl,⟨by simp only;rw[Int.tmod_eq_emod_of_nonneg hv.1];exact Int.emod_nonneg _ (by omega),by simp only;rw[Int.tmod_eq_emod_of_nonneg hv.1];exact Int.emod_lt_of_pos _ (by omega)⟩,hc⟩
theorem onceOk{c:Cur}(h:CurOk c){a:Int}(h1:1≤a)(h2:a≤256):∃v c',Dspec_l1Once c a=some (v,c')∧CurOk c':=by
 obtain⟨v,c',e,-,hc⟩:=belowOk h h1 h2
 unfold Dspec_l1Once
 rw[e,Option.bind_some]
 exact⟨_,_,rfl,hc⟩
theorem intOk{c:Cur}(h:CurOk c){l:List Int}(h1:1≤l.length)(h2:l.length≤256):∃v c',Dspec_l1Int c l=some (v,c')∧v∈l∧CurOk c':=by
 obtain⟨v,c',e,hv,hc⟩:=belowOk h (a:=(l.length:Int)) (by omega) (by omega)
 unfold Dspec_l1Int
 rw[e,Option.bind_some]
 obtain⟨k,rfl⟩:∃k:Nat,v=k:=⟨v.toNat,by omega⟩
 have hg:=List.getElem?_eq_getElem (show k<l.length by omega)
 rw[show lget l (k:Int)=some l[k] by rw[lget_nat,hg],Option.bind_some]
 exact⟨_,_,rfl,List.getElem_mem _,hc⟩
theorem coefOk{c:Cur}(h:CurOk c):∃v c',Dspec_l3Coef c=some (v,c')∧(-5≤v∧v≤5)∧CurOk c':=by
 obtain⟨v,c1,e,hv,hc⟩:=belowOk h (a:=11) (by omega) (by omega)
 unfold Dspec_l3Coef
 rw[e,Option.bind_some]
 obtain⟨w,c2,e2,hw,hc2⟩:=intOk hc (l:=[0,0,1,(-1),2,(-3),w64 (v-5)]) (by simp) (by simp)
 have e5:w64 (v-5)=v-5:=w64_id (by omega) (by omega)
 simp only[e2,Option.bind_some]
 refine⟨_,_,rfl,?_,hc2⟩
 rw[e5] at hw
 simp only[List.mem_cons,List.not_mem_nil,or_false] at hw
 omega
theorem pq_abs(x:Int)(g:Nat):(pq x g).natAbs=x.natAbs / g:=by
 unfold pq
 split
 ·rw[Int.natAbs_neg,Int.natAbs_natCast]
 ·rw[Int.natAbs_natCast]
theorem prim_right{a b c d:Int}(h:(prim a b c d).2=0):pOk (prim a b c d).1=true:=by
 unfold prim at h ⊢
 by_cases h0:a=0∧b=0∧c=0
 ·rw[if_pos h0] at h;cases h
 ·rw[if_neg h0] at h ⊢
  split at h
  ·rename_i hr
   rw[if_pos hr]
   simp only[Bool.and_eq_true] at hr
   have hp:=g4_pos (d:=d) h0
   have hgd:g4 a b c d ∣ Nat.gcd (Nat.gcd a.natAbs b.natAbs) c.natAbs:=Nat.gcd_dvd_left _ _
   have hdd:g4 a b c d ∣ d.natAbs:=Nat.gcd_dvd_right _ _
   have hcd:=Nat.dvd_trans hgd (Nat.gcd_dvd_right _ _)
   have hab:=Nat.dvd_trans hgd (Nat.gcd_dvd_left _ _)
   have had:=Nat.dvd_trans hab (Nat.gcd_dvd_left _ _)
   have hbd:=Nat.dvd_trans hab (Nat.gcd_dvd_right _ _)
   have nz:∀{x:Int},x≠0→g4 a b c d ∣ x.natAbs→pq x (g4 a b c d)≠0:=fun {x} hx hd e=>by
    have:=pq_abs x (g4 a b c d)
    rw[e] at this
    have h1:0<x.natAbs / g4 a b c d:=Nat.div_pos (Nat.le_of_dvd (by omega) hd) hp
    simp at this;omega
   have e1:decide (pq a (g4 a b c d)≠0∨pq b (g4 a b c d)≠0∨pq c (g4 a b c d)≠0)=true:=by
    apply decide_eq_true
    by_cases ha:a=0
    ·by_cases hb:b=0
     ·exact .inr (.inr (nz (fun e=>h0 ⟨ha,hb,e⟩) hcd))
     ·exact .inr (.inl (nz hb hbd))
    ·exact .inl (nz ha had)
   have e2:decide (Nat.gcd (Nat.gcd (pq a (g4 a b c d)).natAbs (pq b (g4 a b c d)).natAbs) (Nat.gcd (pq c (g4 a b c d)).natAbs (pq d (g4 a b c d)).natAbs)=1)=true:=by
    apply decide_eq_true
    rw[pq_abs,pq_abs,pq_abs,pq_abs]
    rw[Nat.gcd_div had hbd,Nat.gcd_div hcd hdd]
    have q1:g4 a b c d ∣ Nat.gcd a.natAbs b.natAbs:=Nat.dvd_gcd had hbd
    have q2:g4 a b c d ∣ Nat.gcd c.natAbs d.natAbs:=Nat.dvd_gcd hcd hdd
    rw[Nat.gcd_div q1 q2]
    have q3:Nat.gcd (Nat.gcd a.natAbs b.natAbs) (Nat.gcd c.natAbs d.natAbs)=g4 a b c d:=by unfold g4;rw[Nat.gcd_assoc (Nat.gcd a.natAbs b.natAbs)]
    rw[q3];exact Nat.div_self hp
   unfold pOk
   rw[hr.1,hr.2.1,hr.2.2.1,hr.2.2.2,e1,e2];rfl
  ·cases h
theorem drawP{a b c:Int}(ha:-5≤a∧a≤5)(hb:-5≤b∧b≤5)(hc:-5≤c∧c≤5){k:Cur}(h:CurOk k) :
  ∃p k',(∀n,1000≤n→Dspec_l3Draw_0 n a b c 0 0 0 0 k.1 k.2.1 k.2.2=some (p,k'))∧pOk p=true∧CurOk k':=by
 obtain⟨v,c1,e,hv,h1⟩:=belowOk (c:=(k.1,k.2.1,k.2.2)) h (a:=25) (by omega) (by omega)
 obtain⟨w,c2,e2,hw,h2⟩:=intOk h1 (l:=[0,1,(-1),2,(-4),w64 (v-12),500,(-500)]) (by simp) (by simp)
 have e5:w64 (v-12)=v-12:=w64_id (by omega) (by omega)
 have hw0:=hw
 rw[e5] at hw
 simp only[List.mem_cons,List.not_mem_nil,or_false] at hw
 have hw':-500≤w∧w≤500:=by omega
 have step:∀n,1000≤n→Dspec_l3Draw_0 n a b c 0 0 0 0 k.1 k.2.1 k.2.2=frk ((prim a b c w).2 != 0) (some ((Pl.mk 0 0 1 (-1)),c2)) (some ((prim a b c w).1,c2)):=by
  intro n hn
  unfold Dspec_l3Draw_0
  rw[e,Option.bind_some]
  simp only[e2,Option.bind_some]
  rw[primOk n a b c w (by omega) (by omega) (by omega) (by omega) (by omega) (by omega) (by omega) (by omega) (by omega),Option.bind_some]
 by_cases hz:(prim a b c w).2=0
 ·refine⟨_,_,fun n hn=>?_,prim_right hz,h2⟩
  rw[step n hn,show ((prim a b c w).2 != 0)=false by simpa using hz,frk_f]
 ·refine⟨⟨0,0,1,-1⟩,_,fun n hn=>?_,by decide,h2⟩
  rw[step n hn,show ((prim a b c w).2 != 0)=true by simpa using hz,frk_t]
theorem drawOk{k:Cur}(h:CurOk k):∃p k',(∀n,1000≤n→Dspec_l3Draw n k=some (p,k'))∧pOk p=true∧CurOk k':=by
 obtain⟨a,k1,e1,ha,h1⟩:=coefOk h
 obtain⟨b,k2,e2,hb,h2⟩:=coefOk h1
 obtain⟨c,k3,e3,hc,h3⟩:=coefOk h2
 obtain⟨o,k4,e4,h4⟩:=onceOk h3 (a:=2) (by omega) (by omega)
 have fin:∀{x y z:Int} {k5:Cur},(-5≤x∧x≤5)→(-5≤y∧y≤5)→(-5≤z∧z≤5)→CurOk k5→(∀n,Dspec_l3Draw n k=Dspec_l3Draw_0 n x y z 0 0 0 0 k5.1 k5.2.1 k5.2.2)→∃p k',(∀n,1000≤n→Dspec_l3Draw n k=some (p,k'))∧pOk p=true∧CurOk k':=by
  intro x y z k5 hx hy hz h5 he
  obtain⟨p,k',g1,g2,g3⟩:=drawP hx hy hz h5
  exact⟨p,k',fun n hn=>(he n).trans (g1 n hn),g2,g3⟩
 cases o with
 | false =>
  refine fin ha hb hc h4 fun n=>?_
  unfold Dspec_l3Draw
  simp only[e1,e2,e3,e4,Option.bind_some,frk_f]
 | true =>
  obtain⟨s,k5,e5,hs,h5⟩:=intOk h4 (l:=[1,(-1)]) (by simp) (by simp)
  have hs':-5≤s∧s≤5:=by simp only[List.mem_cons,List.not_mem_nil,or_false] at hs;omega
  obtain⟨o2,k6,e6,h6⟩:=onceOk h5 (a:=2) (by omega) (by omega)
  cases o2 with
  | true =>
   refine fin (x:=0) (z:=0) (by omega) hs' (by omega) h6 fun n=>?_
   unfold Dspec_l3Draw
   simp only[e1,e2,e3,e4,e5,e6,Option.bind_some,frk_t]
  | false =>
   obtain⟨o3,k7,e7,h7⟩:=onceOk h6 (a:=2) (by omega) (by omega)
   cases o3 with
   | true =>
    refine fin (x:=0) (y:=0) (by omega) (by omega) hs' h7 fun n=>?_
    unfold Dspec_l3Draw
    simp only[e1,e2,e3,e4,e5,e6,e7,Option.bind_some,frk_t,frk_f]
   | false =>
    refine fin (y:=0) (z:=0) hs' (by omega) (by omega) h7 fun n=>?_
    unfold Dspec_l3Draw
    simp only[e1,e2,e3,e4,e5,e6,e7,Option.bind_some,frk_t,frk_f]
end Evl.T
namespace Evl.T
open Go Evl
inductive Dp:Sol→Nat→Prop
 | leaf {i p d}:Dp (.mk i p []) d
 | node {i p a b d}:Dp a d→Dp b d→Dp (.mk i p [a,b]) (d+1)
theorem Dp.up{s:Sol}{d:Nat}(h:Dp s d):∀{k},d≤k→Dp s k:=by
 induction h with
 | leaf=>intro k _;exact .leaf
 | @node i p a b d _ _ iha ihb =>
  intro k hk
  obtain⟨k,rfl⟩:∃j,k=j+1:=⟨k-1,by omega⟩
  exact .node (iha (by omega)) (ihb (by omega))
end Evl.T
namespace Evl.T
open Go Evl
theorem sLeaf(b:Bool):Dspec_Leaf b=some (lfS b):=rfl
theorem iLeaf(b:Bool):Dimpl_Leaf b=some (lfS b):=rfl
end Evl.T
namespace Evl.T
open Go Evl
theorem any_gt(l:List Pl)(f:Pl→Bool):((List.range' 0 l.length).any fun i=>f (gt l i))=l.any f:=by
 rw[Bool.eq_iff_iff,List.any_eq_true,List.any_eq_true]
 constructor
 ·rintro⟨i,hi,h⟩
  have:i<l.length:=by simpa using hi
  exact⟨_,gt_mem this,h⟩
 ·rintro⟨x,hx,h⟩
  obtain⟨i,hi,e⟩:=List.getElem_of_mem hx
  refine⟨i,by simpa using hi,?_⟩
  have:=gt_some hi
  rw[List.getElem?_eq_getElem hi] at this
  rw[←Option.some.inj this,e];exact h
theorem all_any(l:List Pl)(f:Pl→Bool):l.all f=!l.any fun x=>!f x:=by
 induction l with
 | nil=>rfl
 | cons x l ih=>simp only[List.all_cons,List.any_cons,ih,Bool.not_or,Bool.not_not]
theorem all_mem{l:List Pl}(h:l.all pOk=true):∀q∈l,pOk q=true:=List.all_eq_true.1 h
theorem sRightL(l:List Pl)(hb:l.length≤big):Ev fun n=>Dspec_l6Right n l=some (l.all pOk&&decide ((l.length:Int)≤24)):=by
 refine(e_ge (l.length+502)).mono fun n hn=>?_
 have h:=search (F:=Dspec_l6Right_0 n l) (len:=l.length) (b:=fun i=>!pOk (gt l i)) (hit:=some false) (miss:=some (decide ((l.length:Int)≤24))) hb ?_ ?_ l.length 0 n (by omega) (by omega)
 ·show loopN _ _ _=_
  rw[show (0:Int)=((0:Nat):Int) from rfl,h,any_gt l fun x=>!pOk x,all_any]
  cases l.any fun x=>!pOk x <;> rfl
 ·intro rec i hi
  unfold Dspec_l6Right_0
  simp only[lt_dec hi,frk_t,lget_nat,gt_some hi,Option.bind_some,sPlaneOk n _ (by omega)]
  cases pOk (gt l i) <;> rfl
 ·intro rec
  unfold Dspec_l6Right_0
  simp only[lt_self,frk_f]
theorem iPlanesOk(l:List Pl)(hb:l.length≤big):Ev fun n=>Dimpl_planesOk n l=some (l.all pOk):=by
 refine(e_ge (l.length+502)).mono fun n hn=>?_
 have h:=search (F:=Dimpl_planesOk_0 n l (l.length:Int)) (len:=l.length) (b:=fun i=>!pOk (gt l i)) (hit:=some false) (miss:=some true) hb ?_ ?_ l.length 0 n (by omega) (by omega)
 ·show loopN _ _ _=_
  rw[show (0:Int)=((0:Nat):Int) from rfl,h,any_gt l fun x=>!pOk x,all_any]
  cases l.any fun x=>!pOk x <;> rfl
 ·intro rec i hi
  unfold Dimpl_planesOk_0
  simp only[lt_dec hi,frk_t,lget_nat,gt_some hi,Option.bind_some,iPlaneOk n _ (by omega)]
  cases pOk (gt l i) <;> rfl
 ·intro rec
  unfold Dimpl_planesOk_0
  simp only[lt_self,frk_f]
def opB (l:List Pl):Bool:=!(List.range' 0 l.length).any fun i=>wth (l.take i) (gt l i)
theorem sOpenL(l:List Pl)(hl:∀q∈l,PB q)(hb:l.length≤big):Ev fun n=>Dspec_l6Open n l=some (opB l):=by
 refine(e_ge (l.length+502)).mono fun n hn=>?_
 have e:opB l=!(List.range' 1 (l.length-1)).any fun i=>wth (l.take i) (gt l i):=by
  unfold opB
  cases l with
  | nil=>rfl
  | cons x l=>simp only[List.length_cons,List.range'_succ,List.any_cons,Nat.add_sub_cancel];rfl
 have hF:∀rec (i:Nat),i<l.length→Dspec_l6Open_0 n l rec (i:Int)=cond (wth (l.take i) (gt l i)) (some false) (rec (w64 ((i:Int)+1))):=by
  intro rec i hi
  unfold Dspec_l6Open_0
  simp only[lt_dec hi,frk_t,lget_nat,gt_some hi,Option.bind_some,lsl_take l i (by omega)]
  rw[sWith (l.take i) (gt l i) (fun q hq=>hl q (List.mem_of_mem_take hq)) (hl _ (gt_mem hi)) (by rw[List.length_take];omega) n (by rw[List.length_take];omega),Option.bind_some,frk_cond]
 have hE:∀rec,Dspec_l6Open_0 n l rec (l.length:Int)=some true:=by
  intro rec
  unfold Dspec_l6Open_0
  simp only[lt_self,frk_f]
 show loopN _ _ _=_
 cases hc:l with
 | nil =>
  obtain⟨m,rfl⟩:∃m,n=m+1:=⟨n-1,by omega⟩
  rw[loop_suc];rfl
 | cons x r =>
  rw[←hc]
  have hlen:l.length=r.length+1:=by rw[hc];rfl
  have h:=search (F:=Dspec_l6Open_0 n l) (len:=l.length) (b:=fun i=>wth (l.take i) (gt l i)) (hit:=some false) (miss:=some true) hb hF hE (l.length-1) 1 n (by omega) (by omega)
  rw[show (1:Int)=((1:Nat):Int) from rfl,h,e]
  cases (List.range' 1 (l.length-1)).any fun i=>wth (l.take i) (gt l i) <;> rfl
theorem iOpenL(l:List Pl)(hl:∀q∈l,PB q)(hb:l.length≤big):Ev fun n=>Dimpl_open n l=some (opB l):=by
 refine(e_ge (l.length+502)).mono fun n hn=>?_
 have h:=search (F:=Dimpl_open_0 n l l (l.length:Int)) (len:=l.length) (b:=fun i=>wth (l.take i) (gt l i)) (hit:=some false) (miss:=some true) hb ?_ ?_ l.length 0 n (by omega) (by omega)
 ·show loopN _ _ _=_
  rw[show (0:Int)=((0:Nat):Int) from rfl,h]
  unfold opB
  cases (List.range' 0 l.length).any fun i=>wth (l.take i) (gt l i) <;> rfl
 ·intro rec i hi
  unfold Dimpl_open_0
  simp only[lt_dec hi,frk_t,lget_nat,gt_some hi,Option.bind_some,lsl_take l i (by omega)]
  rw[iRoom (l.take i) (gt l i) (fun q hq=>hl q (List.mem_of_mem_take hq)) (hl _ (gt_mem hi)) (by rw[List.length_take];omega) n (by rw[List.length_take];omega),Option.bind_some,Bool.not_not,frk_cond]
 ·intro rec
  unfold Dimpl_open_0
  simp only[lt_self,frk_f]
theorem opn_of{l:List Pl}(h:opB l=true):Opn l:=by
 have key:∀k,k≤l.length→Opn (l.take k):=by
  intro k
  induction k with
  | zero=>intro _;exact .nil
  | succ k ih =>
   intro hk
   have e:l.take (k+1)=l.take k++[gt l k]:=by rw[List.take_add_one,gt_some (by omega)];rfl
   rw[e]
   refine .snoc (ih (by omega)) ?_
   unfold opB at h
   simp only[Bool.not_eq_true',List.any_eq_false] at h
   simpa using h k (by simp;omega)
 have:=key l.length (Nat.le_refl _)
 rwa [List.take_length] at this
theorem wth_mono{r l:List Pl}{p:Pl}(hs:r.Sublist l)(h:wth l p=false):wth r p=false:=by
 cases hr:wth r p with
 | false=>rfl
 | true =>
  have:wth l p=true:=by
   rw[wth_sub] at hr ⊢
   rcases hr with ⟨q,h1,h2⟩ | ⟨q,r,h1,h2⟩ | ⟨q,r,s,h1,h2⟩
   ·exact .inl ⟨q,h1.trans hs,h2⟩
   ·exact .inr (.inl ⟨q,r,h1.trans hs,h2⟩)
   ·exact .inr (.inr ⟨q,r,s,h1.trans hs,h2⟩)
  rw[h] at this;cases this
def cvK:List Pl→List Pl→List Pl
 | [],_=>[]
 | p::r,path=>if wth path (flp p) then cvK r path else p::cvK r (path++[p])
def cvN (p:Pl)(s:Sol):Sol:=.mk false p [s,lfS false]
def cvT (k:List Pl):Sol:=k.foldr cvN (lfS true)
def Cnd (path l:List Pl):Prop:=∀l1 p l2,l=l1++p::l2→∀s:List Pl,s.Sublist l1→wth (path++s) p=false
theorem Cnd.head{path l:List Pl}{p:Pl}(h:Cnd path (p::l)):wth path p=false:=by
 have:=h [] p l rfl [] (List.Sublist.refl _)
 simpa using this
theorem Cnd.tail{path l:List Pl}{p:Pl}(h:Cnd path (p::l)):Cnd path l:=fun l1 q l2 e s hs=>h (p::l1) q l2 (by rw[e];rfl) s (hs.cons p)
theorem Cnd.more{path l:List Pl}{p:Pl}(h:Cnd path (p::l)):Cnd (path++[p]) l:=fun l1 q l2 e s hs=>by
 have:=h (p::l1) q l2 (by rw[e];rfl) (p::s) (hs.cons_cons p)
 simpa using this
theorem cnd_of{l:List Pl}(h:Opn l):Cnd [] l:=fun l1 p l2 e s hs=>by
 obtain⟨l',h1,h2⟩:=h.last (r:=s) (p:=p) (by
  rw[e,show l1++p::l2=(l1++[p])++l2 by simp]
  exact(hs.append (List.Sublist.refl _)).trans (List.sublist_append_left _ _))
 exact wth_mono h1 h2
theorem cvT_rt:∀(l path:List Pl),Cnd path l→(∀q∈l,pOk q=true)→path.length+l.length≤24→Rt (cvT (cvK l path)) path:=by
 intro l
 induction l with
 | nil=>intro path _ _ _;exact .leaf rfl
 | cons p l ih =>
  intro path hc hp hl
  simp only[List.length_cons] at hl
  rw[cvK]
  cases hw:wth path (flp p) with
  | true=>rw[if_pos rfl];exact ih path hc.tail (fun q hq=>hp q (by simp[hq])) (by omega)
  | false =>
   rw[if_neg (by simp)]
   exact .node (hp p (by simp)) (by omega) hc.head hw (ih _ hc.more (fun q hq=>hp q (by simp[hq])) (by rw[List.length_append,List.length_singleton];omega)) (.leaf rfl)
theorem cvK_len:∀(l path:List Pl),(cvK l path).length≤l.length:=by
 intro l
 induction l with
 | nil=>intro path;exact Nat.le_refl _
 | cons p l ih =>
  intro path
  rw[cvK]
  split
  ·have:=ih path;rw[List.length_cons];omega
  ·have:=ih (path++[p]);rw[List.length_cons,List.length_cons];omega
theorem cvT_nod:∀k:List Pl,nod (cvT k)=k.length:=by
 intro k
 induction k with
 | nil=>exact nod_leaf _ _
 | cons p k ih =>
  show nod (.mk false p [cvT k,lfS false])=_
  rw[nod2,ih,show nod (lfS false)=0 from nod_leaf _ _,List.length_cons];omega
theorem cvT_right{l:List Pl}(ho:Opn l)(hp:∀q∈l,pOk q=true)(hl:l.length≤24):Right (cvT (cvK l [])):=by
 refine⟨cvT_rt l [] (cnd_of ho) hp (by simpa using hl),?_⟩
 rw[cvT_nod]
 have:=cvK_len l [];omega
theorem sCvStep(n:Nat)(self:List Pl×List Pl→Option Sol)(l path:List Pl)(rec:Int→Option Sol)(k:Nat)(p:Pl)(h1:k<l.length)(h2:l[k]?=some p):Dspec_l9Convex_2 n self l path false 0 0 0 0 rec (k:Int) =
  ((Dspec_l3Flip p).bind fun v1=>(Dspec_l6With n path v1).bind fun v2=>frk (!v2) ((Dspec_l6With n path p).bind fun v4=>frk (!v4) ((lsl l (w64 ((k:Int)+1)) (l.length:Int)).bind fun v6=>(Dspec_l8Path path p).bind fun v8=>(self (v6,v8)).bind fun v9=>some (cvN p v9)) (rec (w64 ((k:Int)+1)))) (rec (w64 ((k:Int)+1)))):=by
 unfold Dspec_l9Convex_2
 dsimp only
 rw[lt_dec h1,frk_t,lget_nat,h2,Option.bind_some]
 unfold Dspec_l9Convex_0
 rw[lget_nat,h2]
 rfl
theorem sConvexIn:∀(r path:List Pl),Cnd path r→(∀q∈r,PB q)→(∀q∈path,PB q)→path.length+r.length≤24→E2 fun n m=>∀(l:List Pl) (k j:Nat),l.drop k=r→l.length≤24→r.length<j →
  loopN (Dspec_l9Convex_2 n (loopN (Dspec_l9Convex_b n) m) l path false 0 0 0 0) j (k:Int)=some (cvT (cvK r path)):=by
 intro r
 induction r with
 | nil =>
  intro path _ _ _ _
  refine E2.of fun n m l k j hr hl hj=>?_
  obtain⟨j,rfl⟩:∃i,j=i+1:=⟨j-1,by omega⟩
  have hk:l.length≤k:=List.drop_eq_nil_iff.1 hr
  have hd:decide ((k:Int)<(l.length:Int))=false:=decide_eq_false (by omega)
  rw[loop_suc]
  simp only[Dspec_l9Convex_2,hd,frk_f];rfl
 | cons p r ih =>
  intro path hc hp hpa hlen
  simp only[List.length_cons] at hlen
  have hpb:PB p:=hp p (by simp)
  have hw0:∀n:Nat,40≤n→Dspec_l6With n path (flp p)=some (wth path (flp p)):=fun n hn=>sWith path (flp p) hpa (flp_PB hpb) (by unfold big;omega) n (by omega)
  have hw1:∀n:Nat,40≤n→Dspec_l6With n path p=some false:=fun n hn=>by rw[sWith path p hpa hpb (by unfold big;omega) n (by omega),hc.head]
  cases hw:wth path (flp p) with
  | true =>
   have i1:=ih path hc.tail (fun q hq=>hp q (by simp[hq])) hpa (by omega)
   refine(i1.and (e2_ge 40)).mono fun n m ⟨i1,hn,_⟩ l k j hr hl hj=>?_
   simp only[List.length_cons] at hj
   obtain⟨j,rfl⟩:∃i,j=i+1:=⟨j-1,by omega⟩
   obtain⟨h1,h2,h3,-⟩:=drop_get hr
   rw[loop_suc]
   rw[sCvStep n _ l path _ k p h1 h2,sFlip p hpb,Option.bind_some,hw0 n hn,Option.bind_some,hw,Bool.not_true,frk_f,w64_suc (show k<big by unfold big;omega),i1 l (k+1) j h3 hl (by omega)]
   rw[cvK,hw,if_pos rfl]
  | false =>
   have i1:=ih (path++[p]) hc.more (fun q hq=>hp q (by simp[hq])) (path_PB hpa hpb) (by rw[List.length_append,List.length_singleton];omega)
   refine E2.suc ((i1.and (e2_ge 40)).mono fun n m ⟨i1,hn,_⟩ l k j hr hl hj=>?_)
   simp only[List.length_cons] at hj
   obtain⟨j,rfl⟩:∃i,j=i+1:=⟨j-1,by omega⟩
   obtain⟨h1,h2,h3,-⟩:=drop_get hr
   have hsl:lsl l ((k+1:Nat):Int) (l.length:Int)=some r:=by
    unfold lsl
    rw[if_pos ⟨by omega,by omega,by omega⟩,Int.toNat_natCast,Int.toNat_natCast,h3,List.take_of_length_le (by rw[←h3,List.length_drop];omega)]
   rw[loop_suc]
   rw[sCvStep n _ l path _ k p h1 h2,sFlip p hpb,Option.bind_some,hw0 n hn,Option.bind_some,hw,Bool.not_false,frk_t,hw1 n hn,Option.bind_some,Bool.not_false,frk_t,w64_suc (show k<big by unfold big;omega),hsl,Option.bind_some,sPath path p (by omega),Option.bind_some]
   rw[loop_suc]
   have this:loopN (Dspec_l9Convex_2 n (loopN (Dspec_l9Convex_b n) m) r (path++[p]) false 0 0 0 0) n 0=_:=i1 r 0 n rfl (by omega) (by omega)
   show ((loopN (Dspec_l9Convex_2 n (loopN (Dspec_l9Convex_b n) m) r (path++[p]) false 0 0 0 0) n 0).bind _)=_
   rw[this,Option.bind_some,cvK,hw,if_neg (by simp)]
   rfl
theorem sConvexT{l:List Pl}(ho:Opn l)(hp:∀q∈l,PB q)(hl:l.length≤24):Ev fun n=>Dspec_l9Convex n l []=some (cvT (cvK l [])):=by
 have:=sConvexIn l [] (cnd_of ho) hp (by simp) (by simpa using hl)
 have h2:E2 fun n m=>loopN (Dspec_l9Convex_b n) m (l,[])=some (cvT (cvK l [])):=by
  refine E2.suc ((this.and (e2_ge 40)).mono fun n m ⟨h,hn,_⟩=>?_)
  rw[loop_suc]
  exact h l 0 n rfl hl (by omega)
 exact h2.ev
theorem iConvexBack(n:Nat)(k:List Pl)(hk:k.length≤24):∀(i m:Nat) (s:Sol),i≤k.length→i<m→loopN (Dimpl_convex_1 n false 0 0 0 0 k) m ((i:Int)-1,s.inn,s.pl.A,s.pl.B,s.pl.C,s.pl.D,s.kids)=some ((k.take i).foldr cvN s):=by
 intro i
 induction i with
 | zero =>
  intro m s _ hm
  obtain⟨m,rfl⟩:∃j,m=j+1:=⟨m-1,by omega⟩
  rw[loop_suc]
  simp only[Dimpl_convex_1,sol_eq']
  rfl
 | succ i ih =>
  intro m s hi hm
  obtain⟨m,rfl⟩:∃j,m=j+1:=⟨m-1,by omega⟩
  have e1:(((i+1:Nat):Int)-1)=(i:Int):=by omega
  have e2:decide ((i:Int)≥0)=true:=decide_eq_true (by omega)
  have e3:w64 ((i:Int)-1)=(i:Int)-1:=w64_id (by omega) (by omega)
  have hg:k[i]?=some (gt k i):=gt_some (by omega)
  rw[loop_suc]
  simp only[Dimpl_convex_1,e1,e2,e3,frk_t,lget_nat,hg,Option.bind_some,iLeaf,sol_eq',Dimpl_nodeo1o2]
  have:=ih m (cvN (gt k i) s) (by omega) (by omega)
  unfold cvN at this
  simp only[Sol.inn,Sol.pl,Sol.kids] at this
  refine this.trans ?_
  rw[List.take_add_one,hg]
  simp only[Option.toList_some,List.foldr_append,List.foldr_cons,List.foldr_nil];rfl
theorem iConvexFor(n:Nat)(hn:80≤n)(l:List Pl)(hl:l.length≤24)(hp:∀q∈l,PB q):∀(r:List Pl) (k m:Nat) (acc:List Pl),l.drop k=r→(∀q∈acc,PB q)→acc.length+r.length≤24→r.length<m →
  loopN (Dimpl_convex_2 n l (l.length:Int) false 0 0 0 0) m ((k:Int),acc)=Dimpl_convex_0 n false 0 0 0 0 (acc++cvK r acc):=by
 intro r
 induction r with
 | nil =>
  intro k m acc hr ha hlen hm
  obtain⟨m,rfl⟩:∃j,m=j+1:=⟨m-1,by omega⟩
  have hk:l.length≤k:=List.drop_eq_nil_iff.1 hr
  have hd:decide ((k:Int)<(l.length:Int))=false:=decide_eq_false (by omega)
  rw[loop_suc]
  simp only[Dimpl_convex_2,hd,frk_f]
  rw[cvK,List.append_nil]
 | cons p r ih =>
  intro k m acc hr ha hlen hm
  simp only[List.length_cons] at hlen hm
  obtain⟨m,rfl⟩:∃j,m=j+1:=⟨m-1,by omega⟩
  obtain⟨h1,h2,h3,h4⟩:=drop_get hr
  have hpb:=hp p h4
  have hr0:=iRoom acc (flp p) ha (flp_PB hpb) (by unfold big;omega) n (by omega)
  rw[loop_suc]
  simp only[Dimpl_convex_2,lt_dec h1,frk_t,lget_nat,h2,Option.bind_some,iFlip p hpb,hr0]
  rw[w64_suc (by unfold big;omega),cvK]
  cases hw:wth acc (flp p) with
  | true=>rw[Bool.not_true,frk_f,if_pos rfl];exact ih (k+1) m acc h3 ha (by omega) (by omega)
  | false =>
   have hap:apB 32 (acc.length+1)=true:=by simp only[apB,Bool.and_eq_true,decide_eq_true_eq];omega
   rw[Bool.not_false,frk_t,chk_eq hap,if_neg (by simp),ih (k+1) m (acc++[p]) h3 (path_PB ha hpb) (by rw[List.length_append,List.length_singleton];omega) (by omega)]
   rw[List.append_assoc];rfl
theorem iConvexT{l:List Pl}(hp:∀q∈l,PB q)(hl:l.length≤24):Ev fun n=>Dimpl_convex n l=some (cvT (cvK l [])):=by
 refine(e_ge 80).mono fun n hn=>?_
 have h:=iConvexFor n hn l hl hp l 0 n [] rfl (by simp) (by simpa using hl) (by omega)
 have h':loopN (Dimpl_convex_2 n l (l.length:Int) false 0 0 0 0) n (0,[])=_:=h
 show loopN _ n (0,[])=_
 rw[h',List.nil_append]
 have hk:=cvK_len l []
 have e:w64 (((cvK l []).length:Int)-1)=((cvK l []).length:Int)-1:=w64_id (by omega) (by omega)
 unfold Dimpl_convex_0
 rw[iLeaf,Option.bind_some,e]
 have:=iConvexBack n (cvK l []) (by omega) (cvK l []).length n (lfS true) (Nat.le_refl _) (by omega)
 rw[this,List.take_length];rfl
def cvR (l:List Pl):Sol×Int:=if !(l.all pOk&&decide ((l.length:Int)≤24)) then (lfS false,1) else if !opB l then (lfS false,2) else (cvT (cvK l []),0)
theorem sConvex(l:List Pl)(hb:l.length≤big):Ev fun n=>Dspec_Convex n l=some (cvR l):=by
 unfold cvR
 have e1:=sRightL l hb
 cases hc:(l.all pOk&&decide ((l.length:Int)≤24)) with
 | false =>
  refine e1.mono fun n h1=>?_
  simp only[Dspec_Convex,h1,hc,Option.bind_some,Bool.not_false,frk_t,if_true];rfl
 | true =>
  simp only[Bool.and_eq_true,decide_eq_true_eq] at hc
  have hp:∀q∈l,PB q:=fun q hq=>pOk_PB (all_mem hc.1 q hq)
  have hc':(l.all pOk&&decide ((l.length:Int)≤24))=true:=by simp only[Bool.and_eq_true,decide_eq_true_eq];exact hc
  have e2:=sOpenL l hp hb
  cases ho:opB l with
  | false =>
   refine(e1.and e2).mono fun n ⟨h1,h2⟩=>?_
   simp only[Dspec_Convex,h1,h2,hc',ho,sLeaf,Option.bind_some,Bool.not_true,Bool.not_false,frk_t,frk_f,if_true];rfl
  | true =>
   have e3:=sConvexT (opn_of ho) hp (by omega)
   refine(e1.and (e2.and e3)).mono fun n ⟨h1,h2,h3⟩=>?_
   simp only[Dspec_Convex,h1,h2,h3,hc',ho,Option.bind_some,Bool.not_true,frk_f];rfl
theorem iConvex(l:List Pl)(hb:l.length≤big):Ev fun n=>Dimpl_Convex n l=some (cvR l):=by
 unfold cvR
 have e1:=iPlanesOk l hb
 by_cases hl:(l.length:Int)≤24
 ·have hd:decide ((l.length:Int)>24)=false:=decide_eq_false (by omega)
  cases hc:l.all pOk with
  | false =>
   refine e1.mono fun n h1=>?_
   simp only[Dimpl_Convex,Dimpl_Convex_0,hd,h1,hc,Option.bind_some,Bool.not_false,Bool.false_and,frk_t,frk_f,if_true];rfl
  | true =>
   have hp:∀q∈l,PB q:=fun q hq=>pOk_PB (all_mem hc q hq)
   have e2:=iOpenL l hp hb
   have hdd:decide ((l.length:Int)≤24)=true:=decide_eq_true hl
   cases ho:opB l with
   | false =>
    refine(e1.and e2).mono fun n ⟨h1,h2⟩=>?_
    simp only[Dimpl_Convex,Dimpl_Convex_0,hd,h1,h2,hc,hdd,ho,Option.bind_some,Bool.not_true,Bool.not_false,Bool.true_and,frk_t,frk_f,if_true];rfl
   | true =>
    have e3:=iConvexT hp (by omega)
    refine(e1.and (e2.and e3)).mono fun n ⟨h1,h2,h3⟩=>?_
    simp only[Dimpl_Convex,Dimpl_Convex_0,hd,h1,h2,h3,hc,hdd,ho,Option.bind_some,Bool.not_true,Bool.true_and,frk_f];rfl
 ·have hd:decide ((l.length:Int)>24)=true:=decide_eq_true (by omega)
  have hdd:decide ((l.length:Int)≤24)=false:=decide_eq_false hl
  refine Ev.of fun n=>?_
  simp only[Dimpl_Convex,hd,hdd,frk_t,Bool.and_false,Bool.not_false,if_true];rfl
theorem lf_right(b:Bool):Right (lfS b):=⟨.leaf rfl,by rw[show nod (lfS b)=0 from nod_leaf _ _];omega⟩
theorem cvR_right(l:List Pl):Right (cvR l).1:=by
 unfold cvR
 split
 ·exact lf_right _
 ·rename_i h
  split
  ·exact lf_right _
  ·rename_i h2
   simp only[Bool.not_eq_true',Bool.not_eq_false,Bool.and_eq_true,decide_eq_true_eq] at h h2
   exact cvT_right (opn_of h2) (all_mem h.1) (by omega)
end Evl.T
namespace Evl.T
open Go Evl
theorem newStep(n:Nat)(l:List Int)(rec0:(Int×Int)→Option Cur)(a b:Int):Dspec_l1New_1 n l rec0 (a,b)=frk (decide (b<(l.length:Int))) (Dspec_l1New_0 n rec0 l a b (decide (b<4000))) (some (l,0,a)):=rfl
theorem newLoop(l:List Int)(hl:l.length≤1048576):∀(k i:Nat) (a:Int),i+k=l.length→∃c,(∀n m,k<m→loopN (Dspec_l1New_1 n l) m (a,(i:Int))=some c)∧CurOk c:=by
 intro k
 induction k with
 | zero =>
  intro i a h
  refine⟨(l,0,a),fun n m hm=>?_,by show 0≤(0:Int);omega,by show (0:Int)≤(l.length:Int);omega,hl⟩
  obtain⟨m,rfl⟩:∃j,m=j+1:=⟨m-1,by omega⟩
  rw[loop_suc,newStep,dec_f (by omega),frk_f]
 | succ k ih =>
  intro i a h
  by_cases h4:(i:Int)<4000
  ·have hg:=List.getElem?_eq_getElem (show i<l.length by omega)
   obtain⟨c,g1,g2⟩:=ih (i+1) (bAnd .i64 (w64 ((w64 ((w64 (a*137))+(w64 l[i])))+11)) 1073741823) (by omega)
   refine⟨c,fun n m hm=>?_,g2⟩
   obtain⟨m,rfl⟩:∃j,m=j+1:=⟨m-1,by omega⟩
   rw[loop_suc,newStep,dec_t (by omega),frk_t]
   unfold Dspec_l1New_0
   rw[dec_t h4,frk_t,lget_nat,hg,Option.bind_some,w64_suc (by unfold big;omega)]
   exact g1 n m (by omega)
  ·refine⟨(l,0,a),fun n m hm=>?_,by show 0≤(0:Int);omega,by show (0:Int)≤(l.length:Int);omega,hl⟩
   obtain⟨m,rfl⟩:∃j,m=j+1:=⟨m-1,by omega⟩
   rw[loop_suc,newStep,dec_t (by omega),frk_t]
   unfold Dspec_l1New_0
   rw[dec_f h4,frk_f]
theorem newOk{l:List Int}(hl:l.length≤1048576):∃c,(∀n,l.length<n→Dspec_l1New n l=some c)∧CurOk c:=by
 obtain⟨c,g1,g2⟩:=newLoop l hl l.length 0 (w64 (142142+(l.length:Int))) (by omega)
 exact⟨c,fun n hn=>g1 n n hn,g2⟩
end Evl.T
namespace Evl.T
open Go Evl
theorem cellStep(n:Nat)(rec0:(Int×List Pl×Cur)→Option (List Pl×Cur))(t:Int)(l:List Pl)(k:Cur) :
  Dspec_l6Cell_1 n rec0 (t,l,k)=frk (decide (t>0)) ((Dspec_l3Draw n k).bind fun v3=>(Dspec_l6With n l v3.1).bind fun v4=>frk (!v4) (chk (apB 32 (l.length+1)) (rec0 (w64 (t-1),(l++[v3.1]),v3.2.1,v3.2.2.1,v3.2.2.2))) (rec0 (w64 (t-1),l,v3.2.1,v3.2.2.1,v3.2.2.2))) (some (l,k)):=rfl
theorem ap32{n:Nat}(h:n≤1000000):apB 32 n=true:=by
 simp only[apB,Bool.and_eq_true,decide_eq_true_eq];omega
theorem cellLoop{F:Nat→((Int×List Pl×Cur)→Option (List Pl×Cur))→(Int×List Pl×Cur)→Option (List Pl×Cur)}(hF:∀n rec0 t l k,F n rec0 (t,l,k)=Dspec_l6Cell_1 n rec0 (t,l,k)) :
  ∀(j:Nat) (l:List Pl) (k:Cur),(∀q∈l,PB q)→l.length+j≤100→CurOk k→∃l' k',(∀n m,1000≤n→j<m→loopN (F n) m ((j:Int),l,k)=some (l',k'))∧l'.length≤l.length+j∧CurOk k':=by
 intro j
 induction j with
 | zero =>
  intro l k hl hlen hk
  refine⟨l,k,fun n m hn hm=>?_,by omega,hk⟩
  obtain⟨m,rfl⟩:∃j,m=j+1:=⟨m-1,by omega⟩
  rw[loop_suc,hF,cellStep,dec_f (by omega),frk_f]
 | succ j ih =>
  intro l k hl hlen hk
  obtain⟨p,k1,e1,hp,h1⟩:=drawOk hk
  have hpb:=pOk_PB hp
  have e:w64 (((j+1:Nat):Int)-1)=(j:Int):=by rw[w64_id (by omega) (by omega)];omega
  cases hw:wth l p with
  | true =>
   obtain⟨l',k',g1,g2,g3⟩:=ih l k1 hl (by omega) h1
   refine⟨l',k',fun n m hn hm=>?_,by omega,g3⟩
   obtain⟨m,rfl⟩:∃j,m=j+1:=⟨m-1,by omega⟩
   rw[loop_suc,hF,cellStep,dec_t (by omega),frk_t,e1 n hn,Option.bind_some]
   simp only[sWith l p hl hpb (by unfold big;omega) n (by omega),Option.bind_some,e,hw,Bool.not_true,frk_f]
   exact g1 n m hn (by omega)
  | false =>
   obtain⟨l',k',g1,g2,g3⟩:=ih (l++[p]) k1 (path_PB hl hpb) (by simp;omega) h1
   refine⟨l',k',fun n m hn hm=>?_,by simp at g2;omega,g3⟩
   obtain⟨m,rfl⟩:∃j,m=j+1:=⟨m-1,by omega⟩
   rw[loop_suc,hF,cellStep,dec_t (by omega),frk_t,e1 n hn,Option.bind_some]
   simp only[sWith l p hl hpb (by unfold big;omega) n (by omega),Option.bind_some,e,hw,Bool.not_false,frk_t]
   rw[chk_eq (ap32 (by omega))]
   exact g1 n m hn (by omega)
theorem cellOk{k:Cur}(hk:CurOk k){a:Int}(h1:1≤a)(h2:a≤10):∃l k',(∀n,1000≤n→Dspec_l6Cell n k a=some (l,k'))∧(l.length:Int)≤5+a∧CurOk k':=by
 obtain⟨o,k1,e1,c1⟩:=onceOk hk (a:=4) (by omega) (by omega)
 cases o with
 | true =>
  obtain⟨v,k2,e2,hv,c2⟩:=belowOk (c:=(k1.1,k1.2.1,k1.2.2)) c1 (a:=a) h1 (by omega)
  obtain⟨j,rfl⟩:∃j:Nat,v=j:=⟨v.toNat,by omega⟩
  obtain⟨l',k',g1,g2,g3⟩:=cellLoop (F:=Dspec_l6Cell_3) (fun _ _ _ _ _=>rfl) j [] k2 (by simp) (by simp;omega) c2
  refine⟨l',k',fun n hn=>?_,by simp at g2;omega,g3⟩
  unfold Dspec_l6Cell Dspec_l6Cell_2
  simp only[e1,Option.bind_some,Bool.not_true,frk_f,e2]
  exact g1 n n hn (by omega)
 | false =>
  obtain⟨u,k2,e2,hu,c2⟩:=belowOk c1 (a:=5) (by omega) (by omega)
  obtain⟨v,k3,e3,hv,c3⟩:=belowOk (c:=(k2.1,k2.2.1,k2.2.2)) c2 (a:=a) h1 (by omega)
  obtain⟨j,rfl⟩:∃j:Nat,v=j:=⟨v.toNat,by omega⟩
  have w1:w64 (1+u)=1+u:=w64_id (by omega) (by omega)
  have w2:w64 (1+u+1)=1+u+1:=w64_id (by omega) (by omega)
  have bb:∀{x y z t:Int},(-500≤x∧x≤500)→(-500≤y∧y≤500)→(-500≤z∧z≤500)→(-500≤t∧t≤500)→PB ⟨x,y,z,t⟩:=fun {x y z t} h1 h2 h3 h4=>⟨(B.of (by omega) (by omega):B 500 x),(B.of (by omega) (by omega):B 500 y),(B.of (by omega) (by omega):B 500 z),(B.of (by omega) (by omega):B 500 t)⟩
  obtain⟨l',k',g1,g2,g3⟩:=cellLoop (F:=Dspec_l6Cell_1) (fun _ _ _ _ _=>rfl) j [⟨1,0,0,1+u⟩,⟨-1,0,0,1+u⟩,⟨0,1,0,1+u⟩,⟨0,-1,0,1+u+1⟩,⟨0,0,1,1+u⟩,⟨0,0,-1,1+u⟩] k3 (fun q hq=>by
   simp only[List.mem_cons,List.not_mem_nil,or_false] at hq
   rcases hq with rfl | rfl | rfl | rfl | rfl | rfl <;> exact bb (by omega) (by omega) (by omega) (by omega)) (by simp;omega) c3
  refine⟨l',k',fun n hn=>?_,by simp at g2;omega,g3⟩
  unfold Dspec_l6Cell Dspec_l6Cell_0
  simp only[e1,e2,Option.bind_some,Bool.not_false,frk_t,e3,w1,w2]
  exact g1 n n hn (by omega)
theorem cvT_dp:∀k:List Pl,Dp (cvT k) k.length
 | []=>.leaf
 | _::k=>.node (cvT_dp k) .leaf
theorem cvR_dp(l:List Pl):Dp (cvR l).1 l.length:=by
 unfold cvR
 split
 ·exact .leaf
 ·split
  ·exact .leaf
  ·exact(cvT_dp _).up (cvK_len l [])
end Evl.T
namespace Evl.T
open Go Evl
theorem cellLoopO{F:Nat→((Int×List Pl×Cur)→Option (List Pl×Cur))→(Int×List Pl×Cur)→Option (List Pl×Cur)}(hF:∀n rec0 t l k,F n rec0 (t,l,k)=Dspec_l6Cell_1 n rec0 (t,l,k)) :
  ∀(j:Nat) (l:List Pl) (k:Cur),(∀q∈l,pOk q=true)→Opn l→l.length+j≤100→CurOk k→∃l' k',(∀n m,1000≤n→j<m→loopN (F n) m ((j:Int),l,k)=some (l',k'))∧l'.length≤l.length+j∧(∀q∈l',pOk q=true)∧Opn l'∧CurOk k':=by
 intro j
 induction j with
 | zero =>
  intro l k hl ho hlen hk
  refine⟨l,k,fun n m hn hm=>?_,by omega,hl,ho,hk⟩
  obtain⟨m,rfl⟩:∃j,m=j+1:=⟨m-1,by omega⟩
  rw[loop_suc,hF,cellStep,dec_f (by omega),frk_f]
 | succ j ih =>
  intro l k hl ho hlen hk
  have hlb:∀q∈l,PB q:=fun q hq=>pOk_PB (hl q hq)
  obtain⟨p,k1,e1,hp,h1⟩:=drawOk hk
  have hpb:=pOk_PB hp
  have e:w64 (((j+1:Nat):Int)-1)=(j:Int):=by rw[w64_id (by omega) (by omega)];omega
  cases hw:wth l p with
  | true =>
   obtain⟨l',k',g1,g2,g3⟩:=ih l k1 hl ho (by omega) h1
   refine⟨l',k',fun n m hn hm=>?_,by omega,g3⟩
   obtain⟨m,rfl⟩:∃j,m=j+1:=⟨m-1,by omega⟩
   rw[loop_suc,hF,cellStep,dec_t (by omega),frk_t,e1 n hn,Option.bind_some]
   simp only[sWith l p hlb hpb (by unfold big;omega) n (by omega),Option.bind_some,e,hw,Bool.not_true,frk_f]
   exact g1 n m hn (by omega)
  | false =>
   obtain⟨l',k',g1,g2,g3⟩:=ih (l++[p]) k1 (fun q hq=>(List.mem_append.1 hq).elim (hl q) fun h=>by rw[List.mem_singleton.1 h];exact hp) (.snoc ho hw) (by simp;omega) h1
   refine⟨l',k',fun n m hn hm=>?_,by simp at g2;omega,g3⟩
   obtain⟨m,rfl⟩:∃j,m=j+1:=⟨m-1,by omega⟩
   rw[loop_suc,hF,cellStep,dec_t (by omega),frk_t,e1 n hn,Option.bind_some]
   simp only[sWith l p hlb hpb (by unfold big;omega) n (by omega),Option.bind_some,e,hw,Bool.not_false,frk_t]
   rw[chk_eq (ap32 (by omega))]
   exact g1 n m hn (by omega)
theorem cellOkO{k:Cur}(hk:CurOk k){a:Int}(h1:1≤a)(h2:a≤10):∃l k',(∀n,1000≤n→Dspec_l6Cell n k a=some (l,k'))∧(l.length:Int)≤5+a∧(∀q∈l,pOk q=true)∧Opn l∧CurOk k':=by
 obtain⟨o,k1,e1,c1⟩:=onceOk hk (a:=4) (by omega) (by omega)
 cases o with
 | true =>
  obtain⟨v,k2,e2,hv,c2⟩:=belowOk (c:=(k1.1,k1.2.1,k1.2.2)) c1 (a:=a) h1 (by omega)
  obtain⟨j,rfl⟩:∃j:Nat,v=j:=⟨v.toNat,by omega⟩
  obtain⟨l',k',g1,g2,g3⟩:=cellLoopO (F:=Dspec_l6Cell_3) (fun _ _ _ _ _=>rfl) j [] k2 (by simp) .nil (by simp;omega) c2
  refine⟨l',k',fun n hn=>?_,by simp at g2;omega,g3⟩
  unfold Dspec_l6Cell Dspec_l6Cell_2
  simp only[e1,Option.bind_some,Bool.not_true,frk_f,e2]
  exact g1 n n hn (by omega)
 | false =>
  obtain⟨u,k2,e2,hu,c2⟩:=belowOk c1 (a:=5) (by omega) (by omega)
  obtain⟨v,k3,e3,hv,c3⟩:=belowOk (c:=(k2.1,k2.2.1,k2.2.2)) c2 (a:=a) h1 (by omega)
  obtain⟨j,rfl⟩:∃j:Nat,v=j:=⟨v.toNat,by omega⟩
  have w1:w64 (1+u)=1+u:=w64_id (by omega) (by omega)
  have w2:w64 (1+u+1)=1+u+1:=w64_id (by omega) (by omega)
  have h6:(∀q∈([⟨1,0,0,1+u⟩,⟨-1,0,0,1+u⟩,⟨0,1,0,1+u⟩,⟨0,-1,0,1+u+1⟩,⟨0,0,1,1+u⟩,⟨0,0,-1,1+u⟩]:List Pl),pOk q=true)∧opB [⟨1,0,0,1+u⟩,⟨-1,0,0,1+u⟩,⟨0,1,0,1+u⟩,⟨0,-1,0,1+u+1⟩,⟨0,0,1,1+u⟩,⟨0,0,-1,1+u⟩]=true:=by
   have:u=0∨u=1∨u=2∨u=3∨u=4:=by omega
   rcases this with rfl | rfl | rfl | rfl | rfl <;> decide +kernel
  obtain⟨l',k',g1,g2,g3⟩:=cellLoopO (F:=Dspec_l6Cell_1) (fun _ _ _ _ _=>rfl) j [⟨1,0,0,1+u⟩,⟨-1,0,0,1+u⟩,⟨0,1,0,1+u⟩,⟨0,-1,0,1+u+1⟩,⟨0,0,1,1+u⟩,⟨0,0,-1,1+u⟩] k3 h6.1 (opn_of h6.2) (by simp;omega) c3
  refine⟨l',k',fun n hn=>?_,by simp at g2;omega,g3⟩
  unfold Dspec_l6Cell Dspec_l6Cell_0
  simp only[e1,e2,Option.bind_some,Bool.not_false,frk_t,e3,w1,w2]
  exact g1 n n hn (by omega)
end Evl.T
namespace Evl.T
open Go Evl
structure SpOk(q:Spot):Prop where
 w:1≤q.W∧q.W≤1000000000
 x:q.X.natAbs≤1000000000
 y:q.Y.natAbs≤1000000000
 z:q.Z.natAbs≤1000000000
 g:Nat.gcd (Nat.gcd (Nat.gcd q.X.natAbs q.Y.natAbs) q.Z.natAbs) q.W.natAbs=1
end Evl.T
namespace Evl.T
open Go Evl
theorem growLeaf(path:List Pl){k:Cur}(h:CurOk k) :
  ∃s k',(∀(n:Nat) (self:(Cur×List Pl×Int)→Option (Sol×Cur)),Dspec_l8Grow_2 n self false 0 0 0 0 k.1 k.2.1 k.2.2=some (s,k'))∧Rt s path∧nod s=0∧(∀d,Dp s d)∧CurOk k':=by
 obtain⟨b,k1,e,h1⟩:=onceOk (c:=(k.1,k.2.1,k.2.2)) h (a:=2) (by omega) (by omega)
 refine⟨_,_,fun n self=>?_,.leaf (i:=b) (p:=⟨0,0,0,0⟩) rfl,nod_leaf _ _,fun _=>.leaf,h1⟩
 unfold Dspec_l8Grow_2
 rw[e,Option.bind_some];rfl
theorem growStep(n:Nat)(self:(Cur×List Pl×Int)→Option (Sol×Cur))(path:List Pl)(t:Int)(rec0:(Int×Cur)→Option (Sol×Cur))(j:Int)(k:Cur) :
  Dspec_l8Grow_3 n self path t false 0 0 0 0 rec0 (j,k)=frk (decide (j<3)) (Dspec_l8Grow_0 n self rec0 path t false 0 0 0 0 j (decide (t>0)) k.1 k.2.1 k.2.2) (Dspec_l8Grow_2 n self false 0 0 0 0 k.1 k.2.1 k.2.2):=rfl
theorem growOk:∀(d:Nat) (path:List Pl) (t:Int) (k:Cur),path.length+d≤24→(∀q∈path,PB q)→t≤d→-1000≤t→CurOk k →
  ∃s k',(∀n m,1000≤n→d<m→loopN (Dspec_l8Grow_b n) m (k,path,t)=some (s,k'))∧Rt s path∧nod s+1≤2 ^ d∧Dp s d∧CurOk k':=by
 intro d
 induction d with
 | zero =>
  intro path t k hl hp ht ht2 hk
  obtain⟨s,k',e,hR,hN,hD,hk'⟩:=growLeaf path hk
  refine⟨s,k',fun n m hn hm=>?_,hR,by omega,hD _,hk'⟩
  obtain⟨m,rfl⟩:∃j,m=j+1:=⟨m-1,by omega⟩
  rw[loop_suc]
  show loopN (Dspec_l8Grow_3 n (loopN (Dspec_l8Grow_b n) m) path t false 0 0 0 0) n (0,k)=_
  have key:∀j,loopN (Dspec_l8Grow_3 n (loopN (Dspec_l8Grow_b n) m) path t false 0 0 0 0) (j+1) (0,k)=some (s,k'):=by
   intro j
   rw[loop_suc,growStep,dec_t (by omega),frk_t]
   unfold Dspec_l8Grow_0
   rw[dec_f (by omega),frk_f]
   exact e n _
  have:=key (n-1)
  rwa [show n-1+1=n by omega] at this
 | succ d ih =>
  intro path t k hl hp ht ht2 hk
  have hpow:2 ^ (d+1)=2 ^ d+2 ^ d:=by rw[Nat.pow_succ];omega
  have h2:1≤2 ^ d:=Nat.one_le_two_pow
  have tries:∀(r:Nat) (k:Cur),r≤3→CurOk k→∃s k',(∀n m f,1000≤n→d<m→r<f→loopN (Dspec_l8Grow_3 n (loopN (Dspec_l8Grow_b n) m) path t false 0 0 0 0) f (((3-r:Nat):Int),k)=some (s,k'))∧Rt s path∧nod s+1≤2 ^ (d+1)∧Dp s (d+1)∧CurOk k':=by
   intro r
   induction r with
   | zero =>
    intro k _ hk
    obtain⟨s,k',e,hR,hN,hD,hk'⟩:=growLeaf path hk
    refine⟨s,k',fun n m f hn hm hf=>?_,hR,by omega,hD _,hk'⟩
    obtain⟨f,rfl⟩:∃j,f=j+1:=⟨f-1,by omega⟩
    rw[loop_suc,growStep,dec_f (by omega),frk_f];exact e n _
   | succ r ihr =>
    intro k hr hk
    have hw3:w64 (((3-(r+1):Nat):Int)+1)=((3-r:Nat):Int):=by rw[w64_id (by omega) (by omega)];omega
    by_cases ht0:t>0
    ·obtain⟨p,k1,e1,hpo,h1⟩:=drawOk (k:=(k.1,k.2.1,k.2.2)) hk
     have hpb:=pOk_PB hpo
     have again:∀(hW:wth path p=true∨(wth path p=false∧wth path (flp p)=true)),∃s k',(∀n m f,1000≤n→d<m→r+1<f→loopN (Dspec_l8Grow_3 n (loopN (Dspec_l8Grow_b n) m) path t false 0 0 0 0) f (((3-(r+1):Nat):Int),k)=some (s,k'))∧Rt s path∧nod s+1≤2 ^ (d+1)∧Dp s (d+1)∧CurOk k':=by
      intro hW
      obtain⟨s,k',g1,g2,g3,g5,g4⟩:=ihr k1 (by omega) h1
      refine⟨s,k',fun n m f hn hm hf=>?_,g2,g3,g5,g4⟩
      obtain⟨f,rfl⟩:∃j,f=j+1:=⟨f-1,by omega⟩
      have g:=g1 n m f hn hm (by omega)
      rw[loop_suc,growStep,dec_t (by omega),frk_t]
      unfold Dspec_l8Grow_0
      rw[dec_t ht0,frk_t,hw3,e1 n hn,Option.bind_some]
      simp only[sWith path p hp hpb (by unfold big;omega) n (by omega),Option.bind_some]
      rcases hW with hw | ⟨hw,hw2⟩
      ·rw[hw,Bool.not_true,frk_f];exact g
      ·rw[hw,Bool.not_false,frk_t,sFlip p hpb,Option.bind_some,sWith path (flp p) hp (flp_PB hpb) (by unfold big;omega) n (by omega),Option.bind_some]
       unfold Dspec_l8Grow_1
       rw[hw2,Bool.not_true,frk_f];rw[hw3];exact g
     cases hw:wth path p with
     | true=>exact again (.inl hw)
     | false =>
      cases hw2:wth path (flp p) with
      | true=>exact again (.inr ⟨hw,hw2⟩)
      | false =>
       obtain⟨v,k2,e2,hv,h2'⟩:=belowOk (c:=(k1.1,k1.2.1,k1.2.2)) h1 (a:=2) (by omega) (by omega)
       have ev:w64 (w64 (t-1)-v)=t-1-v:=by rw[w64_id (x:=t-1) (by omega) (by omega),w64_id (by omega) (by omega)]
       obtain⟨x,k3,e3,hRx,hNx,hDx,h3⟩:=ih (path++[p]) (t-1-v) k2 (by simp;omega) (path_PB hp hpb) (by omega) (by omega) h2'
       obtain⟨u,k4,e4,hu,h4⟩:=belowOk h3 (a:=2) (by omega) (by omega)
       have eu:w64 (w64 (t-1)-u)=t-1-u:=by rw[w64_id (x:=t-1) (by omega) (by omega),w64_id (by omega) (by omega)]
       obtain⟨y,k5,e5,hRy,hNy,hDy,h5⟩:=ih (path++[flp p]) (t-1-u) k4 (by simp;omega) (path_PB hp (flp_PB hpb)) (by omega) (by omega) h4
       refine⟨.mk false p [x,y],k5,fun n m f hn hm hf=>?_,.node hpo (by omega) hw hw2 hRx hRy,by rw[nod2];omega,.node hDx hDy,h5⟩
       obtain⟨f,rfl⟩:∃j,f=j+1:=⟨f-1,by omega⟩
       rw[loop_suc,growStep,dec_t (by omega),frk_t]
       unfold Dspec_l8Grow_0
       rw[dec_t ht0,frk_t,e1 n hn,Option.bind_some]
       simp only[sWith path p hp hpb (by unfold big;omega) n (by omega),Option.bind_some]
       rw[hw,Bool.not_false,frk_t,sFlip p hpb,Option.bind_some,sWith path (flp p) hp (flp_PB hpb) (by unfold big;omega) n (by omega),Option.bind_some]
       unfold Dspec_l8Grow_1
       rw[hw2,Bool.not_false,frk_t]
       simp only[pl_eq]
       rw[sPath path p (by omega),Option.bind_some,e2,Option.bind_some]
       simp only[ev,e3 n m hn hm,Option.bind_some,sFlip p hpb,sPath path (flp p) (show path.length≤1000 by omega),e4,eu,e5 n m hn hm]
       rfl
    ·obtain⟨s,k',e,hR,hN,hD,hk'⟩:=growLeaf path hk
     refine⟨s,k',fun n m f hn hm hf=>?_,hR,by omega,hD _,hk'⟩
     obtain⟨f,rfl⟩:∃j,f=j+1:=⟨f-1,by omega⟩
     rw[loop_suc,growStep,dec_t (by omega),frk_t]
     unfold Dspec_l8Grow_0
     rw[dec_f ht0,frk_f];exact e n _
  obtain⟨s,k',g1,g2,g3,g5,g4⟩:=tries 3 k (by omega) hk
  refine⟨s,k',fun n m hn hm=>?_,g2,g3,g5,g4⟩
  obtain⟨m,rfl⟩:∃j,m=j+1:=⟨m-1,by omega⟩
  rw[loop_suc]
  exact g1 n m n hn (by omega) (by omega)
end Evl.T
namespace Evl.T
open Go Evl
theorem gcd_bd{a b k:Nat}(ha:a≤k)(hb:b≤k):Nat.gcd a b≤k:=by
 by_cases h:b=0
 ·subst h;rw[Nat.gcd_zero_right];exact ha
 ·exact Nat.le_trans (Nat.gcd_le_right a (by omega)) hb
theorem qtOk'{a b:Int}(hb:b≠0)(ha:a.natAbs≤1000000000):qt .i64 a b=some (a.tdiv b):=by
 unfold qt
 rw[if_neg hb]
 have:(a.tdiv b).natAbs≤a.natAbs:=by rw[Int.natAbs_tdiv];exact Nat.div_le_self _ _
 have e:IntKind.i64.wrap (a.tdiv b)=a.tdiv b:=w64_id (by omega) (by omega)
 rw[e]
theorem spotOf{a b c d:Int}(ha:a.natAbs≤1000000000)(hb:b.natAbs≤1000000000)(hc:c.natAbs≤1000000000)(hd:d.natAbs≤1000000000)(h0:d≠0) :
  ∃q,(∀n,1000000001≤n→Dspec_l5Spot n a b c d=some q)∧SpOk q:=by
 have u:∀{x:Int},x.natAbs≤1000000000→B 9223372036854775807 x:=fun h=>by unfold B;omega
 have b1:=gcd_bd ha hb
 have b2:=gcd_bd hc hd
 have hb3:=gcd_bd b1 b2
 have hG:Nat.gcd (Nat.gcd a.natAbs b.natAbs) (Nat.gcd c.natAbs d.natAbs)=g4 a b c d:=by unfold g4;rw[Nat.gcd_assoc (Nat.gcd a.natAbs b.natAbs)]
 rw[hG] at hb3
 have hp:0<g4 a b c d:=by
  unfold g4
  apply Nat.pos_of_ne_zero
  intro e
  have:=(Nat.gcd_eq_zero_iff.1 e).2
  omega
 have hgd:g4 a b c d ∣ Nat.gcd (Nat.gcd a.natAbs b.natAbs) c.natAbs:=Nat.gcd_dvd_left _ _
 have hdd:g4 a b c d ∣ d.natAbs:=Nat.gcd_dvd_right _ _
 have hcd:=Nat.dvd_trans hgd (Nat.gcd_dvd_right _ _)
 have hab:=Nat.dvd_trans hgd (Nat.gcd_dvd_left _ _)
 have had:=Nat.dvd_trans hab (Nat.gcd_dvd_left _ _)
 have hbd:=Nat.dvd_trans hab (Nat.gcd_dvd_right _ _)
 have fin:∀t:Int,t.natAbs=g4 a b c d→(0<d→0<t)→(d<0→t<0)→∃q,(∀n,Dspec_l5Spot_0 n a b c d t 0 0 0 0=some q)∧SpOk q:=by
  intro t ht hs1 hs2
  have t0:t≠0:=by omega
  have na:∀x:Int,(x.tdiv t).natAbs=x.natAbs / g4 a b c d:=fun x=>by rw[Int.natAbs_tdiv,ht];rfl
  have le:∀{x:Int},x.natAbs≤1000000000→(x.tdiv t).natAbs≤1000000000:=fun {x} h=>by rw[na];exact Nat.le_trans (Nat.div_le_self _ _) h
  refine⟨⟨a.tdiv t,b.tdiv t,c.tdiv t,d.tdiv t⟩,fun n=>?_,⟨?_,le ha,le hb,le hc,?_⟩⟩
  ·unfold Dspec_l5Spot_0
   rw[qtOk' t0 ha,Option.bind_some,qtOk' t0 hb,Option.bind_some,qtOk' t0 hc,Option.bind_some,qtOk' t0 hd,Option.bind_some]
  ·have h1:=le hd
   have hpos:0<(d.tdiv t).natAbs:=by rw[na];exact Nat.div_pos (Nat.le_of_dvd (by omega) hdd) hp
   have hnn:0≤d.tdiv t:=by
    rcases Int.lt_or_gt_of_ne h0 with h | h
    ·have:=hs2 h
     have e:d.tdiv t=(-d).tdiv (-t):=by rw[Int.neg_tdiv_neg]
     rw[e];exact Int.tdiv_nonneg (by omega) (by omega)
    ·have:=hs1 h;exact Int.tdiv_nonneg (by omega) (by omega)
   show 1≤d.tdiv t∧d.tdiv t≤1000000000
   omega
  ·show Nat.gcd (Nat.gcd (Nat.gcd (a.tdiv t).natAbs (b.tdiv t).natAbs) (c.tdiv t).natAbs) (d.tdiv t).natAbs=1
   rw[na,na,na,na,Nat.gcd_div had hbd]
   have q1:g4 a b c d ∣ Nat.gcd a.natAbs b.natAbs:=Nat.dvd_gcd had hbd
   rw[Nat.gcd_div q1 hcd,Nat.gcd_div hgd hdd]
   exact Nat.div_self hp
 have step:∀n,1000000001≤n→Dspec_l5Spot n a b c d=frk (decide (d<0)) (Dspec_l5Spot_0 n a b c d (w64 (0-((g4 a b c d:Nat):Int))) 0 0 0 0) (Dspec_l5Spot_0 n a b c d ((g4 a b c d:Nat):Int) 0 0 0 0):=by
  intro n hn
  have g1:=sGcd n a b (u ha) (u hb) (by omega)
  have g2:=sGcd n c d (u hc) (u hd) (by omega)
  have g3:=sGcd n ((Nat.gcd a.natAbs b.natAbs:Nat):Int) ((Nat.gcd c.natAbs d.natAbs:Nat):Int) (by unfold B;omega) (by unfold B;omega) (by omega)
  simp only[Int.natAbs_natCast] at g3
  rw[hG] at g3
  unfold Dspec_l5Spot
  rw[g1,Option.bind_some,g2,Option.bind_some,g3,Option.bind_some]
 by_cases hneg:d<0
 ·obtain⟨q,g1,g2⟩:=fin (0-((g4 a b c d:Nat):Int)) (by omega) (fun h=>by omega) (fun _=>by omega)
  refine⟨q,fun n hn=>?_,g2⟩
  rw[step n hn,dec_t hneg,frk_t,w64_id (by omega) (by omega)];exact g1 n
 ·obtain⟨q,g1,g2⟩:=fin ((g4 a b c d:Nat):Int) (by omega) (fun _=>by omega) (fun h=>absurd h hneg)
  refine⟨q,fun n hn=>?_,g2⟩
  rw[step n hn,dec_f hneg,frk_f];exact g1 n
theorem det3B{p q r:Pl}(hp:PB p)(hq:PB q)(hr:PB r):(det3 p q r).natAbs≤1000000000:=by
 obtain⟨a1,a2,a3,-⟩:=hp
 obtain⟨b1,b2,b3,-⟩:=hq
 obtain⟨c1,c2,c3,-⟩:=hr
 have h:B 750000000 (det3 p q r):=(((a1.mul ((b2.mul c3).sub (b3.mul c2))).add (a2.mul ((b3.mul c1).sub (b1.mul c3)))).add (a3.mul ((b1.mul c2).sub (b2.mul c1)))).up (by decide)
 unfold B at h;omega
theorem meetOk{p q r:Pl}(hp:PB p)(hq:PB q)(hr:PB r):∃s b,(∀n,1000000001≤n→Dspec_l5Meet n p q r=some (s,b))∧(b=true→SpOk s):=by
 by_cases h0:det3 p q r=0
 ·refine⟨⟨0,0,0,0⟩,false,fun n hn=>?_,fun h=>by cases h⟩
  unfold Dspec_l5Meet
  rw[sDet3 p q r hp hq hr,Option.bind_some,show (det3 p q r==0)=true by simpa using h0,frk_t]
 ·have nD:∀{x:Pl},PB x→B 500 (w64 (0-x.D)):=fun {x} h=>by
   have:=h.2.2.2
   rw[w64_B this.zsub (by decide)];exact this.zsub
  have z0:B 500 (0:Int):=B.of (by decide) (by decide)
  have A:∀{x:Pl},PB x→PB ⟨w64 (0-x.D),x.B,x.C,0⟩:=fun h=>⟨nD h,h.2.1,h.2.2.1,z0⟩
  have Bq:∀{x:Pl},PB x→PB ⟨x.A,w64 (0-x.D),x.C,0⟩:=fun h=>⟨h.1,nD h,h.2.2.1,z0⟩
  have C:∀{x:Pl},PB x→PB ⟨x.A,x.B,w64 (0-x.D),0⟩:=fun h=>⟨h.1,h.2.1,nD h,z0⟩
  obtain⟨s,e,hs⟩:=spotOf (det3B (A hp) (A hq) (A hr)) (det3B (Bq hp) (Bq hq) (Bq hr)) (det3B (C hp) (C hq) (C hr)) (det3B hp hq hr) h0
  refine⟨s,true,fun n hn=>?_,fun _=>hs⟩
  unfold Dspec_l5Meet
  rw[sDet3 p q r hp hq hr,Option.bind_some,show (det3 p q r==0)=false by simpa using h0,frk_f]
  rw[sDet3 _ _ _ (A hp) (A hq) (A hr),Option.bind_some,sDet3 _ _ _ (Bq hp) (Bq hq) (Bq hr),Option.bind_some,sDet3 _ _ _ (C hp) (C hq) (C hr),Option.bind_some,e n hn,Option.bind_some]
theorem spotDraw0{k:Cur}(h:CurOk k):∃q k',(∀n,1000000001≤n→Dspec_l5Draw_0 n 0 0 0 0 k.1 k.2.1 k.2.2=some (q,k'))∧SpOk q∧CurOk k':=by
 obtain⟨a,k1,e1,ha,h1⟩:=belowOk (c:=(k.1,k.2.1,k.2.2)) h (a:=21) (by omega) (by omega)
 obtain⟨b,k2,e2,hb,h2⟩:=belowOk h1 (a:=21) (by omega) (by omega)
 obtain⟨c,k3,e3,hc,h3⟩:=belowOk h2 (a:=21) (by omega) (by omega)
 obtain⟨d,k4,e4,hd,h4⟩:=intOk h3 (l:=[1,1,2,3,7]) (by simp) (by simp)
 have hd':1≤d∧d≤7:=by simp only[List.mem_cons,List.not_mem_nil,or_false] at hd;omega
 have w:∀{x:Int},0≤x∧x<21→w64 (x-10)=x-10:=fun h=>w64_id (by omega) (by omega)
 obtain⟨q,e5,hq⟩:=spotOf (a:=a-10) (b:=b-10) (c:=c-10) (d:=d) (by omega) (by omega) (by omega) (by omega) (by omega)
 refine⟨q,k4,fun n hn=>?_,hq,h4⟩
 unfold Dspec_l5Draw_0
 simp only[e1,e2,e3,e4,Option.bind_some,w ha,w hb,w hc,e5 n hn]
theorem spotDraw{k:Cur}(h:CurOk k):∃q k',(∀n,1000000001≤n→Dspec_l5Draw n k=some (q,k'))∧SpOk q∧CurOk k':=by
 obtain⟨o,k1,e1,h1⟩:=onceOk h (a:=3) (by omega) (by omega)
 cases o with
 | false =>
  obtain⟨q,k',g1,g2,g3⟩:=spotDraw0 h1
  refine⟨q,k',fun n hn=>?_,g2,g3⟩
  unfold Dspec_l5Draw
  simp only[e1,Option.bind_some,frk_f,g1 n hn]
 | true =>
  obtain⟨p,k2,e2,hp,h2⟩:=drawOk h1
  obtain⟨q,k3,e3,hq,h3⟩:=drawOk h2
  obtain⟨r,k4,e4,hr,h4⟩:=drawOk h3
  obtain⟨s,b,e5,hs⟩:=meetOk (pOk_PB hp) (pOk_PB hq) (pOk_PB hr)
  cases b with
  | true =>
   refine⟨s,k4,fun n hn=>?_,hs rfl,h4⟩
   unfold Dspec_l5Draw
   simp only[e1,e2 n (by omega),e3 n (by omega),e4 n (by omega),e5 n hn,Option.bind_some,frk_t]
  | false =>
   obtain⟨q',k',g1,g2,g3⟩:=spotDraw0 h4
   refine⟨q',k',fun n hn=>?_,g2,g3⟩
   unfold Dspec_l5Draw
   simp only[e1,e2 n (by omega),e3 n (by omega),e4 n (by omega),e5 n hn,Option.bind_some,frk_t,frk_f,g1 n hn]
end Evl.T
namespace Evl.T
open Go Evl
theorem drawS(l:List Int)(hl:l.length≤1048576):∃s q,Right s∧Dp s 9∧SpOk q∧Ev fun n=>Dspec_DrawSolid n l=some (s,q):=by
 obtain⟨k0,e0,c0⟩:=newOk hl
 obtain⟨v,k1,e1,hv,c1⟩:=belowOk c0 (a:=5) (by omega) (by omega)
 have w1:w64 (1+v)=1+v:=w64_id (by omega) (by omega)
 obtain⟨s,k2,e2,hR,hN,hD,c2⟩:=growOk 5 [] (1+v) k1 (by simp) (by simp) (by omega) (by omega) c1
 have e2':∀n,1000≤n→Dspec_l8Grow n k1 [] (w64 (1+v))=some (s,k2):=fun n hn=>by rw[w1];exact e2 n n hn (by omega)
 obtain⟨o,k3,e3,c3⟩:=onceOk c2 (a:=3) (by omega) (by omega)
 have fin:∀(s:Sol) (k:Cur),Right s→CurOk k→∃q,SpOk q∧∀n,1000000001≤n→Dspec_DrawSolid_0 n false 0 0 0 0 0 0 0 0 s.inn s.pl.A s.pl.B s.pl.C s.pl.D s.kids k.1 k.2.1 k.2.2=some (s,q):=by
  intro s k hs hk
  obtain⟨q,k',e,hq,-⟩:=spotDraw (k:=(k.1,k.2.1,k.2.2)) hk
  refine⟨q,hq,fun n hn=>?_⟩
  unfold Dspec_DrawSolid_0
  rw[e n hn,Option.bind_some,sol_eq']
 have e5:Ev fun n=>1000000001≤n∧l.length<n:=⟨1000000001+l.length,fun n hn=>by omega⟩
 cases o with
 | false =>
  have hr:Right s:=⟨hR,by omega⟩
  obtain⟨q,hq,g⟩:=fin s k3 hr c3
  refine⟨s,q,hr,hD.up (by omega),hq,e5.mono fun n ⟨h1,h2⟩=>?_⟩
  unfold Dspec_DrawSolid
  simp only[e0 n h2,e1,e2' n (by omega),e3,Option.bind_some,frk_f]
  exact g n h1
 | true =>
  obtain⟨c,k4,e4,hc,c4⟩:=cellOk c3 (a:=4) (by omega) (by omega)
  have hr:=cvR_right c
  obtain⟨q,hq,g⟩:=fin (cvR c).1 k4 hr c4
  refine⟨_,q,hr,(cvR_dp c).up (by omega),hq,(e5.and (sConvex c (by unfold big;omega))).mono fun n ⟨⟨h1,h2⟩,h3⟩=>?_⟩
  unfold Dspec_DrawSolid
  simp only[e0 n h2,e1,e2' n (by omega),e3,e4 n (by omega),h3,Option.bind_some,frk_t]
  exact g n h1
end Evl.T
namespace Evl.T
open Go Evl
theorem cvCells:∀(k path:List Pl),path.length+k.length≤200→(∀p∈k,PB p)→E2 fun n m=>loopN (Dimpl_Solid_cells_b n) m (cvT k,true,path)=some [path++k]:=by
 intro k
 induction k with
 | nil =>
  intro path h _
  refine E2.suc (E2.of fun n m=>?_)
  rw[loop_suc,iClStepB]
  show ((Dslices_Clone path).bind fun v1=>some [v1])=_
  rw[clnB (by omega),List.append_nil];rfl
 | cons p k ih =>
  intro path h hp
  simp only[List.length_cons] at h
  have E:=ih (path++[p]) (by simp;omega) (fun r hr=>hp r (List.mem_cons_of_mem _ hr))
  refine E2.suc ((E.and (e2_ge 1)).mono fun n m ⟨h1,_,hm⟩=>?_)
  obtain⟨m,rfl⟩:∃j,m=j+1:=⟨m-1,by omega⟩
  have e2:loopN (Dimpl_Solid_cells_b n) (m+1) (lfS false,true,path++[flp p])=some []:=by
   rw[loop_suc,iClStepB];rfl
  rw[loop_suc,iClStepB]
  show ((Dimpl_with path p).bind fun v3=>(loopN (Dimpl_Solid_cells_b n) (m+1) (cvT k,true,v3)).bind fun v4=>(Dimpl_flip p).bind fun v6=>(Dimpl_with path v6).bind fun v7=>(loopN (Dimpl_Solid_cells_b n) (m+1) (lfS false,true,v7)).bind fun v8=>chk (apB 24 (v4.length+v8.length)) (some (v4++v8)))=_
  rw[iPath _ _ (by omega),Option.bind_some,h1,Option.bind_some,iFlip p (hp p List.mem_cons_self),Option.bind_some,iPath _ _ (by omega),Option.bind_some,e2,Option.bind_some,chk_eq (aB24B (by simp))]
  simp
theorem cvK_sub:∀(l path:List Pl),∀r∈cvK l path,r∈l
 | [],_,_,h=>h
 | p::l,path,r,h=>by
  rw[cvK] at h
  split at h
  ·exact List.mem_cons_of_mem _ (cvK_sub l path r h)
  ·rcases List.mem_cons.1 h with rfl | h
   ·simp
   ·exact List.mem_cons_of_mem _ (cvK_sub l _ r h)
theorem opB_of{l:List Pl}(h:Opn l):opB l=true:=by
 unfold opB
 simp only[Bool.not_eq_true',List.any_eq_false]
 intro i hi
 have hi:i<l.length:=by simpa using hi
 have e:l=l.take i++gt l i::l.drop (i+1):=by
  have:=List.take_append_drop i l
  rw[List.drop_eq_getElem_cons hi] at this
  have g:gt l i=l[i]:=by have:=gt_some hi;rw[List.getElem?_eq_getElem hi] at this;exact(Option.some.inj this).symm
  rw[g];exact this.symm
 have:=cnd_of h _ _ _ e (l.take i) (List.Sublist.refl _)
 simpa using this
theorem rt_lensC{s:Sol}{path:List Pl}(h:Rt s path):Lens s:=by
 induction h with
 | leaf _=>exact .mk (by simp) (by simp)
 | node _ _ _ _ _ _ iha ihb =>
  refine .mk (by simp[big]) (fun x hx=>?_)
  simp only[List.mem_cons,List.not_mem_nil,or_false] at hx
  rcases hx with rfl | rfl
  ·exact iha
  ·exact ihb
theorem bigC{l:List Int}(h:l.length≤1048576):Dlaws_big l=some false:=by unfold Dlaws_big;rw[dec_f (by omega)]
theorem bigD{l:List Int}(h:¬l.length≤1048576):Dlaws_big l=some true:=by unfold Dlaws_big;rw[dec_t (by omega)]
open Classical in
theorem plain_FnPieces{F:Int→Prop}(l:List Int)(_:l.length≤maxLen∧∀x∈l,F x):∃n,Dlaws_FnPieces n l=some true:=by
 by_cases hb:l.length≤1048576
 ·obtain⟨s,q,hs,-,-,eD⟩:=drawS l hb
  obtain⟨k0,e0,c0⟩:=newOk hb
  obtain⟨c,k1,e1,hlen,hp,ho,-⟩:=cellOkO c0 (a:=6) (by omega) (by omega)
  have hk:(cvK c []).length≤c.length:=cvK_len c []
  have hT:Right (cvT (cvK c [])):=cvT_right ho hp (by omega)
  have hR:cvR c=(cvT (cvK c []),0):=by
   unfold cvR
   rw[List.all_eq_true.2 hp,decide_eq_true (by omega),opB_of ho];rfl
  have eK:Ev fun n=>Dspec_DrawCell n l=some c:=(e_ge (l.length+10001)).mono fun n hn=>by
   unfold Dspec_DrawCell
   rw[e0 n (by omega),Option.bind_some,e1 n (by omega)];rfl
  obtain⟨L,v,v1,v2,hE⟩:=piecesN s (rt_lensC hs.1) hs
  obtain⟨L',w,w1,w2,hE'⟩:=piecesN (cvT (cvK c [])) (rt_lensC hT.1) hT
  have EC:=(cvCells (cvK c []) [] (by simp;omega) (fun p h=>pOk_PB (hp p (cvK_sub c [] p h)))).ev
  have EI:=iConvex c (by unfold big;omega)
  rw[hR] at EI
  obtain⟨n,hN⟩:=((eD.and eK).and (hE.and hE')).and (EC.and (EI.and (iSolidOk (cvT (cvK c [])))))
  obtain⟨⟨⟨g1,g2⟩,⟨f1,f2,f3,f4⟩,⟨-,d2,d3,-⟩⟩,g3,g4,g5⟩:=hN n (Nat.le_refl n)
  rw[decide_eq_true hT] at g5
  have h1:L'.length=1:=by
   unfold Dimpl_Cells Dimpl_Solid_cells at d3
   rw[g5,Option.bind_some,Bool.not_true,frk_f,g3] at d3
   rw[←Option.some.inj d3];rfl
  have hw:w=1:=by omega
  subst hw
  refine⟨n,?_⟩
  have f0:Dlaws_big l=some false:=bigC hb
  unfold Dlaws_FnPieces
  simp only[f0,Option.bind_some,frk_f,g1,f2,g2,g4,f1,beq_self_eq_true,frk_t,f3,f4,d2]
  rw[decide_eq_true (by omega),frk_t];rfl
 ·exact⟨0,by unfold Dlaws_FnPieces;rw[bigD hb];rfl⟩
end Evl.T
