
/- Texts that belong together,joined. No condition. -/
import Derived.Test.YtljcjahaeebocaaGreatJd
import Derived.Laws.BitsLemmas
import Derived.Test.YtljcjahaeebocaaGreatWa
namespace Evl.T
open Go Evl
def Ev (p:Nat→Prop):Prop:=∃N,∀n,N≤n→p n
def E2 (p:Nat→Nat→Prop):Prop:=∃N,∀n,N≤n→∀m,N≤m→p n m
theorem Ev.of{p:Nat→Prop}(h:∀n,p n):Ev p:=⟨0,fun n _=>h n⟩
theorem Ev.mono{p q:Nat→Prop}(h:Ev p)(k:∀n,p n→q n):Ev q:=let ⟨N,hN⟩:=h;⟨N,fun n hn=>k n (hN n hn)⟩
theorem Ev.and{p q:Nat→Prop}(h:Ev p)(k:Ev q):Ev fun n=>p n∧q n:=by
 obtain⟨N,hN⟩:=h;obtain⟨M,hM⟩:=k
 exact⟨max N M,fun n hn=>⟨hN n (by omega),hM n (by omega)⟩⟩
theorem E2.of{p:Nat→Nat→Prop}(h:∀n m,p n m):E2 p:=⟨0,fun n _ m _=>h n m⟩
theorem E2.mono{p q:Nat→Nat→Prop}(h:E2 p)(k:∀n m,p n m→q n m):E2 q:=let ⟨N,hN⟩:=h;⟨N,fun n hn m hm=>k n m (hN n hn m hm)⟩
theorem E2.and{p q:Nat→Nat→Prop}(h:E2 p)(k:E2 q):E2 fun n m=>p n m∧q n m:=by
 obtain⟨N,hN⟩:=h;obtain⟨M,hM⟩:=k
 exact⟨max N M,fun n hn m hm=>⟨hN n (by omega) m (by omega),hM n (by omega) m (by omega)⟩⟩
theorem Ev.e2{p:Nat→Prop}(h:Ev p):E2 fun n _=>p n:=let ⟨N,hN⟩:=h;⟨N,fun n hn _ _=>hN n hn⟩
theorem E2.ev{p:Nat→Nat→Prop}(h:E2 p):Ev fun n=>p n n:=let ⟨N,hN⟩:=h;⟨N,fun n hn=>hN n hn n hn⟩
theorem E2.suc{p:Nat→Nat→Prop}(h:E2 fun n m=>p n (m+1)):E2 p:=by
 obtain⟨N,hN⟩:=h
 refine⟨N+1,fun n hn m hm=>?_⟩
 obtain⟨m,rfl⟩:∃k,m=k+1:=⟨m-1,by omega⟩
 exact hN n (by omega) m (by omega)
theorem E2.all{α:Type}{p:α→Nat→Nat→Prop}:∀{l:List α},(∀x∈l,E2 (p x))→E2 fun n m=>∀x∈l,p x n m
 | [],_=>E2.of fun _ _ _ h=>by cases h
 | x::l,h=>((h x (by simp)).and (E2.all (l:=l) fun y hy=>h y (by simp[hy]))).mono fun n m ⟨h1,h2⟩ y hy=>by
  rcases List.mem_cons.1 hy with rfl | hy
  ·exact h1
  ·exact h2 y hy
theorem loop_suc{α β:Type}(F:(α→Option β)→α→Option β)(m:Nat)(a:α):loopN F (m+1) a=F (loopN F m) a:=rfl
theorem frk_t{α:Type}(x y:Option α):frk true x y=x:=rfl
theorem frk_f{α:Type}(x y:Option α):frk false x y=y:=rfl
theorem frk_if{α:Type}(b:Bool)(x y:Option α):frk b x y=if b=true then x else y:=rfl
theorem chk_eq{α:Type}{b:Bool}(h:b=true)(x:Option α):chk b x=x:=by rw[h];rfl
theorem w64_bmod(x:Int):w64 x=x.bmod 18446744073709551616:=by
 show IntKind.i64.wrap x=_
 rw[IntKind.wrap_i64,Int.bmod_def]
 split <;> omega
theorem w64_id{x:Int}(h:-9223372036854775808≤x)(h2:x≤9223372036854775807):w64 x=x:=by
 show IntKind.i64.wrap x=x
 rw[IntKind.wrap_i64];omega
theorem w64_add_l(a b:Int):w64 (w64 a+b)=w64 (a+b):=by rw[w64_bmod,w64_bmod a,w64_bmod,Int.bmod_add_bmod]
theorem w64_add_r(a b:Int):w64 (a+w64 b)=w64 (a+b):=by rw[w64_bmod,w64_bmod b,w64_bmod,Int.add_bmod_bmod]
theorem w64_sub_l(a b:Int):w64 (w64 a-b)=w64 (a-b):=by rw[w64_bmod,w64_bmod a,w64_bmod,Int.bmod_sub_bmod]
theorem w64_sub_r(a b:Int):w64 (a-w64 b)=w64 (a-b):=by rw[w64_bmod,w64_bmod b,w64_bmod,Int.sub_bmod_bmod]
theorem w64_mul_l(a b:Int):w64 (w64 a*b)=w64 (a*b):=by rw[w64_bmod,w64_bmod a,w64_bmod,Int.bmod_mul_bmod]
def B (k:Nat)(x:Int):Prop:=x.natAbs≤k
theorem B.add{a b:Nat}{x y:Int}(h:B a x)(k:B b y):B (a+b) (x+y):=by unfold B at *;omega
theorem B.sub{a b:Nat}{x y:Int}(h:B a x)(k:B b y):B (a+b) (x-y):=by unfold B at *;omega
theorem B.zsub{a:Nat}{x:Int}(h:B a x):B a (0-x):=by unfold B at *;omega
theorem B.mul{a b:Nat}{x y:Int}(h:B a x)(k:B b y):B (a*b) (x*y):=by
 unfold B at *;rw[Int.natAbs_mul];exact Nat.mul_le_mul h k
theorem B.of{a:Nat}{x:Int}(h:-(a:Int)≤x)(k:x≤a):B a x:=by unfold B;omega
theorem B.up{a b:Nat}{x:Int}(h:B a x)(k:a≤b):B b x:=Nat.le_trans h k
theorem B.abs{a:Nat}{x:Int}(h:B a x):B a ((x.natAbs:Nat):Int):=by unfold B at *;omega
theorem w64_B{k:Nat}{x:Int}(h:B k x)(hk:decide (k≤9223372036854775807)=true):w64 x=x:=by
 have:=of_decide_eq_true hk
 unfold B at h
 exact w64_id (by omega) (by omega)
theorem w64_B'{k:Nat}{x:Int}(h:B k x)(hk:k≤9223372036854775807):w64 x=x:=by
 unfold B at h
 exact w64_id (by omega) (by omega)
def big:Nat:=9223372036854775807
theorem w64_suc{k:Nat}(h:k<big):w64 ((k:Int)+1)=((k+1:Nat):Int):=by
 unfold big at h
 rw[w64_id (by omega) (by omega)];omega
theorem lget_nat{α:Type}(l:List α)(k:Nat):lget l (k:Int)=l[k]?:=by simp[lget]
theorem lget_zero{α:Type}(l:List α):lget l 0=l[0]?:=rfl
theorem lget_one{α:Type}(l:List α):lget l 1=l[1]?:=rfl
theorem lsl_take{α:Type}(l:List α)(k:Nat)(h:k≤l.length):lsl l 0 (k:Int)=some (l.take k):=by
 unfold lsl;rw[if_pos (by omega)];simp
theorem dec_iff{p q:Prop} [Decidable p] [Decidable q](h:p↔q):decide p=decide q:=by simp[h]
theorem pl_eq(p:Pl):Pl.mk p.A p.B p.C p.D=p:=rfl
theorem sol_eq(s:Sol):Sol.mk s.inn s.pl s.kids=s:=Sol.eta s
theorem sol_eq'(s:Sol):Sol.mk s.inn (Pl.mk s.pl.A s.pl.B s.pl.C s.pl.D) s.kids=s:=Sol.eta s
theorem e2_ge(k:Nat):E2 fun n m=>k≤n∧k≤m:=⟨k,fun _ hn _ hm=>⟨hn,hm⟩⟩
theorem e_ge(k:Nat):Ev fun n=>k≤n:=⟨k,fun _ hn=>hn⟩
def lfS (b:Bool):Sol:=.mk b ⟨0,0,0,0⟩ []
end Evl.T
namespace Evl.T
open Go Evl
def PB (p:Pl):Prop:=B 500 p.A∧B 500 p.B∧B 500 p.C∧B 500 p.D
def det3 (p q r:Pl):Int:=p.A*(q.B*r.C-q.C*r.B)+p.B*(q.C*r.A-q.A*r.C)+p.C*(q.A*r.B-q.B*r.A)
theorem sAbs(x:Int)(h:B 9223372036854775807 x):Dp_l3Abs x=some (x.natAbs:Int):=by
 unfold Dp_l3Abs B at *
 rw[frk_if]
 split
 ·rename_i hx;have:=of_decide_eq_true hx;rw[w64_id (by omega) (by omega)];congr 1;omega
 ·rename_i hx;simp only[decide_eq_true_eq] at hx;congr 1;omega
def sgn (x:Int):Int:=if x>0 then 1 else if x<0 then -1 else 0
theorem sSign(x:Int):Dp_l3Sign x=some (sgn x):=by
 unfold Dp_l3Sign sgn
 simp only[frk_if,decide_eq_true_eq]
 split
 ·rfl
 ·split <;> rfl
theorem iSign(x:Int):Di_sign x=some (sgn x):=by
 unfold Di_sign Dcmp_Compare Dcmp_isNaN sgn
 simp only[oBs,bne_self_eq_false,frk_f,frk_if,decide_eq_true_eq]
 by_cases h1:x<0 <;> by_cases h2:x>0 <;> simp[h1,h2] <;> omega
theorem sCross(p q:Pl)(hp:PB p)(hq:PB q):Dp_l4Cross p q=some (p.B*q.C-p.C*q.B,p.C*q.A-p.A*q.C,p.A*q.B-p.B*q.A):=by
 obtain⟨a1,a2,a3,a4⟩:=hp;obtain⟨b1,b2,b3,b4⟩:=hq
 unfold Dp_l4Cross
 simp only[w64_sub_l,w64_sub_r]
 rw[w64_B ((a2.mul b3).sub (a3.mul b2)) rfl,w64_B ((a3.mul b1).sub (a1.mul b3)) rfl,w64_B ((a1.mul b2).sub (a2.mul b1)) rfl]
theorem sDet3(p q r:Pl)(hp:PB p)(hq:PB q)(hr:PB r):Dp_l4Det3 p q r=some (det3 p q r):=by
 unfold Dp_l4Det3
 rw[sCross q r hq hr]
 obtain⟨a1,a2,a3,a4⟩:=hp;obtain⟨b1,b2,b3,b4⟩:=hq;obtain⟨c1,c2,c3,c4⟩:=hr
 simp only[oBs,w64_add_l,w64_add_r]
 rw[w64_B (((a1.mul ((b2.mul c3).sub (b3.mul c2))).add (a2.mul ((b3.mul c1).sub (b1.mul c3)))).add (a3.mul ((b1.mul c2).sub (b2.mul c1)))) rfl]
 rfl
def dt (p q:Pl):Int:=p.A*q.A+p.B*q.B+p.C*q.C
def cr0 (p q:Pl):Int:=p.B*q.C-p.C*q.B
def cr1 (p q:Pl):Int:=p.C*q.A-p.A*q.C
def cr2 (p q:Pl):Int:=p.A*q.B-p.B*q.A
theorem crB{p q:Pl}(hp:PB p)(hq:PB q):B 500000 (cr0 p q)∧B 500000 (cr1 p q)∧B 500000 (cr2 p q):=by
 obtain⟨a1,a2,a3,a4⟩:=hp;obtain⟨b1,b2,b3,b4⟩:=hq
 exact⟨(a2.mul b3).sub (a3.mul b2),(a3.mul b1).sub (a1.mul b3),(a1.mul b2).sub (a2.mul b1)⟩
theorem sPar(p q:Pl)(hp:PB p)(hq:PB q):Dp_l4Parallel p q=some (if cr0 p q=0∧cr1 p q=0∧cr2 p q=0 then sgn (dt p q) else 0):=by
 unfold Dp_l4Parallel
 rw[sCross p q hp hq]
 obtain⟨a1,a2,a3,a4⟩:=hp;obtain⟨b1,b2,b3,b4⟩:=hq
 simp only[oBs,w64_add_l,w64_add_r,sSign]
 rw[w64_B (((a1.mul b1).add (a2.mul b2)).add (a3.mul b3)) rfl,frk_if]
 show (if (!(cr0 p q==0&&(cr1 p q==0&&(cr2 p q==0&&true))))=true then _ else _)=_
 by_cases h:cr0 p q=0∧cr1 p q=0∧cr2 p q=0
 ·rw[if_pos h,h.1,h.2.1,h.2.2];rfl
 ·rw[if_neg h,if_pos]
  simp only[Bool.not_eq_true',Bool.and_true,Bool.and_eq_false_iff,beq_eq_false_iff_ne]
  by_cases h1:cr0 p q=0
  ·by_cases h2:cr1 p q=0
   ·exact .inr (.inr fun h3=>h ⟨h1,h2,h3⟩)
   ·exact .inr (.inl h2)
  ·exact .inl h1
theorem iCross(u v:Int×Int×Int)(k l:Nat)(h:decide (k*l+k*l≤9223372036854775807)=true)(a1:B k u.1)(a2:B k u.2.1)(a3:B k u.2.2)(b1:B l v.1)(b2:B l v.2.1)(b3:B l v.2.2) :
  Di_crossOf u v=some (u.2.1*v.2.2-u.2.2*v.2.1,u.2.2*v.1-u.1*v.2.2,u.1*v.2.1-u.2.1*v.1):=by
 unfold Di_crossOf
 simp only[w64_sub_l,w64_sub_r]
 rw[w64_B ((a2.mul b3).sub (a3.mul b2)) h,w64_B ((a3.mul b1).sub (a1.mul b3)) h,w64_B ((a1.mul b2).sub (a2.mul b1)) h]
theorem iDot(u v:Int×Int×Int)(k l:Nat)(h:decide (k*l+k*l+k*l≤9223372036854775807)=true)(a1:B k u.1)(a2:B k u.2.1)(a3:B k u.2.2)(b1:B l v.1)(b2:B l v.2.1)(b3:B l v.2.2) :
  Di_dot u v=some (u.1*v.1+u.2.1*v.2.1+u.2.2*v.2.2):=by
 unfold Di_dot
 simp only[w64_add_l,w64_add_r]
 rw[w64_B (((a1.mul b1).add (a2.mul b2)).add (a3.mul b3)) h]
theorem iDet(p q r:Pl)(hp:PB p)(hq:PB q)(hr:PB r):Di_det (p.A,p.B,p.C) (q.A,q.B,q.C) (r.A,r.B,r.C)=some (det3 p q r):=by
 unfold Di_det
 have hc:=crB hq hr
 obtain⟨a1,a2,a3,a4⟩:=hp;obtain⟨b1,b2,b3,b4⟩:=hq;obtain⟨c1,c2,c3,c4⟩:=hr
 rw[iCross (q.A,q.B,q.C) (r.A,r.B,r.C) 500 500 rfl b1 b2 b3 c1 c2 c3]
 simp only[oBs]
 show ((Di_dot (p.A,p.B,p.C) (cr0 q r,cr1 q r,cr2 q r)).bind fun v1=>some v1)=_
 rw[iDot (p.A,p.B,p.C) (cr0 q r,cr1 q r,cr2 q r) 500 500000 rfl a1 a2 a3 hc.1 hc.2.1 hc.2.2]
 rfl
theorem iDet3(p q r:Pl)(hp:PB p)(hq:PB q)(hr:PB r):Di_det3 p q r=some (det3 p q r):=by
 unfold Di_det3 Di_normal
 simp only[oBs]
 rw[iDet p q r hp hq hr];rfl
theorem iPar(p q:Pl)(hp:PB p)(hq:PB q):Di_parallel p q=some (if cr0 p q=0∧cr1 p q=0∧cr2 p q=0 then sgn (dt p q) else 0):=by
 unfold Di_parallel Di_normal
 obtain⟨a1,a2,a3,a4⟩:=hp;obtain⟨b1,b2,b3,b4⟩:=hq
 simp only[oBs,iSign]
 rw[iCross (p.A,p.B,p.C) (q.A,q.B,q.C) 500 500 rfl a1 a2 a3 b1 b2 b3,iDot (p.A,p.B,p.C) (q.A,q.B,q.C) 500 500 rfl a1 a2 a3 b1 b2 b3]
 simp only[oBs,frk_if]
 show (if (!(cr0 p q==0&&(cr1 p q==0&&(cr2 p q==0&&true))))=true then _ else _)=_
 by_cases h:cr0 p q=0∧cr1 p q=0∧cr2 p q=0
 ·rw[if_pos h,h.1,h.2.1,h.2.2];rfl
 ·rw[if_neg h,if_pos]
  simp only[Bool.not_eq_true',Bool.and_true,Bool.and_eq_false_iff,beq_eq_false_iff_ne]
  by_cases h1:cr0 p q=0
  ·by_cases h2:cr1 p q=0
   ·exact .inr (.inr fun h3=>h ⟨h1,h2,h3⟩)
   ·exact .inr (.inl h2)
  ·exact .inl h1
def cl2 (p q:Pl):Bool:=decide ((cr0 p q=0∧cr1 p q=0∧cr2 p q=0∧dt p q<0) ∧
 ((q.A.natAbs+q.B.natAbs+q.C.natAbs:Nat):Int)*p.D+((p.A.natAbs+p.B.natAbs+p.C.natAbs:Nat):Int)*q.D≤0)
theorem par_neg(p q:Pl):((if cr0 p q=0∧cr1 p q=0∧cr2 p q=0 then sgn (dt p q) else 0)≥0)↔¬(cr0 p q=0∧cr1 p q=0∧cr2 p q=0∧dt p q<0):=by
 by_cases h:cr0 p q=0∧cr1 p q=0∧cr2 p q=0
 ·rw[if_pos h];unfold sgn
  constructor
  ·intro h1 h2
   rw[if_neg (by omega),if_pos h2.2.2.2] at h1;omega
  ·intro h1
   have:¬dt p q<0:=fun h2=>h1 ⟨h.1,h.2.1,h.2.2,h2⟩
   split
   ·omega
   ·omega
 ·rw[if_neg h]
  exact⟨fun _ h2=>h ⟨h2.1,h2.2.1,h2.2.2.1⟩,fun _=>by omega⟩
theorem sClash2(p q:Pl)(hp:PB p)(hq:PB q):Dp_l6Clash2 p q=some (cl2 p q):=by
 unfold Dp_l6Clash2
 rw[sPar p q hp hq]
 obtain⟨a1,a2,a3,a4⟩:=hp;obtain⟨b1,b2,b3,b4⟩:=hq
 simp only[oBs,frk_if,decide_eq_true_eq]
 unfold cl2
 by_cases h:cr0 p q=0∧cr1 p q=0∧cr2 p q=0∧dt p q<0
 ·rw[if_neg (fun h1=>(par_neg p q).1 h1 h)]
  rw[sAbs _ (b1.up (by decide)),sAbs _ (b2.up (by decide)),sAbs _ (b3.up (by decide)),sAbs _ (a1.up (by decide)),sAbs _ (a2.up (by decide)),sAbs _ (a3.up (by decide))]
  simp only[oBs,w64_add_l,w64_add_r,w64_mul_l]
  rw[w64_B (((((b1.abs).add b2.abs).add b3.abs).mul a4).add ((((a1.abs).add a2.abs).add a3.abs).mul b4)) rfl]
  congr 1
  apply dec_iff
  simp only[Int.natCast_add]
  exact⟨fun h1=>⟨h,h1⟩,fun h1=>h1.2⟩
 ·rw[if_pos ((par_neg p q).2 h)]
  congr 1;symm;apply decide_eq_false;exact fun h1=>h h1.1
theorem maxAbs(x:Int)(h:B 500 x):maxN x [w64 (0-x)]=(x.natAbs:Int):=by
 unfold B at h
 rw[w64_id (by omega) (by omega)]
 simp only[maxN];split <;> omega
theorem scale_iff{x y k l:Int}(hk:0<k)(hl:0<l)(h:x*k=y*l):x≤0↔y≤0:=by
 constructor
 ·intro hx
  have h1:x*k≤0:=Int.mul_nonpos_of_nonpos_of_nonneg hx (Int.le_of_lt hk)
  rw[h] at h1
  by_cases hy:0<y
  ·have:=Int.mul_pos hy hl;omega
  ·omega
 ·intro hy
  have h1:y*l≤0:=Int.mul_nonpos_of_nonpos_of_nonneg hy (Int.le_of_lt hl)
  rw[←h] at h1
  by_cases hx:0<x
  ·have:=Int.mul_pos hx hk;omega
  ·omega
theorem na_mul{a b c d:Int}(h:a*b=c*d):(a.natAbs:Int)*b.natAbs=c.natAbs*d.natAbs:=by
 have:=congrArg Int.natAbs h
 rw[Int.natAbs_mul,Int.natAbs_mul] at this
 exact_mod_cast this
theorem iClash2(n:Nat)(p q:Pl)(hp:PB p)(hq:PB q):Di_clash2 n p q=some (cl2 p q):=by
 unfold Di_clash2
 rw[iPar p q hp hq]
 have hp0:=hp;have hq0:=hq
 obtain⟨a1,a2,a3,a4⟩:=hp;obtain⟨b1,b2,b3,b4⟩:=hq
 unfold Di_normal
 simp only[oBs,frk_if,decide_eq_true_eq,bne_iff_ne,ne_eq]
 unfold cl2
 by_cases h:cr0 p q=0∧cr1 p q=0∧cr2 p q=0∧dt p q<0
 ·rw[if_neg (fun h1=>(par_neg p q).1 h1 h)]
  obtain⟨e0,e1,e2,e3⟩:=h
  have k0:p.B*q.C=p.C*q.B:=by unfold cr0 at e0;omega
  have k1:p.C*q.A=p.A*q.C:=by unfold cr1 at e1;omega
  have k2:p.A*q.B=p.B*q.A:=by unfold cr2 at e2;omega
  have l0:=na_mul k0;have l1:=na_mul k1;have l2:=na_mul k2
  simp only[w64_add_l,w64_add_r]
  simp only[maxAbs _ a1,maxAbs _ a2,maxAbs _ a3,maxAbs _ b1,maxAbs _ b2,maxAbs _ b3]
  rw[w64_B ((a4.mul b1.abs).add (b4.mul a1.abs)) rfl,w64_B ((a4.mul b2.abs).add (b4.mul a2.abs)) rfl,w64_B ((a4.mul b3.abs).add (b4.mul a3.abs)) rfl]
  have key:∀x y:Nat,0<x→(x:Int)*(q.A.natAbs+q.B.natAbs+q.C.natAbs:Nat)=(y:Int)*(p.A.natAbs+p.B.natAbs+p.C.natAbs:Nat)→0<p.A.natAbs+p.B.natAbs+p.C.natAbs →
    (p.D*(y:Int)+q.D*(x:Int)≤0↔((q.A.natAbs+q.B.natAbs+q.C.natAbs:Nat):Int)*p.D+((p.A.natAbs+p.B.natAbs+p.C.natAbs:Nat):Int)*q.D≤0):=by
   intro x y hx he hv
   refine scale_iff (k:=((p.A.natAbs+p.B.natAbs+p.C.natAbs:Nat):Int)) (l:=(x:Int)) (by omega) (by omega) ?_
   generalize ((p.A.natAbs+p.B.natAbs+p.C.natAbs:Nat):Int)=v at he ⊢
   generalize ((q.A.natAbs+q.B.natAbs+q.C.natAbs:Nat):Int)=u at he ⊢
   generalize (x:Int)=x at he ⊢
   generalize (y:Int)=y at he ⊢
   grind
  by_cases hA:p.A=0
  ·by_cases hB:p.B=0
   ·by_cases hC:p.C=0
    ·exfalso;unfold dt at e3;rw[hA,hB,hC] at e3;simp at e3
    ·rw[if_neg (by simpa using hA),if_neg (by simpa using hB),if_pos (by simpa using hC)]
     congr 1;apply dec_iff
     rw[key p.C.natAbs q.C.natAbs (by omega) (by simp only[Int.natCast_add];grind) (by omega)]
     exact⟨fun h1=>⟨⟨e0,e1,e2,e3⟩,h1⟩,fun h1=>h1.2⟩
   ·rw[if_neg (by simpa using hA),if_pos (by simpa using hB)]
    congr 1;apply dec_iff
    rw[key p.B.natAbs q.B.natAbs (by omega) (by simp only[Int.natCast_add];grind) (by omega)]
    exact⟨fun h1=>⟨⟨e0,e1,e2,e3⟩,h1⟩,fun h1=>h1.2⟩
  ·rw[if_pos (by simpa using hA)]
   congr 1;apply dec_iff
   rw[key p.A.natAbs q.A.natAbs (by omega) (by simp only[Int.natCast_add];grind) (by omega)]
   exact⟨fun h1=>⟨⟨e0,e1,e2,e3⟩,h1⟩,fun h1=>h1.2⟩
 ·rw[if_pos ((par_neg p q).2 h)]
  congr 1;symm;apply decide_eq_false;exact fun h1=>h h1.1
end Evl.T
namespace Evl.T
open Go Evl
theorem sSumStep(n:Nat)(f d:List Int)(rec:Bool×Bool×Int×Int→Option Bool)(up dn:Bool)(s:Int)(i:Nat){v w:Int}(hi:f[i]?=some v)(hd:d[i]?=some w)(hB:B 9223372036854775807 v) :
  Dp_l6Sum_3 n f d rec (up,dn,s,(i:Int))=rec (up&&decide (v>0),dn&&decide (v<0),w64 (s+(v.natAbs:Int)*w),w64 ((i:Int)+1)):=by
 have hl:i<f.length:=(List.getElem?_eq_some_iff.1 hi).1
 unfold Dp_l6Sum_3 Dp_l6Sum_0 Dp_l6Sum_1
 simp only[lget_nat,hi,hd,oBs,sAbs v hB,w64_add_r]
 have:decide ((i:Int)<(f.length:Int))=true:=by simpa using hl
 rw[this,frk_t]
 cases up <;> cases dn <;> simp[frk_t,frk_f]
theorem sSumEnd(n:Nat)(f d:List Int)(rec:Bool×Bool×Int×Int→Option Bool)(up dn:Bool)(s:Int)(i:Nat)(hi:f.length=i) :
  Dp_l6Sum_3 n f d rec (up,dn,s,(i:Int))=some ((up||dn)&&decide (s≤0)):=by
 unfold Dp_l6Sum_3 Dp_l6Sum_2
 subst hi
 simp only[Int.lt_irrefl,decide_false,frk_f]
 cases up <;> cases dn <;> simp[frk_t,frk_f]
theorem iWStep(n:Nat)(d:List Int)(one:Int)(f:List Int)(rec:Int×Int→Option Bool)(s:Int)(i:Nat){v w:Int}(hi:f[i]?=some v)(hd:d[i]?=some w) :
  Di_weighs_1 n d one f (f.length:Int) rec (s,(i:Int))=if one=0∨sgn v≠one then some false else rec (w64 (s+v*w),w64 ((i:Int)+1)):=by
 have hl:i<f.length:=(List.getElem?_eq_some_iff.1 hi).1
 unfold Di_weighs_1 Di_weighs_0
 simp only[lget_nat,hi,hd,oBs,iSign,w64_add_r]
 have:decide ((i:Int)<(f.length:Int))=true:=by simpa using hl
 rw[this,frk_t]
 by_cases h1:one=0
 ·simp[h1,frk_t]
 ·have e1:(one==0)=false:=by simpa using h1
  rw[e1,frk_f]
  by_cases h2:sgn v=one
  ·have e2:(sgn v != one)=false:=by simpa using h2
   rw[e2,frk_f,if_neg (by simp[h1,h2])]
  ·have e2:(sgn v != one)=true:=by simpa using h2
   rw[e2,frk_t,if_pos (.inr h2)]
theorem iWEnd(n:Nat)(d:List Int)(one:Int)(f:List Int)(rec:Int×Int→Option Bool)(s:Int)(i:Nat)(hi:f.length=i) :
  Di_weighs_1 n d one f (f.length:Int) rec (s,(i:Int))=some (decide (w64 (s*one)≤0)):=by
 unfold Di_weighs_1
 subst hi
 simp only[Int.lt_irrefl,decide_false,frk_f]
theorem sSum3{k:Nat}{a b c d e f:Int}(hk:k≤1000000000000)(ha:B k a)(hb:B k b)(hc:B k c)(hd:B 500 d)(he:B 500 e)(hf:B 500 f)(n:Nat)(hn:4≤n) :
  Dp_l6Sum n [a,b,c] [d,e,f]=some (decide (((a>0∧b>0∧c>0)∨(a<0∧b<0∧c<0))∧(a.natAbs:Int)*d+(b.natAbs:Int)*e+(c.natAbs:Int)*f≤0)):=by
 obtain⟨n,rfl⟩:∃m,n=m+4:=⟨n-4,by omega⟩
 have up:∀{x},B k x→B 9223372036854775807 x:=fun h=>h.up (by omega)
 have s1:w64 (0+(a.natAbs:Int)*d)=(a.natAbs:Int)*d:=by
  rw[Int.zero_add];exact w64_B' (ha.abs.mul hd) (by omega)
 have s2:w64 ((a.natAbs:Int)*d+(b.natAbs:Int)*e)=(a.natAbs:Int)*d+(b.natAbs:Int)*e:=w64_B' ((ha.abs.mul hd).add (hb.abs.mul he)) (by omega)
 have s3:w64 ((a.natAbs:Int)*d+(b.natAbs:Int)*e+(c.natAbs:Int)*f)=(a.natAbs:Int)*d+(b.natAbs:Int)*e+(c.natAbs:Int)*f:=w64_B' (((ha.abs.mul hd).add (hb.abs.mul he)).add (hc.abs.mul hf)) (by omega)
 unfold Dp_l6Sum
 rw[loop_suc]
 show Dp_l6Sum_3 _ _ _ _ (true,true,0,((0:Nat):Int))=_
 rw[sSumStep _ _ _ _ _ _ _ 0 (v:=a) (w:=d) rfl rfl (up ha),s1,w64_suc (by decide),loop_suc]
 rw[sSumStep _ _ _ _ _ _ _ 1 (v:=b) (w:=e) rfl rfl (up hb),s2,w64_suc (by decide),loop_suc]
 rw[sSumStep _ _ _ _ _ _ _ 2 (v:=c) (w:=f) rfl rfl (up hc),s3,w64_suc (by decide),loop_suc]
 rw[sSumEnd _ _ _ _ _ _ _ 3 rfl]
 congr 1
 simp only[Bool.true_and,←Bool.decide_and,←Bool.decide_or]
 apply dec_iff
 constructor
 ·rintro⟨h | h,h2⟩
  ·exact⟨.inl ⟨h.1.1,h.1.2,h.2⟩,h2⟩
  ·exact⟨.inr ⟨h.1.1,h.1.2,h.2⟩,h2⟩
 ·rintro⟨h | h,h2⟩
  ·exact⟨.inl ⟨⟨h.1,h.2.1⟩,h.2.2⟩,h2⟩
  ·exact⟨.inr ⟨⟨h.1,h.2.1⟩,h.2.2⟩,h2⟩
theorem sSum4{k:Nat}{a b c g d e f h:Int}(hk:k≤1000000000000)(ha:B k a)(hb:B k b)(hc:B k c)(hg:B k g)(hd:B 500 d)(he:B 500 e)(hf:B 500 f)(hh:B 500 h)(n:Nat)(hn:5≤n) :
  Dp_l6Sum n [a,b,c,g] [d,e,f,h]=some (decide (((a>0∧b>0∧c>0∧g>0)∨(a<0∧b<0∧c<0∧g<0))∧(a.natAbs:Int)*d+(b.natAbs:Int)*e+(c.natAbs:Int)*f+(g.natAbs:Int)*h≤0)):=by
 obtain⟨n,rfl⟩:∃m,n=m+5:=⟨n-5,by omega⟩
 have up:∀{x},B k x→B 9223372036854775807 x:=fun h=>h.up (by omega)
 have s1:w64 (0+(a.natAbs:Int)*d)=(a.natAbs:Int)*d:=by
  rw[Int.zero_add];exact w64_B' (ha.abs.mul hd) (by omega)
 have s2:w64 ((a.natAbs:Int)*d+(b.natAbs:Int)*e)=(a.natAbs:Int)*d+(b.natAbs:Int)*e:=w64_B' ((ha.abs.mul hd).add (hb.abs.mul he)) (by omega)
 have s3:w64 ((a.natAbs:Int)*d+(b.natAbs:Int)*e+(c.natAbs:Int)*f)=(a.natAbs:Int)*d+(b.natAbs:Int)*e+(c.natAbs:Int)*f:=w64_B' (((ha.abs.mul hd).add (hb.abs.mul he)).add (hc.abs.mul hf)) (by omega)
 have s4:w64 ((a.natAbs:Int)*d+(b.natAbs:Int)*e+(c.natAbs:Int)*f+(g.natAbs:Int)*h)=(a.natAbs:Int)*d+(b.natAbs:Int)*e+(c.natAbs:Int)*f+(g.natAbs:Int)*h:=w64_B' ((((ha.abs.mul hd).add (hb.abs.mul he)).add (hc.abs.mul hf)).add (hg.abs.mul hh)) (by omega)
 unfold Dp_l6Sum
 rw[loop_suc]
 show Dp_l6Sum_3 _ _ _ _ (true,true,0,((0:Nat):Int))=_
 rw[sSumStep _ _ _ _ _ _ _ 0 (v:=a) (w:=d) rfl rfl (up ha),s1,w64_suc (by decide),loop_suc]
 rw[sSumStep _ _ _ _ _ _ _ 1 (v:=b) (w:=e) rfl rfl (up hb),s2,w64_suc (by decide),loop_suc]
 rw[sSumStep _ _ _ _ _ _ _ 2 (v:=c) (w:=f) rfl rfl (up hc),s3,w64_suc (by decide),loop_suc]
 rw[sSumStep _ _ _ _ _ _ _ 3 (v:=g) (w:=h) rfl rfl (up hg),s4,w64_suc (by decide),loop_suc]
 rw[sSumEnd _ _ _ _ _ _ _ 4 rfl]
 congr 1
 simp only[Bool.true_and,←Bool.decide_and,←Bool.decide_or]
 apply dec_iff
 constructor
 ·rintro⟨h | h,h2⟩
  ·exact⟨.inl ⟨h.1.1.1,h.1.1.2,h.1.2,h.2⟩,h2⟩
  ·exact⟨.inr ⟨h.1.1.1,h.1.1.2,h.1.2,h.2⟩,h2⟩
 ·rintro⟨h | h,h2⟩
  ·exact⟨.inl ⟨⟨⟨h.1,h.2.1⟩,h.2.2.1⟩,h.2.2.2⟩,h2⟩
  ·exact⟨.inr ⟨⟨⟨h.1,h.2.1⟩,h.2.2.1⟩,h.2.2.2⟩,h2⟩
theorem sgn_B(x:Int):B 1 (sgn x):=by unfold sgn B;split;decide;split <;> decide
theorem iW3{k:Nat}{a b c d e f:Int}(hk:k≤1000000000000)(ha:B k a)(hb:B k b)(hc:B k c)(hd:B 500 d)(he:B 500 e)(hf:B 500 f)(n:Nat)(hn:4≤n) :
  Di_weighs n [a,b,c] [d,e,f]=some (decide ((sgn a≠0∧sgn b=sgn a∧sgn c=sgn a)∧(a*d+b*e+c*f)*sgn a≤0)):=by
 obtain⟨n,rfl⟩:∃m,n=m+4:=⟨n-4,by omega⟩
 have s1:w64 (0+a*d)=a*d:=by rw[Int.zero_add];exact w64_B' (ha.mul hd) (by omega)
 have s2:w64 (a*d+b*e)=a*d+b*e:=w64_B' ((ha.mul hd).add (hb.mul he)) (by omega)
 have s3:w64 (a*d+b*e+c*f)=a*d+b*e+c*f:=w64_B' (((ha.mul hd).add (hb.mul he)).add (hc.mul hf)) (by omega)
 have s4:w64 ((a*d+b*e+c*f)*sgn a)=(a*d+b*e+c*f)*sgn a:=w64_B' ((((ha.mul hd).add (hb.mul he)).add (hc.mul hf)).mul (sgn_B a)) (by omega)
 unfold Di_weighs
 show ((some a).bind _)=_
 simp only[oBs,iSign]
 rw[loop_suc]
 show Di_weighs_1 _ _ _ _ (([a,b,c]:List Int).length:Int) _ (0,((0:Nat):Int))=_
 rw[iWStep _ _ _ _ _ _ 0 (v:=a) (w:=d) rfl rfl,s1,w64_suc (by decide),loop_suc]
 rw[iWStep _ _ _ _ _ _ 1 (v:=b) (w:=e) rfl rfl,s2,w64_suc (by decide),loop_suc]
 rw[iWStep _ _ _ _ _ _ 2 (v:=c) (w:=f) rfl rfl,s3,w64_suc (by decide),loop_suc]
 rw[iWEnd _ _ _ _ _ _ 3 rfl,s4]
 by_cases h1:sgn a=0
 ·simp[h1]
 ·by_cases h2:sgn b=sgn a <;> by_cases h3:sgn c=sgn a <;> simp[h1,h2,h3]
theorem iW4{k:Nat}{a b c g d e f h:Int}(hk:k≤1000000000000)(ha:B k a)(hb:B k b)(hc:B k c)(hg:B k g)(hd:B 500 d)(he:B 500 e)(hf:B 500 f)(hh:B 500 h)(n:Nat)(hn:5≤n) :
  Di_weighs n [a,b,c,g] [d,e,f,h]=some (decide ((sgn a≠0∧sgn b=sgn a∧sgn c=sgn a∧sgn g=sgn a)∧(a*d+b*e+c*f+g*h)*sgn a≤0)):=by
 obtain⟨n,rfl⟩:∃m,n=m+5:=⟨n-5,by omega⟩
 have s1:w64 (0+a*d)=a*d:=by rw[Int.zero_add];exact w64_B' (ha.mul hd) (by omega)
 have s2:w64 (a*d+b*e)=a*d+b*e:=w64_B' ((ha.mul hd).add (hb.mul he)) (by omega)
 have s3:w64 (a*d+b*e+c*f)=a*d+b*e+c*f:=w64_B' (((ha.mul hd).add (hb.mul he)).add (hc.mul hf)) (by omega)
 have s4:w64 (a*d+b*e+c*f+g*h)=a*d+b*e+c*f+g*h:=w64_B' ((((ha.mul hd).add (hb.mul he)).add (hc.mul hf)).add (hg.mul hh)) (by omega)
 have s5:w64 ((a*d+b*e+c*f+g*h)*sgn a)=(a*d+b*e+c*f+g*h)*sgn a:=w64_B' (((((ha.mul hd).add (hb.mul he)).add (hc.mul hf)).add (hg.mul hh)).mul (sgn_B a)) (by omega)
 unfold Di_weighs
 show ((some a).bind _)=_
 simp only[oBs,iSign]
 rw[loop_suc]
 show Di_weighs_1 _ _ _ _ (([a,b,c,g]:List Int).length:Int) _ (0,((0:Nat):Int))=_
 rw[iWStep _ _ _ _ _ _ 0 (v:=a) (w:=d) rfl rfl,s1,w64_suc (by decide),loop_suc]
 rw[iWStep _ _ _ _ _ _ 1 (v:=b) (w:=e) rfl rfl,s2,w64_suc (by decide),loop_suc]
 rw[iWStep _ _ _ _ _ _ 2 (v:=c) (w:=f) rfl rfl,s3,w64_suc (by decide),loop_suc]
 rw[iWStep _ _ _ _ _ _ 3 (v:=g) (w:=h) rfl rfl,s4,w64_suc (by decide),loop_suc]
 rw[iWEnd _ _ _ _ _ _ 4 rfl,s5]
 by_cases h1:sgn a=0
 ·simp[h1]
 ·by_cases h2:sgn b=sgn a <;> by_cases h3:sgn c=sgn a <;> by_cases h4:sgn g=sgn a <;> simp[h1,h2,h3,h4]
theorem sgn_pos{x:Int}:sgn x=1↔x>0:=by unfold sgn;split;omega;split <;> omega
theorem sgn_neg{x:Int}:sgn x=-1↔x<0:=by unfold sgn;split;omega;split <;> omega
theorem sgn_zero{x:Int}:sgn x=0↔x=0:=by unfold sgn;split;omega;split <;> omega
def cl4 (p q r s:Pl):Bool :=
 decide (((det3 q r s>0∧0-det3 p r s>0∧det3 p q s>0∧0-det3 p q r>0)∨(det3 q r s<0∧0-det3 p r s<0∧det3 p q s<0∧0-det3 p q r<0)) ∧
  ((det3 q r s).natAbs:Int)*p.D+((0-det3 p r s).natAbs:Int)*q.D+((det3 p q s).natAbs:Int)*r.D+((0-det3 p q r).natAbs:Int)*s.D≤0)
theorem detB{p q r:Pl}(hp:PB p)(hq:PB q)(hr:PB r):B 750000000 (det3 p q r):=by
 have hc:=crB hq hr
 obtain⟨a1,a2,a3,a4⟩:=hp
 exact((a1.mul hc.1).add (a2.mul hc.2.1)).add (a3.mul hc.2.2)
theorem sClash4(p q r s:Pl)(hp:PB p)(hq:PB q)(hr:PB r)(hs:PB s)(n:Nat)(hn:5≤n):Dp_l6Clash4 n p q r s=some (cl4 p q r s):=by
 unfold Dp_l6Clash4
 rw[sDet3 q r s hq hr hs,sDet3 p r s hp hr hs,sDet3 p q s hp hq hs,sDet3 p q r hp hq hr]
 simp only[oBs]
 rw[w64_B (detB hp hr hs).zsub rfl,w64_B (detB hp hq hr).zsub rfl]
 rw[sSum4 (k:=750000000) (by omega) (detB hq hr hs) (detB hp hr hs).zsub (detB hp hq hs) (detB hp hq hr).zsub hp.2.2.2 hq.2.2.2 hr.2.2.2 hs.2.2.2 n hn]
 rfl
theorem four{a b c g d e f h:Int}:((sgn a≠0∧sgn b=sgn a∧sgn c=sgn a∧sgn g=sgn a)∧(a*d+b*e+c*f+g*h)*sgn a≤0) ↔
  (((a>0∧b>0∧c>0∧g>0)∨(a<0∧b<0∧c<0∧g<0))∧(a.natAbs:Int)*d+(b.natAbs:Int)*e+(c.natAbs:Int)*f+(g.natAbs:Int)*h≤0):=by
 by_cases ha:a>0
 ·have h1:sgn a=1:=sgn_pos.2 ha
  rw[h1]
  constructor
  ·rintro⟨⟨-,hb,hc,hg⟩,hs⟩
   have hb:=sgn_pos.1 hb;have hc:=sgn_pos.1 hc;have hg:=sgn_pos.1 hg
   refine⟨.inl ⟨ha,hb,hc,hg⟩,?_⟩
   rw[Int.natAbs_of_nonneg (by omega),Int.natAbs_of_nonneg (by omega),Int.natAbs_of_nonneg (by omega),Int.natAbs_of_nonneg (by omega)];omega
  ·rintro⟨⟨-,hb,hc,hg⟩ | h2,hs⟩
   ·refine⟨⟨by omega,sgn_pos.2 hb,sgn_pos.2 hc,sgn_pos.2 hg⟩,?_⟩
    rw[Int.natAbs_of_nonneg (by omega),Int.natAbs_of_nonneg (by omega),Int.natAbs_of_nonneg (by omega),Int.natAbs_of_nonneg (by omega)] at hs;omega
   ·omega
 ·by_cases ha':a<0
  ·have h1:sgn a=-1:=sgn_neg.2 ha'
   rw[h1]
   constructor
   ·rintro⟨⟨-,hb,hc,hg⟩,hs⟩
    have hb:=sgn_neg.1 hb;have hc:=sgn_neg.1 hc;have hg:=sgn_neg.1 hg
    refine⟨.inr ⟨ha',hb,hc,hg⟩,?_⟩
    rw[Int.ofNat_natAbs_of_nonpos (by omega),Int.ofNat_natAbs_of_nonpos (by omega),Int.ofNat_natAbs_of_nonpos (by omega),Int.ofNat_natAbs_of_nonpos (by omega)]
    simp only[Int.neg_mul];omega
   ·rintro⟨h2 | ⟨-,hb,hc,hg⟩,hs⟩
    ·omega
    ·refine⟨⟨by omega,sgn_neg.2 hb,sgn_neg.2 hc,sgn_neg.2 hg⟩,?_⟩
     rw[Int.ofNat_natAbs_of_nonpos (by omega),Int.ofNat_natAbs_of_nonpos (by omega),Int.ofNat_natAbs_of_nonpos (by omega),Int.ofNat_natAbs_of_nonpos (by omega)] at hs
     simp only[Int.neg_mul] at hs;omega
  ·have h1:sgn a=0:=sgn_zero.2 (by omega)
   rw[h1]
   constructor
   ·rintro⟨⟨h2,-⟩,-⟩;exact absurd rfl h2
   ·rintro⟨h2 | h2,-⟩ <;> omega
theorem iClash4(p q r s:Pl)(hp:PB p)(hq:PB q)(hr:PB r)(hs:PB s)(n:Nat)(hn:5≤n):Di_clash4 n p q r s=some (cl4 p q r s):=by
 unfold Di_clash4
 rw[iDet3 q r s hq hr hs,iDet3 p r s hp hr hs,iDet3 p q s hp hq hs,iDet3 p q r hp hq hr]
 simp only[oBs]
 rw[w64_B (detB hp hr hs).zsub rfl,w64_B (detB hp hq hr).zsub rfl]
 rw[iW4 (k:=750000000) (by omega) (detB hq hr hs) (detB hp hr hs).zsub (detB hp hq hs) (detB hp hq hr).zsub hp.2.2.2 hq.2.2.2 hr.2.2.2 hs.2.2.2 n hn]
 simp only[oBs]
 unfold cl4
 congr 1
 exact dec_iff four
theorem three{a b c d e f:Int}(hc:c>0):((sgn a≠0∧sgn b=sgn a∧sgn c=sgn a)∧(a*d+b*e+c*f)*sgn a≤0)↔((a>0∧b>0)∧a*d+b*e+c*f≤0):=by
 have h1:sgn c=1:=sgn_pos.2 hc
 rw[h1]
 constructor
 ·rintro⟨⟨-,h3,h4⟩,h5⟩
  rw[←h4] at h3 h5
  exact⟨⟨sgn_pos.1 h4.symm,sgn_pos.1 h3⟩,by omega⟩
 ·rintro⟨⟨h2,h3⟩,h5⟩
  rw[sgn_pos.2 h2,sgn_pos.2 h3]
  exact⟨⟨by decide,rfl,rfl⟩,by omega⟩
theorem mul_pos_iff{x y k l:Int}(hk:0<k)(hl:0<l)(h:x*k=y*l):0<x↔0<y:=by
 have h1:=scale_iff hk hl h
 omega
theorem core{x y w X Y Z d e f:Int}(hZ:0<Z)(hw:w≠0)(hX:X*w=x*Z)(hY:Y*w=y*Z) :
  (((x>0∧y>0∧w>0)∨(x<0∧y<0∧w<0))∧(x.natAbs:Int)*d+(y.natAbs:Int)*e+(w.natAbs:Int)*f≤0)↔((X>0∧Y>0)∧X*d+Y*e+Z*f≤0):=by
 by_cases h:0<w
 ·have h1:=mul_pos_iff h hZ hX
  have h2:=mul_pos_iff h hZ hY
  have key:(X*d+Y*e+Z*f)*w=(x*d+y*e+w*f)*Z:=by grind
  have h3:=scale_iff h hZ key
  constructor
  ·rintro⟨⟨hx,hy,-⟩ | h4,hs⟩
   ·refine⟨⟨h1.2 hx,h2.2 hy⟩,h3.2 ?_⟩
    rw[Int.natAbs_of_nonneg (by omega),Int.natAbs_of_nonneg (by omega),Int.natAbs_of_nonneg (by omega)] at hs;exact hs
   ·omega
  ·rintro⟨⟨hx,hy⟩,hs⟩
   have hx:=h1.1 hx;have hy:=h2.1 hy
   refine⟨.inl ⟨hx,hy,h⟩,?_⟩
   rw[Int.natAbs_of_nonneg (by omega),Int.natAbs_of_nonneg (by omega),Int.natAbs_of_nonneg (by omega)];exact h3.1 hs
 ·have h0:0< -w:=by omega
  have h1:0<X↔0< -x:=mul_pos_iff h0 hZ (by grind)
  have h2:0<Y↔0< -y:=mul_pos_iff h0 hZ (by grind)
  have key:(X*d+Y*e+Z*f)*(-w)=(-x*d + -y*e + -w*f)*Z:=by grind
  have h3:=scale_iff h0 hZ key
  constructor
  ·rintro⟨h4 | ⟨hx,hy,-⟩,hs⟩
   ·omega
   ·refine⟨⟨h1.2 (by omega),h2.2 (by omega)⟩,h3.2 ?_⟩
    rw[Int.ofNat_natAbs_of_nonpos (by omega),Int.ofNat_natAbs_of_nonpos (by omega),Int.ofNat_natAbs_of_nonpos (by omega)] at hs;exact hs
  ·rintro⟨⟨hx,hy⟩,hs⟩
   have hx:=h1.1 hx;have hy:=h2.1 hy
   refine⟨.inr ⟨by omega,by omega,by omega⟩,?_⟩
   rw[Int.ofNat_natAbs_of_nonpos (by omega),Int.ofNat_natAbs_of_nonpos (by omega),Int.ofNat_natAbs_of_nonpos (by omega)];exact h3.1 hs
def d3 (a b c d e f:Int):Int:=a*d+b*e+c*f
def cl3 (p q r:Pl):Bool :=
 decide (det3 p q r=0∧0<d3 (cr0 p q) (cr1 p q) (cr2 p q) (cr0 p q) (cr1 p q) (cr2 p q) ∧
  (d3 (cr0 q r) (cr1 q r) (cr2 q r) (cr0 p q) (cr1 p q) (cr2 p q)>0∧d3 (cr0 r p) (cr1 r p) (cr2 r p) (cr0 p q) (cr1 p q) (cr2 p q)>0) ∧
  d3 (cr0 q r) (cr1 q r) (cr2 q r) (cr0 p q) (cr1 p q) (cr2 p q)*p.D+d3 (cr0 r p) (cr1 r p) (cr2 r p) (cr0 p q) (cr1 p q) (cr2 p q)*q.D+d3 (cr0 p q) (cr1 p q) (cr2 p q) (cr0 p q) (cr1 p q) (cr2 p q)*r.D≤0)
theorem d3B{a b c d e f:Int}(h1:B 500000 a)(h2:B 500000 b)(h3:B 500000 c)(h4:B 500000 d)(h5:B 500000 e)(h6:B 500000 f):B 750000000000 (d3 a b c d e f):=((h1.mul h4).add (h2.mul h5)).add (h3.mul h6)
theorem d3_pos{a b c:Int}(h:¬(a=0∧b=0∧c=0)):0<d3 a b c a b c:=by
 unfold d3
 have h1:0≤a*a:=by rw[←Int.natAbs_mul_self];omega
 have h2:0≤b*b:=by rw[←Int.natAbs_mul_self];omega
 have h3:0≤c*c:=by rw[←Int.natAbs_mul_self];omega
 have key:∀x:Int,x≠0→0<x*x:=fun x hx=>by
  rw[←Int.natAbs_mul_self]
  have:0<x.natAbs:=by omega
  have:=Nat.mul_pos this this
  omega
 by_cases ha:a=0
 ·by_cases hb:b=0
  ·have:=key c (fun hc=>h ⟨ha,hb,hc⟩);omega
  ·have:=key b hb;omega
 ·have:=key a ha;omega
theorem iClash3(p q r:Pl)(hp:PB p)(hq:PB q)(hr:PB r)(n:Nat)(hn:4≤n):Di_clash3 n p q r=some (cl3 p q r):=by
 unfold Di_clash3 Di_normal
 simp only[oBs]
 rw[iDet p q r hp hq hr]
 have x1:=crB hp hq;have x2:=crB hq hr;have x3:=crB hr hp
 have hD:=And.intro hp.2.2.2 (And.intro hq.2.2.2 hr.2.2.2)
 obtain⟨a1,a2,a3,a4⟩:=hp;obtain⟨b1,b2,b3,b4⟩:=hq;obtain⟨c1,c2,c3,c4⟩:=hr
 rw[iCross (p.A,p.B,p.C) (q.A,q.B,q.C) 500 500 rfl a1 a2 a3 b1 b2 b3,iCross (q.A,q.B,q.C) (r.A,r.B,r.C) 500 500 rfl b1 b2 b3 c1 c2 c3,iCross (r.A,r.B,r.C) (p.A,p.B,p.C) 500 500 rfl c1 c2 c3 a1 a2 a3]
 simp only[oBs]
 show frk _ _ ((Di_dot (cr0 q r,cr1 q r,cr2 q r) (cr0 p q,cr1 p q,cr2 p q)).bind fun v6=>(Di_dot (cr0 r p,cr1 r p,cr2 r p) (cr0 p q,cr1 p q,cr2 p q)).bind fun v8=>(Di_dot (cr0 p q,cr1 p q,cr2 p q) (cr0 p q,cr1 p q,cr2 p q)).bind fun v9=>_)=_
 rw[iDot (cr0 q r,cr1 q r,cr2 q r) (cr0 p q,cr1 p q,cr2 p q) 500000 500000 rfl x2.1 x2.2.1 x2.2.2 x1.1 x1.2.1 x1.2.2,iDot (cr0 r p,cr1 r p,cr2 r p) (cr0 p q,cr1 p q,cr2 p q) 500000 500000 rfl x3.1 x3.2.1 x3.2.2 x1.1 x1.2.1 x1.2.2,iDot (cr0 p q,cr1 p q,cr2 p q) (cr0 p q,cr1 p q,cr2 p q) 500000 500000 rfl x1.1 x1.2.1 x1.2.2 x1.1 x1.2.1 x1.2.2]
 simp only[oBs]
 show frk _ _ ((Di_weighs n [d3 (cr0 q r) (cr1 q r) (cr2 q r) (cr0 p q) (cr1 p q) (cr2 p q),d3 (cr0 r p) (cr1 r p) (cr2 r p) (cr0 p q) (cr1 p q) (cr2 p q),d3 (cr0 p q) (cr1 p q) (cr2 p q) (cr0 p q) (cr1 p q) (cr2 p q)] [p.D,q.D,r.D]).bind _)=_
 rw[iW3 (k:=750000000000) (by omega) (d3B x2.1 x2.2.1 x2.2.2 x1.1 x1.2.1 x1.2.2) (d3B x3.1 x3.2.1 x3.2.2 x1.1 x1.2.1 x1.2.2) (d3B x1.1 x1.2.1 x1.2.2 x1.1 x1.2.1 x1.2.2) hD.1 hD.2.1 hD.2.2 n hn]
 simp only[oBs,frk_if,bne_iff_ne,ne_eq]
 unfold cl3
 by_cases h:det3 p q r=0
 ·rw[if_neg (by simpa using h)]
  congr 1
  by_cases hw:cr0 p q=0∧cr1 p q=0∧cr2 p q=0
  ·rw[hw.1,hw.2.1,hw.2.2]
   simp[d3,sgn]
  ·have hZ:=d3_pos hw
   apply dec_iff
   rw[three hZ]
   exact⟨fun h1=>⟨h,hZ,h1.1,h1.2⟩,fun h1=>⟨h1.2.2.1,h1.2.2.2⟩⟩
 ·rw[if_pos h]
  congr 1;symm;apply decide_eq_false;exact fun h1=>h h1.1
end Evl.T
namespace Evl.T
open Go Evl
theorem par3{p q r:Pl}(h:det3 p q r=0) :
  (cr0 q r*cr1 p q=cr1 q r*cr0 p q∧cr0 q r*cr2 p q=cr2 q r*cr0 p q∧cr1 q r*cr2 p q=cr2 q r*cr1 p q) ∧
  (cr0 r p*cr1 p q=cr1 r p*cr0 p q∧cr0 r p*cr2 p q=cr2 r p*cr0 p q∧cr1 r p*cr2 p q=cr2 r p*cr1 p q):=by
 obtain⟨a,b,c,d⟩:=p;obtain⟨e,f,g,i⟩:=q;obtain⟨j,k,l,m⟩:=r
 simp only[det3,cr0,cr1,cr2] at h ⊢
 refine⟨⟨?_,?_,?_⟩,?_,?_,?_⟩ <;> grind
theorem prj{x0 x1 x2 w0 w1 w2:Int}(h1:x0*w1=x1*w0)(h2:x0*w2=x2*w0)(h3:x1*w2=x2*w1) :
  d3 x0 x1 x2 w0 w1 w2*w0=x0*d3 w0 w1 w2 w0 w1 w2∧d3 x0 x1 x2 w0 w1 w2*w1=x1*d3 w0 w1 w2 w0 w1 w2∧d3 x0 x1 x2 w0 w1 w2*w2=x2*d3 w0 w1 w2 w0 w1 w2:=by
 unfold d3
 refine⟨?_,?_,?_⟩ <;> grind
theorem zero_of{x0 x1 x2 w0 w1 w2:Int}(h1:x0*w1=x1*w0)(h2:x0*w2=x2*w0)(hw:¬(w0=0∧w1=0∧w2=0))(h0:w0=0):x0=0:=by
 rw[h0,Int.mul_zero] at h1 h2
 rcases Int.mul_eq_zero.1 h1 with h | h
 ·exact h
 ·rcases Int.mul_eq_zero.1 h2 with h' | h'
  ·exact h'
  ·exact absurd ⟨h0,h,h'⟩ hw
def sk (x y w d e f:Int):Bool:=decide (((x>0∧y>0∧w>0)∨(x<0∧y<0∧w<0))∧(x.natAbs:Int)*d+(y.natAbs:Int)*e+(w.natAbs:Int)*f≤0)
theorem sk_zero(x y d e f:Int):sk x y 0 d e f=false:=by
 unfold sk;apply decide_eq_false;rintro⟨h | h,-⟩ <;> omega
theorem sk_cl3{p q r:Pl}{x y w:Int}(h:det3 p q r=0)(hw:¬(cr0 p q=0∧cr1 p q=0∧cr2 p q=0))(h0:w≠0)
  (hX:d3 (cr0 q r) (cr1 q r) (cr2 q r) (cr0 p q) (cr1 p q) (cr2 p q)*w=x*d3 (cr0 p q) (cr1 p q) (cr2 p q) (cr0 p q) (cr1 p q) (cr2 p q))
  (hY:d3 (cr0 r p) (cr1 r p) (cr2 r p) (cr0 p q) (cr1 p q) (cr2 p q)*w=y*d3 (cr0 p q) (cr1 p q) (cr2 p q) (cr0 p q) (cr1 p q) (cr2 p q)):sk x y w p.D q.D r.D=cl3 p q r:=by
 have hZ:=d3_pos hw
 unfold sk cl3
 apply dec_iff
 rw[core hZ h0 hX hY]
 exact⟨fun h1=>⟨h,hZ,h1.1,h1.2⟩,fun h1=>⟨h1.2.2.1,h1.2.2.2⟩⟩
theorem sClash3(p q r:Pl)(hp:PB p)(hq:PB q)(hr:PB r)(n:Nat)(hn:4≤n):Dp_l6Clash3 n p q r=some (cl3 p q r):=by
 have x1:=crB hp hq;have x2:=crB hq hr;have x3:=crB hr hp
 have hS:∀{x y w:Int},B 500000 x→B 500000 y→B 500000 w→Dp_l6Sum n [x,y,w] [p.D,q.D,r.D]=some (sk x y w p.D q.D r.D):=fun h1 h2 h3 =>
  sSum3 (k:=500000) (by omega) h1 h2 h3 hp.2.2.2 hq.2.2.2 hr.2.2.2 n hn
 have s0:=hS x2.1 x3.1 x1.1
 have s1:=hS x2.2.1 x3.2.1 x1.2.1
 have s2:=hS x2.2.2 x3.2.2 x1.2.2
 unfold Dp_l6Clash3
 rw[sDet3 p q r hp hq hr,sCross q r hq hr,sCross r p hr hp,sCross p q hp hq]
 simp only[oBs]
 show frk _ _ (frk (cr0 q r != 0) (Dp_l6Clash3_0 n p.A p.B p.C p.D q.A q.B q.C q.D r.A r.B r.C r.D (cr0 q r) (cr1 q r) (cr2 q r) (cr0 r p) (cr1 r p) (cr2 r p) (cr0 p q) (cr1 p q) (cr2 p q)) (frk (cr0 r p != 0) (Dp_l6Clash3_0 n p.A p.B p.C p.D q.A q.B q.C q.D r.A r.B r.C r.D (cr0 q r) (cr1 q r) (cr2 q r) (cr0 r p) (cr1 r p) (cr2 r p) (cr0 p q) (cr1 p q) (cr2 p q)) (Dp_l6Clash3_1 n (cr0 p q != 0) p.A p.B p.C p.D q.A q.B q.C q.D r.A r.B r.C r.D (cr0 q r) (cr1 q r) (cr2 q r) (cr0 r p) (cr1 r p) (cr2 r p) (cr0 p q) (cr1 p q) (cr2 p q))))=_
 unfold Dp_l6Clash3_1 Dp_l6Clash3_3 Dp_l6Clash3_5 Dp_l6Clash3_0 Dp_l6Clash3_2 Dp_l6Clash3_4
 simp only[s0,s1,s2,oBs,frk_if,bne_iff_ne,ne_eq,ite_not]
 by_cases h:det3 p q r=0
 ·rw[if_pos h]
  by_cases hw:cr0 p q=0∧cr1 p q=0∧cr2 p q=0
  ·have e:cl3 p q r=false:=by
    unfold cl3;rw[hw.1,hw.2.1,hw.2.2];simp[d3]
   rw[e,hw.1,hw.2.1,hw.2.2]
   simp only[sk_zero,if_true]
   split <;> (try rfl)
   split <;> (try rfl)
   split <;> (try rfl)
   split <;> (try rfl)
   split <;> (try rfl)
   split <;> rfl
  ·obtain⟨⟨g1,g2,g3⟩,g4,g5,g6⟩:=par3 h
   obtain⟨k0,k1,k2⟩:=prj g1 g2 g3
   obtain⟨l0,l1,l2⟩:=prj g4 g5 g6
   have w0:cr0 p q≠0→sk (cr0 q r) (cr0 r p) (cr0 p q) p.D q.D r.D=cl3 p q r:=fun h0=>sk_cl3 h hw h0 k0 l0
   have w1:cr1 p q≠0→sk (cr1 q r) (cr1 r p) (cr1 p q) p.D q.D r.D=cl3 p q r:=fun h0=>sk_cl3 h hw h0 k1 l1
   have w2:cr2 p q≠0→sk (cr2 q r) (cr2 r p) (cr2 p q) p.D q.D r.D=cl3 p q r:=fun h0=>sk_cl3 h hw h0 k2 l2
   have z0:cr0 p q=0→cr0 q r=0∧cr0 r p=0:=fun h0=>⟨zero_of g1 g2 hw h0,zero_of g4 g5 hw h0⟩
   have hw1:¬(cr1 p q=0∧cr0 p q=0∧cr2 p q=0):=fun h1=>hw ⟨h1.2.1,h1.1,h1.2.2⟩
   have hw2:¬(cr2 p q=0∧cr0 p q=0∧cr1 p q=0):=fun h1=>hw ⟨h1.2.1,h1.2.2,h1.1⟩
   have z1:cr1 p q=0→cr1 q r=0∧cr1 r p=0:=fun h0=>⟨zero_of g1.symm g3 hw1 h0,zero_of g4.symm g6 hw1 h0⟩
   by_cases h0:cr0 p q=0
   ·obtain⟨y1,y2⟩:=z0 h0
    simp only[h0,y1,y2,if_true]
    by_cases h1:cr1 p q=0
    ·obtain⟨y3,y4⟩:=z1 h1
     have h2:cr2 p q≠0:=fun h2=>hw ⟨h0,h1,h2⟩
     simp only[h1,y3,y4,if_true,w2 h2,if_neg h2]
     split <;> (try rfl)
     split <;> rfl
    ·simp only[w1 h1,if_neg h1]
     split <;> (try rfl)
     split <;> rfl
   ·simp only[w0 h0,if_neg h0]
    split <;> (try rfl)
    split <;> rfl
 ·rw[if_neg h]
  congr 1;symm;unfold cl3;apply decide_eq_false;exact fun h1=>h h1.1
end Evl.T
namespace Evl.T
open Go Evl
theorem frk_cond{α:Type}(b:Bool)(x y:Option α):frk b x y=cond b x y:=by cases b <;> rfl
theorem search{α:Type}{F:(Int→Option α)→Int→Option α}{len:Nat}{b:Nat→Bool}{hit miss:Option α}(hl:len≤big)
  (hF:∀rec (k:Nat),k<len→F rec (k:Int)=cond (b k) hit (rec (w64 ((k:Int)+1)))) (hE:∀rec,F rec (len:Int)=miss) :
  ∀(d k m:Nat),k+d=len→d<m→loopN F m (k:Int)=cond ((List.range' k d).any b) hit miss:=by
 intro d
 induction d with
 | zero =>
  intro k m hk hm
  obtain⟨m,rfl⟩:∃j,m=j+1:=⟨m-1,by omega⟩
  rw[loop_suc]
  have:k=len:=by omega
  subst this
  rw[hE];rfl
 | succ d ih =>
  intro k m hk hm
  obtain⟨m,rfl⟩:∃j,m=j+1:=⟨m-1,by omega⟩
  rw[loop_suc,hF _ k (by omega),w64_suc (by omega),ih (k+1) m (by omega) (by omega)]
  simp only[List.range'_succ,List.any_cons]
  cases b k <;> rfl
def gt (l:List Pl)(i:Nat):Pl:=(l[i]?).getD ⟨0,0,0,0⟩
theorem gt_some{l:List Pl}{i:Nat}(h:i<l.length):l[i]?=some (gt l i):=by
 unfold gt;rw[List.getElem?_eq_getElem h];rfl
theorem gt_mem{l:List Pl}{i:Nat}(h:i<l.length):gt l i∈l:=by
 have:=gt_some h
 exact List.mem_of_getElem? this
theorem gt_take{l:List Pl}{i j:Nat}(h:j<i)(hi:i≤l.length):(l.take i)[j]?=some (gt l j):=by
 rw[List.getElem?_take_of_lt h];exact gt_some (by omega)
def sAny4(l:List Pl)(p:Pl)(i j:Nat):Bool:=(List.range' (j+1) (l.length-(j+1))).any fun k=>cl4 (gt l i) (gt l j) (gt l k) p
def sAny3(l:List Pl)(p:Pl)(i:Nat):Bool:=(List.range' (i+1) (l.length-(i+1))).any fun j=>cl3 (gt l i) (gt l j) p||sAny4 l p i j
def wth (l:List Pl)(p:Pl):Bool:=(List.range' 0 l.length).any fun i=>cl2 (gt l i) p||sAny3 l p i
theorem lt_dec{a b:Nat}(h:a<b):decide ((a:Int)<(b:Int))=true:=by simpa using h
theorem lt_self(a:Nat):decide ((a:Int)<(a:Int))=false:=by simp
theorem sWith(l:List Pl)(p:Pl)(hl:∀q∈l,PB q)(hp:PB p)(hs:l.length≤big)(n:Nat)(hn:l.length+6≤n):Dp_l6With n l p=some (wth l p):=by
 have hg:∀{i},i<l.length→PB (gt l i):=fun h=>hl _ (gt_mem h)
 unfold Dp_l6With
 have h:=search (F:=Dp_l6With_2 n l (l.length:Int) p.A p.B p.C p.D) (len:=l.length) (b:=fun i=>cl2 (gt l i) p||sAny3 l p i) (hit:=some true) (miss:=some false) hs ?_ ?_ l.length 0 n (by omega) (by omega)
 ·rw[show (0:Int)=((0:Nat):Int) from rfl,h]
  unfold wth
  cases (List.range' 0 l.length).any fun i=>cl2 (gt l i) p||sAny3 l p i <;> rfl
 ·intro rec0 i hi
  unfold Dp_l6With_2
  simp only[lt_dec hi,frk_t,lget_nat,gt_some hi,oBs]
  rw[sClash2 _ _ (hg hi) hp]
  simp only[oBs]
  have h:=search (F:=Dp_l6With_1 n rec0 l (l.length:Int) p.A p.B p.C p.D (i:Int)) (len:=l.length) (b:=fun j=>cl3 (gt l i) (gt l j) p||sAny4 l p i j) (hit:=some true) (miss:=rec0 (w64 ((i:Int)+1))) hs ?_ ?_ (l.length-(i+1)) (i+1) n (by omega) (by omega)
  ·rw[w64_suc (by omega),h]
   simp only[sAny3]
   cases cl2 (gt l i) p
   ·rw[frk_f,Bool.false_or,w64_suc (show i<big by omega)]
   ·rw[frk_t,Bool.true_or,cond_true]
  ·intro rec1 j hj
   unfold Dp_l6With_1
   simp only[lt_dec hj,frk_t,lget_nat,gt_some hi,gt_some hj,oBs]
   rw[sClash3 _ _ _ (hg hi) (hg hj) hp n (by omega)]
   simp only[oBs]
   have h:=search (F:=Dp_l6With_0 n rec1 rec0 (i:Int) l (l.length:Int) p.A p.B p.C p.D (j:Int)) (len:=l.length) (b:=fun k=>cl4 (gt l i) (gt l j) (gt l k) p) (hit:=some true) (miss:=rec1 (w64 ((j:Int)+1))) hs ?_ ?_ (l.length-(j+1)) (j+1) n (by omega) (by omega)
   ·rw[w64_suc (by omega),h]
    simp only[sAny4]
    cases cl3 (gt l i) (gt l j) p
    ·rw[frk_f,Bool.false_or,w64_suc (show j<big by omega)]
    ·rw[frk_t,Bool.true_or,cond_true]
   ·intro rec2 k hk
    unfold Dp_l6With_0
    simp only[lt_dec hk,frk_t,lget_nat,gt_some hi,gt_some hj,gt_some hk,oBs]
    rw[sClash4 _ _ _ _ (hg hi) (hg hj) (hg hk) hp n (by omega)]
    simp only[oBs,frk_cond]
   ·intro rec2
    unfold Dp_l6With_0
    simp only[lt_self,frk_f]
  ·intro rec1
   unfold Dp_l6With_1
   simp only[lt_self,frk_f]
 ·intro rec0
  unfold Dp_l6With_2
  simp only[lt_self,frk_f]
def iAny4(l:List Pl)(p:Pl)(i j:Nat):Bool:=(List.range' 0 j).any fun k=>cl4 (gt l k) (gt l j) (gt l i) p
def iAny3(l:List Pl)(p:Pl)(i:Nat):Bool:=(List.range' 0 i).any fun j=>cl3 (gt l j) (gt l i) p||iAny4 l p i j
def iAny2(l:List Pl)(p:Pl):Bool:=(List.range' 0 l.length).any fun i=>cl2 (gt l i) p||iAny3 l p i
theorem iAny_wth(l:List Pl)(p:Pl):iAny2 l p=wth l p:=by
 rw[Bool.eq_iff_iff]
 simp only[iAny2,iAny3,iAny4,wth,sAny3,sAny4,List.any_eq_true,List.mem_range'_1,Bool.or_eq_true]
 constructor
 ·rintro⟨i,hi,h | ⟨j,hj,h | ⟨k,hk,h⟩⟩⟩
  ·exact⟨i,hi,.inl h⟩
  ·exact⟨j,by omega,.inr ⟨i,by omega,.inl h⟩⟩
  ·exact⟨k,by omega,.inr ⟨j,by omega,.inr ⟨i,by omega,h⟩⟩⟩
 ·rintro⟨i,hi,h | ⟨j,hj,h | ⟨k,hk,h⟩⟩⟩
  ·exact⟨i,hi,.inl h⟩
  ·exact⟨j,by omega,.inr ⟨i,by omega,.inl h⟩⟩
  ·exact⟨k,by omega,.inr ⟨j,by omega,.inr ⟨i,by omega,h⟩⟩⟩
theorem iRoom(l:List Pl)(p:Pl)(hl:∀q∈l,PB q)(hp:PB p)(hs:l.length≤big)(n:Nat)(hn:l.length+6≤n):Di_room n l p=some (!wth l p):=by
 have hg:∀{i},i<l.length→PB (gt l i):=fun h=>hl _ (gt_mem h)
 have htl:∀{i},i<l.length→(l.take i).length=i:=fun h=>by rw[List.length_take];omega
 unfold Di_room
 have h:=search (F:=Di_room_2 n l l (l.length:Int) p.A p.B p.C p.D) (len:=l.length) (b:=fun i=>cl2 (gt l i) p||iAny3 l p i) (hit:=some false) (miss:=some true) hs ?_ ?_ l.length 0 n (by omega) (by omega)
 ·rw[show (0:Int)=((0:Nat):Int) from rfl,h,←iAny_wth]
  unfold iAny2
  cases (List.range' 0 l.length).any fun i=>cl2 (gt l i) p||iAny3 l p i <;> rfl
 ·intro rec0 i hi
  unfold Di_room_2
  simp only[lt_dec hi,frk_t,lget_nat,gt_some hi,oBs]
  rw[iClash2 _ _ _ (hg hi) hp]
  simp only[oBs,lsl_take l i (Nat.le_of_lt hi),htl hi]
  have h:=search (F:=Di_room_1 n rec0 l l (l.length:Int) p.A p.B p.C p.D (i:Int) (l.take i) (i:Int) (gt l i).A (gt l i).B (gt l i).C (gt l i).D) (len:=i) (b:=fun j=>cl3 (gt l j) (gt l i) p||iAny4 l p i j) (hit:=some false) (miss:=rec0 (w64 ((i:Int)+1))) (by omega) ?_ ?_ i 0 n (by omega) (by omega)
  ·rw[show (0:Int)=((0:Nat):Int) from rfl,h]
   simp only[iAny3]
   cases cl2 (gt l i) p
   ·rw[frk_f,Bool.false_or]
   ·rw[frk_t,Bool.true_or,cond_true]
  ·intro rec1 j hj
   unfold Di_room_1
   simp only[lt_dec hj,frk_t,lget_nat,gt_take hj (Nat.le_of_lt hi),oBs]
   rw[iClash3 _ _ _ (hg (by omega)) (hg hi) hp n (by omega)]
   simp only[oBs,lsl_take l j (by omega),htl (show j<l.length by omega)]
   have h:=search (F:=Di_room_0 n rec1 rec0 (i:Int) (l.take i) (i:Int) (gt l i).A (gt l i).B (gt l i).C (gt l i).D l l (l.length:Int) p.A p.B p.C p.D (j:Int) (l.take j) (j:Int) (gt l j).A (gt l j).B (gt l j).C (gt l j).D) (len:=j) (b:=fun k=>cl4 (gt l k) (gt l j) (gt l i) p) (hit:=some false) (miss:=rec1 (w64 ((j:Int)+1))) (by omega) ?_ ?_ j 0 n (by omega) (by omega)
   ·rw[show (0:Int)=((0:Nat):Int) from rfl,h]
    simp only[iAny4]
    cases cl3 (gt l j) (gt l i) p
    ·rw[frk_f,Bool.false_or]
    ·rw[frk_t,Bool.true_or,cond_true]
   ·intro rec2 k hk
    unfold Di_room_0
    simp only[lt_dec hk,frk_t,lget_nat,gt_take hk (show j≤l.length by omega),oBs]
    rw[iClash4 _ _ _ _ (hg (by omega)) (hg (by omega)) (hg hi) hp n (by omega)]
    simp only[oBs,frk_cond]
   ·intro rec2
    unfold Di_room_0
    simp only[lt_self,frk_f]
  ·intro rec1
   unfold Di_room_1
   simp only[lt_self,frk_f]
 ·intro rec0
  unfold Di_room_2
  simp only[lt_self,frk_f]
end Evl.T
namespace Evl.T
open Go Evl
def rIn (a lo hi:Int):Bool:=decide (a≥lo)&&decide (a≤hi)
theorem sIn(a lo hi:Int):Dp_l1In a lo hi=some (rIn a lo hi):=by
 unfold Dp_l1In rIn;cases decide (a≥lo) <;> simp[frk_t,frk_f]
theorem iIn(a lo hi:Int):Di_inRange a lo hi=some (rIn a lo hi):=by
 unfold Di_inRange rIn;cases decide (a≥lo) <;> simp[frk_t,frk_f]
theorem iCoef(a:Int):Di_isCoef a=some (rIn a (-500) 500):=by unfold Di_isCoef;rw[iIn];rfl
theorem rIn_iff{a lo hi:Int}:rIn a lo hi=true↔lo≤a∧a≤hi:=by unfold rIn;simp
theorem tmod_nat(a b:Nat):Int.tmod (a:Int) (b:Int)=((a % b:Nat):Int):=by
 rw[Int.tmod_eq_emod_of_nonneg (by omega)];rfl
theorem sGcdStep(n:Nat)(rec:Int×Int→Option Int)(a b:Int):Dp_l3Gcd_0 n rec (a,b)=frk (decide (b>0)) ((rm .i64 a b).bind fun v=>rec (b,v)) (some a):=rfl
theorem iDivInStep(n:Nat)(rec0:Int×Int→Option Int)(l:List Int)(ln i:Int)(rec:Int×Int→Option Int)(a b:Int):Di_divisor_0 n rec0 l ln i rec (a,b)=frk (b != 0) ((rm .i64 a b).bind fun v=>rec (b,v)) (rec0 (a,w64 (i+1))):=rfl
theorem sGcdLoop(n:Nat):∀(b a m:Nat),b<m→loopN (Dp_l3Gcd_0 n) m ((a:Int),(b:Int))=some ((Nat.gcd a b:Nat):Int):=by
 intro b
 induction b using Nat.strongRecOn with
 | ind b ih =>
  intro a m hm
  obtain⟨m,rfl⟩:∃j,m=j+1:=⟨m-1,by omega⟩
  rw[loop_suc,sGcdStep]
  by_cases hb:b=0
  ·subst hb;simp[frk_f]
  ·have h1:decide ((b:Int)>0)=true:=by simpa using by omega
   rw[h1,frk_t]
   unfold rm
   rw[if_neg (by omega)]
   simp only[oBs,tmod_nat]
   rw[ih (a % b) (Nat.mod_lt _ (by omega)) b m (by have:=Nat.mod_lt a (show b>0 by omega);omega)]
   congr 2
   rw[Nat.gcd_comm b,Nat.gcd_comm a,Nat.gcd_rec b a]
theorem sGcd(n:Nat)(a b:Int)(ha:B 9223372036854775807 a)(hb:B 9223372036854775807 b)(hn:b.natAbs<n):Dp_l3Gcd n a b=some ((Nat.gcd a.natAbs b.natAbs:Nat):Int):=by
 unfold Dp_l3Gcd
 rw[sAbs a ha,sAbs b hb]
 exact sGcdLoop n _ _ _ hn
theorem iDivIn(n:Nat)(rec0:Int×Int→Option Int)(l:List Int)(ln i:Int):∀(b a m:Nat),b<m→loopN (Di_divisor_0 n rec0 l ln i) m ((a:Int),(b:Int))=rec0 (((Nat.gcd a b:Nat):Int),w64 (i+1)):=by
 intro b
 induction b using Nat.strongRecOn with
 | ind b ih =>
  intro a m hm
  obtain⟨m,rfl⟩:∃j,m=j+1:=⟨m-1,by omega⟩
  rw[loop_suc,iDivInStep]
  by_cases hb:b=0
  ·subst hb;simp[frk_f]
  ·have h1:((b:Int) != 0)=true:=by simpa using hb
   rw[h1,frk_t]
   unfold rm
   rw[if_neg (by omega)]
   simp only[oBs,tmod_nat]
   rw[ih (a % b) (Nat.mod_lt _ (by omega)) b m (by have:=Nat.mod_lt a (show b>0 by omega);omega)]
   congr 3
   rw[Nat.gcd_comm b,Nat.gcd_comm a,Nat.gcd_rec b a]
theorem maxAbs'(x:Int)(h:B 9223372036854775807 x):maxN x [w64 (0-x)]=(x.natAbs:Int):=by
 unfold B at h
 rw[w64_id (by omega) (by omega)]
 simp only[maxN];split <;> omega
theorem iDivStep(n:Nat)(l:List Int)(rec0:Int×Int→Option Int)(g i:Nat){v:Int}(hv:l[i]?=some v)(hB:B 9223372036854775807 v)(hn:v.natAbs<n) :
  Di_divisor_1 n l (l.length:Int) rec0 ((g:Int),(i:Int))=rec0 (((Nat.gcd g v.natAbs:Nat):Int),w64 ((i:Int)+1)):=by
 have hl:i<l.length:=(List.getElem?_eq_some_iff.1 hv).1
 unfold Di_divisor_1
 simp only[lt_dec hl,frk_t,lget_nat,hv,oBs,maxAbs' v hB]
 exact iDivIn n rec0 l _ _ _ _ _ hn
theorem iDivEnd(n:Nat)(l:List Int)(rec0:Int×Int→Option Int)(g i:Nat)(hi:l.length=i) :
  Di_divisor_1 n l (l.length:Int) rec0 ((g:Int),(i:Int))=some (g:Int):=by
 unfold Di_divisor_1
 subst hi
 simp only[lt_self,frk_f]
theorem iDiv4(n:Nat)(a b c d:Int)(ha:B 9223372036854775807 a)(hb:B 9223372036854775807 b)(hc:B 9223372036854775807 c)(hd:B 9223372036854775807 d)(h1:a.natAbs<n)(h2:b.natAbs<n)(h3:c.natAbs<n)(h4:d.natAbs<n)(h5:5≤n) :
  Di_divisor n [a,b,c,d]=some ((Nat.gcd (Nat.gcd (Nat.gcd a.natAbs b.natAbs) c.natAbs) d.natAbs:Nat):Int):=by
 unfold Di_divisor
 have key:∀m,5≤m→loopN (Di_divisor_1 n [a,b,c,d] (([a,b,c,d]:List Int).length:Int)) m (((0:Nat):Int),((0:Nat):Int))=some ((Nat.gcd (Nat.gcd (Nat.gcd a.natAbs b.natAbs) c.natAbs) d.natAbs:Nat):Int):=by
  intro m hm
  obtain⟨m,rfl⟩:∃j,m=j+5:=⟨m-5,by omega⟩
  rw[loop_suc,iDivStep n _ _ 0 0 (v:=a) rfl ha h1,w64_suc (by decide),loop_suc]
  rw[iDivStep n _ _ _ 1 (v:=b) rfl hb h2,w64_suc (by decide),loop_suc]
  rw[iDivStep n _ _ _ 2 (v:=c) rfl hc h3,w64_suc (by decide),loop_suc]
  rw[iDivStep n _ _ _ 3 (v:=d) rfl hd h4,w64_suc (by decide),loop_suc]
  rw[iDivEnd n _ _ _ 4 rfl,Nat.gcd_zero_left]
 exact key n h5
def pOk (p:Pl):Bool:=rIn p.A (-500) 500&&(rIn p.B (-500) 500&&(rIn p.C (-500) 500&&(rIn p.D (-500) 500&&(decide (p.A≠0∨p.B≠0∨p.C≠0)&&decide (Nat.gcd (Nat.gcd p.A.natAbs p.B.natAbs) (Nat.gcd p.C.natAbs p.D.natAbs)=1)))))
theorem pOk_PB{p:Pl}(h:pOk p=true):PB p:=by
 unfold pOk at h
 simp only[bAt,rIn_iff] at h
 obtain⟨h1,h2,h3,h4,-⟩:=h
 exact⟨B.of h1.1 h1.2,B.of h2.1 h2.2,B.of h3.1 h3.2,B.of h4.1 h4.2⟩
theorem rIn_B{a:Int}(h:rIn a (-500) 500=true):B 500 a:=B.of (rIn_iff.1 h).1 (rIn_iff.1 h).2
theorem beq1(k:Nat):(((k:Nat):Int)==1)=decide (k=1):=by
 rw[Bool.eq_iff_iff];simp;omega
theorem gcd_up{a b:Nat}(hb:b≤500):Nat.gcd a b≤500∨b=0:=by
 by_cases h:b=0
 ·exact .inr h
 ·exact .inl (Nat.le_trans (Nat.gcd_le_right a (by omega)) hb)
theorem gcd_500{a b:Nat}(ha:a≤500)(hb:b≤500):Nat.gcd a b≤500:=by
 rcases gcd_up (a:=a) hb with h | h
 ·exact h
 ·rw[h,Nat.gcd_zero_right];exact ha
theorem sPlaneOk(n:Nat)(p:Pl)(hn:502≤n):Dp_PlaneOk n p=some (pOk p):=by
 unfold Dp_PlaneOk Dp_l3In pOk
 simp only[sIn,oBs]
 cases h1:rIn p.A (-500) 500
 ·rfl
 cases h2:rIn p.B (-500) 500
 ·rfl
 cases h3:rIn p.C (-500) 500
 ·rfl
 cases h4:rIn p.D (-500) 500
 ·rfl
 have b1:=rIn_B h1;have b2:=rIn_B h2;have b3:=rIn_B h3;have b4:=rIn_B h4
 have u:∀{x},B 500 x→B 9223372036854775807 x:=fun h=>h.up (by decide)
 simp only[frk_t,oBs,Bool.true_and]
 have e1:=sGcd n p.A p.B (u b1) (u b2) (by unfold B at b2;omega)
 have e2:=sGcd n p.C p.D (u b3) (u b4) (by unfold B at b4;omega)
 have g1:Nat.gcd p.A.natAbs p.B.natAbs≤500:=gcd_500 b1 b2
 have g2:Nat.gcd p.C.natAbs p.D.natAbs≤500:=gcd_500 b3 b4
 have e3:=sGcd n ((Nat.gcd p.A.natAbs p.B.natAbs:Nat):Int) ((Nat.gcd p.C.natAbs p.D.natAbs:Nat):Int) (by unfold B;omega) (by unfold B;omega) (by omega)
 simp only[Int.natAbs_natCast] at e3
 simp only[e1,e2,e3,oBs,frk_if,bne_iff_ne,ne_eq,beq1]
 by_cases hA:p.A=0
 ·by_cases hB:p.B=0
  ·by_cases hC:p.C=0
   ·simp[hA,hB,hC]
   ·simp[hA,hB,hC]
  ·simp[hA,hB]
 ·simp[hA]
theorem iPlaneOk(n:Nat)(p:Pl)(hn:502≤n):Di_PlaneOk n p=some (pOk p):=by
 unfold Di_PlaneOk Di_PlaneOk_0 pOk
 simp only[iCoef,oBs]
 cases h1:rIn p.A (-500) 500
 ·rfl
 cases h2:rIn p.B (-500) 500
 ·rfl
 cases h3:rIn p.C (-500) 500
 ·rfl
 cases h4:rIn p.D (-500) 500
 ·rfl
 have b1:=rIn_B h1;have b2:=rIn_B h2;have b3:=rIn_B h3;have b4:=rIn_B h4
 have u:∀{x},B 500 x→B 9223372036854775807 x:=fun h=>h.up (by decide)
 have e:=iDiv4 n p.A p.B p.C p.D (u b1) (u b2) (u b3) (u b4) (by unfold B at b1;omega) (by unfold B at b2;omega) (by unfold B at b3;omega) (by unfold B at b4;omega) (by omega)
 simp only[Bool.not_true,frk_f,oBs,Bool.true_and,e,frk_if,bne_iff_ne,ne_eq,beq1,Nat.gcd_assoc]
 by_cases hA:p.A=0
 ·by_cases hB:p.B=0
  ·by_cases hC:p.C=0
   ·simp[hA,hB,hC]
   ·simp[hA,hB,hC]
  ·simp[hA,hB]
 ·simp[hA]
def flp (p:Pl):Pl:=⟨0-p.A,0-p.B,0-p.C,0-p.D⟩
theorem flp_PB{p:Pl}(h:PB p):PB (flp p):=⟨h.1.zsub,h.2.1.zsub,h.2.2.1.zsub,h.2.2.2.zsub⟩
theorem sFlip(p:Pl)(h:PB p):Dp_l3Flip p=some (flp p):=by
 unfold Dp_l3Flip
 rw[w64_B h.1.zsub rfl,w64_B h.2.1.zsub rfl,w64_B h.2.2.1.zsub rfl,w64_B h.2.2.2.zsub rfl];rfl
theorem iFlip(p:Pl)(h:PB p):Di_flip p=some (flp p):=by
 unfold Di_flip
 rw[w64_B h.1.zsub rfl,w64_B h.2.1.zsub rfl,w64_B h.2.2.1.zsub rfl,w64_B h.2.2.2.zsub rfl];rfl
end Evl.T
namespace Evl.T
open Go Evl
theorem sol_ind{P:Sol→Prop}(h:∀i p k,(∀x∈k,P x)→P (.mk i p k)):∀s,P s:=by
 have key:∀n:Nat,∀s:Sol,sizeOf s<n→P s:=by
  intro n
  induction n with
  | zero=>intro s hs;omega
  | succ n ih =>
   intro s hs
   obtain⟨i,p,k⟩:=s
   exact h i p k fun x hx=>ih x (by
    have h1:=List.sizeOf_lt_of_mem hx
    simp only[Sol.mk.sizeOf_spec] at hs;omega)
 exact fun s=>key (sizeOf s+1) s (by omega)
inductive Lens:Sol→Prop
 | mk {i p k}:k.length≤big→(∀x∈k,Lens x)→Lens (.mk i p k)
mutual
def tot:Sol→Nat
 | .mk _ _ k=>k.length+totL k
def totL:List Sol→Nat
 | []=>0
 | x::xs=>tot x+totL xs
end
theorem tot_le{l:List Sol}{x:Sol}(h:x∈l):tot x≤totL l:=by
 induction l with
 | nil=>cases h
 | cons y l ih =>
  simp only[totL]
  rcases List.mem_cons.1 h with rfl | h
  ·omega
  ·have:=ih h;omega
theorem tot_mk(i:Bool)(p:Pl)(k:List Sol):tot (.mk i p k)=k.length+totL k:=by rw[tot]
mutual
def nod:Sol→Nat
 | .mk _ _ k=>match k with
  | []=>0
  | x::xs=>1+(nod x+nodL xs)
def nodL:List Sol→Nat
 | []=>0
 | x::xs=>nod x+nodL xs
end
theorem nod_leaf(i:Bool)(p:Pl):nod (.mk i p [])=0:=by rw[nod]
theorem nod_node(i:Bool)(p:Pl)(x:Sol)(xs:List Sol):nod (.mk i p (x::xs))=1+nodL (x::xs):=by rw[nod,nodL]
theorem nodL_nil:nodL []=0:=rfl
theorem nodL_cons(x:Sol)(xs:List Sol):nodL (x::xs)=nod x+nodL xs:=by rw[nodL]
theorem drop_get{α:Type}{l r:List α}{x:α}{k:Nat}(h:l.drop k=x::r):k<l.length∧l[k]?=some x∧l.drop (k+1)=r∧x∈l:=by
 have hkl:k<l.length:=by
  rcases Nat.lt_or_ge k l.length with h' | h'
  ·exact h'
  ·rw[List.drop_eq_nil_of_le h'] at h;cases h
 have hx:l[k]?=some x:=by
  have:=congrArg List.head? h
  simpa using this
 exact⟨hkl,hx,by rw[←List.drop_drop,h];rfl,List.mem_of_getElem? hx⟩
def zPl (p:Pl):Bool:=p.A==0&&(p.B==0&&(p.C==0&&(p.D==0&&true)))
inductive Rt:Sol→List Pl→Prop
 | leaf {i p path}:zPl p=true→Rt (.mk i p []) path
 | node {p a b path}:pOk p=true→path.length<24→wth path p=false→wth path (flp p)=false→Rt a (path++[p])→Rt b (path++[flp p])→Rt (.mk false p [a,b]) path
end Evl.T
namespace Evl.T
open Go Evl
theorem sPath(path:List Pl)(p:Pl)(h:path.length≤1000):Dp_l8Path path p=some (path++[p]):=by
 unfold Dp_l8Path
 rw[chk_eq,chk_eq]
 ·rfl
 ·simp only[apB,List.nil_append,bAt,decide_eq_true_eq];omega
 ·simp only[apB,bAt,decide_eq_true_eq];omega
theorem iPath(path:List Pl)(p:Pl)(h:path.length≤1000):Di_with path p=some (path++[p]):=sPath path p h
theorem path_PB{path:List Pl}{p:Pl}(h:∀q∈path,PB q)(hp:PB p):∀q∈path++[p],PB q:=by
 intro q hq
 rcases List.mem_append.1 hq with hq | hq
 ·exact h q hq
 ·rw[List.mem_singleton.1 hq];exact hp
theorem rStep(n:Nat)(self:Int×Sol×List Pl→Option (Bool×Int))(c:Int)(i:Bool)(p:Pl)(k:List Sol)(path:List Pl):Di_checker_right_b n self (c,.mk i p k,path) =
  frk ((k.length:Int)==0) (some (zPl p,c)) (frk i (some (false,w64 (c+1))) (frk ((k.length:Int) != 2) (some (false,w64 (c+1))) (frk (decide (w64 (c+1)>300)) (some (false,w64 (c+1))) (frk (decide ((path.length:Int)≥24)) (some (false,w64 (c+1))) ((Di_PlaneOk n p).bind fun v1=>frk (!v1) (some (false,w64 (c+1))) ((Di_flip p).bind fun v2=>(Di_room n path p).bind fun v3=>frk (!v3) (some (false,w64 (c+1))) ((Di_room n path v2).bind fun v4=>frk (!v4) (some (false,w64 (c+1)))
   ((lget k 0).bind fun v5=>(Di_with path p).bind fun v6=>(self (w64 (c+1),v5,v6)).bind fun v7=>frk v7.1 ((lget k 1).bind fun v8=>(Di_with path v2).bind fun v9=>(self (v7.2,v8,v9)).bind fun v10=>some v10) (some (false,v7.2)))))))))):=rfl
theorem nodL2(x y:Sol):nodL [x,y]=nod x+nod y:=by rw[nodL_cons,nodL_cons,nodL_nil];omega
theorem nod2(i:Bool)(p:Pl)(x y:Sol):nod (.mk i p [x,y])=1+(nod x+nod y):=by rw[nod_node,nodL2]
theorem rightOk:∀s,E2 fun n m=>∀(c:Nat) (path:List Pl),(∀q∈path,PB q)→path.length≤24→c≤300 →
  ∃b c',loopN (Di_checker_right_b n) m ((c:Int),s,path)=some (b,c')∧(b=true↔Rt s path∧c+nod s≤300)∧(b=true→c'=((c+nod s:Nat):Int)):=by
 refine sol_ind fun i p k ih=>?_
 have h1:=E2.all fun x hx=>ih x hx
 have h2:E2 fun n _=>600<n:=⟨601,fun n hn _ _=>by omega⟩
 refine E2.suc ((h1.and h2).mono fun n m ⟨h1,h2⟩ c path hP hL hc=>?_)
 have hw:w64 ((c:Int)+1)=((c+1:Nat):Int):=w64_suc (by unfold big;omega)
 rw[loop_suc,rStep,hw]
 have no:∀(c':Int),¬(Rt (.mk i p k) path∧c+nod (.mk i p k)≤300)→∃b c'',some (false,c')=some (b,c'')∧(b=true↔Rt (.mk i p k) path∧c+nod (.mk i p k)≤300)∧(b=true→c''=((c+nod (.mk i p k):Nat):Int)) :=
  fun c' h=>⟨false,c',rfl,⟨fun h'=>(by cases h'),fun h'=>absurd h' h⟩,fun h'=>(by cases h')⟩
 match k,h1,no with
 | [],_,_ =>
  refine⟨zPl p,c,rfl,⟨fun h=>⟨.leaf h,(by rw[nod_leaf];omega)⟩,fun h=>(by have:=h.1;cases this;assumption)⟩,fun _=>by rw[nod_leaf];rfl⟩
 | [x],_,no =>
  show ∃b c',frk i (some (false,_)) (some (false,_))=some (b,c')∧_
  cases i
  ·rw[frk_f];exact no _ (fun h=>by have:=h.1;cases this)
  ·rw[frk_t];exact no _ (fun h=>by have:=h.1;cases this)
 | x::y::z::r,_,no =>
  have e1:(((x::y::z::r).length:Int)==0)=false:=by simp;omega
  have e2:(((x::y::z::r).length:Int) != 2)=true:=by simp;omega
  rw[e1,frk_f,e2,frk_t]
  cases i
  ·rw[frk_f];exact no _ (fun h=>by have:=h.1;cases this)
  ·rw[frk_t];exact no _ (fun h=>by have:=h.1;cases this)
 | [x,y],h1,no =>
  rw[show ((([x,y]:List Sol).length:Int)==0)=false from rfl,frk_f,show ((([x,y]:List Sol).length:Int) != 2)=false from rfl,frk_f]
  cases i with
  | true=>rw[frk_t];exact no _ (fun h=>by have:=h.1;cases this)
  | false =>
   rw[frk_f]
   by_cases h3:((c+1:Nat):Int)>300
   ·rw[decide_eq_true h3,frk_t];exact no _ (fun h=>by have:=h.2;rw[nod2] at this;omega)
   ·rw[decide_eq_false h3,frk_f]
    by_cases hl:(path.length:Int)≥24
    ·rw[decide_eq_true hl,frk_t];exact no _ (fun h=>by have:=h.1;cases this;omega)
    ·rw[decide_eq_false hl,frk_f,iPlaneOk n p (by omega),oBs]
     cases hp:pOk p with
     | false=>rw[Bool.not_false,frk_t];exact no _ (fun h=>by have:=h.1;cases this;simp_all)
     | true =>
      have hpb:=pOk_PB hp
      rw[Bool.not_true,frk_f,iFlip p hpb,oBs,iRoom path p hP hpb (by unfold big;omega) n (by omega),oBs]
      cases hw:wth path p with
      | true=>rw[Bool.not_true,Bool.not_false,frk_t];exact no _ (fun h=>by have:=h.1;cases this;simp_all)
      | false =>
       rw[Bool.not_false,Bool.not_true,frk_f,iRoom path (flp p) hP (flp_PB hpb) (by unfold big;omega) n (by omega),oBs]
       cases hw2:wth path (flp p) with
       | true=>rw[Bool.not_true,Bool.not_false,frk_t];exact no _ (fun h=>by have:=h.1;cases this;simp_all)
       | false =>
        rw[Bool.not_false,Bool.not_true,frk_f]
        obtain⟨b,c',e1,e2,e3⟩:=h1 x (by simp) (c+1) _ (path_PB hP hpb) (by simp;omega) (by omega)
        show ∃b c',((some x).bind _)=some (b,c')∧_
        rw[oBs,iPath path p (by omega),oBs,e1,oBs]
        cases b with
        | false =>
         rw[frk_f]
         exact no _ (fun h=>by
          have h4:=h.2;rw[nod2] at h4
          have h5:=h.1
          cases h5 with
          | node _ _ _ _ ha hb=>exact absurd (e2.2 ⟨ha,by omega⟩) (by decide))
        | true =>
         rw[frk_t]
         obtain⟨ha,hn⟩:=e2.1 rfl
         obtain rfl:=e3 rfl
         obtain⟨b2,c2,f1,f2,f3⟩:=h1 y (by simp) (c+1+nod x) _ (path_PB hP (flp_PB hpb)) (by simp;omega) (by omega)
         show ∃b c',((some y).bind _)=some (b,c')∧_
         rw[oBs,iPath path _ (by omega),oBs]
         simp only
         rw[f1,oBs]
         refine⟨b2,c2,rfl,?_,?_⟩
         ·rw[f2,nod2]
          constructor
          ·intro h;exact⟨.node hp (by omega) hw hw2 ha h.1,by omega⟩
          ·rintro⟨h,h4⟩
           cases h with
           | node _ _ _ _ _ hb=>exact⟨hb,by omega⟩
         ·intro h;rw[f3 h,nod2];omega
def Right(s:Sol):Prop:=Rt s []∧nod s≤300
open Classical in
theorem iSolidOk(s:Sol):Ev fun n=>Di_SolidOk n s=some (decide (Right s)):=by
 refine(rightOk s).ev.mono fun n h1=>?_
 unfold Di_SolidOk Di_checker_right
 obtain⟨b,c',e1,e2,e3⟩:=h1 0 [] (fun q hq=>by cases hq) (by simp) (by omega)
 rw[show (0:Int)=((0:Nat):Int) from rfl,e1,oBs]
 congr 1
 rw[Bool.eq_iff_iff,decide_eq_true_iff,e2]
 unfold Right
 rw[Nat.zero_add]
end Evl.T
namespace Evl.T
open Go Evl
def cnv (t:Nat)(left:Int):Int:=if (t:Int)≤left then t else left
theorem cnv_yes{t:Nat}{left:Int}(h:(t:Int)≤left):cnv t left=t:=if_pos h
theorem cnv_no{t:Nat}{left:Int}(h:¬(t:Int)≤left):cnv t left=left:=if_neg h
theorem cStep(n:Nat)(self:Sol×Int→Option Int)(i:Bool)(p:Pl)(k:List Sol)(left:Int):Dp_l8Count_b n self (.mk i p k,left)=frk ((k.length:Int)==0) (some 0) (frk (decide (left≤0)) (some 0) (loopN (Dp_l8Count_1 n self left i p.A p.B p.C p.D k) n (1,0))):=rfl
theorem cLoopStep(n:Nat)(self:Sol×Int→Option Int)(left:Int)(i:Bool)(a b c d:Int)(k:List Sol)(rec:Int×Int→Option Int)(s j:Int):Dp_l8Count_1 n self left i a b c d k rec (s,j) =
  frk (decide (j<(k.length:Int))) ((lget k j).bind fun v1=>(self (v1,w64 (left-s))).bind fun v2=>rec (w64 (s+v2),w64 (j+1))) (some s):=rfl
theorem cLoop(n:Nat)(self:Sol×Int→Option Int)(left:Int)(hl0:left≤301)(i:Bool)(a b c d:Int)(k:List Sol)(hb:k.length≤big)(hs:∀x∈k,∀left:Int,0≤left→left≤301→self (x,left)=some (cnv (nod x) left)) :
  ∀(r:List Sol) (j m:Nat),k.drop j=r→j≤k.length→r.length<m→∀s:Int,0≤s→s≤left→loopN (Dp_l8Count_1 n self left i a b c d k) m (s,(j:Int))=some (if s+(nodL r:Int)≤left then s+nodL r else left):=by
 intro r
 induction r with
 | nil =>
  intro j m hr hj hm s h0 h1
  obtain⟨m,rfl⟩:∃q,m=q+1:=⟨m-1,by omega⟩
  have hj:j=k.length:=by have:=List.drop_eq_nil_iff.1 hr;omega
  subst hj
  rw[loop_suc,cLoopStep,lt_self,frk_f,nodL_nil,if_pos (by omega)];congr 1;omega
 | cons x r ih =>
  intro j m hr hj hm s h0 h1
  simp only[List.length_cons] at hm
  obtain⟨m,rfl⟩:∃q,m=q+1:=⟨m-1,by omega⟩
  obtain⟨hjl,hx,hr',hmem⟩:=drop_get hr
  rw[loop_suc,cLoopStep,lt_dec hjl,frk_t,lget_nat,hx,oBs,w64_id (by omega) (by omega),hs x hmem (left-s) (by omega) (by omega),oBs,w64_suc (by omega),nodL_cons]
  by_cases hc:(nod x:Int)≤left-s
  ·rw[cnv_yes hc,w64_id (by omega) (by omega),ih (j+1) m hr' (by omega) (by omega) _ (by omega) (by omega)]
   by_cases h2:s+(nod x:Int)+(nodL r:Int)≤left
   ·rw[if_pos h2,if_pos (by omega)];congr 1;omega
   ·rw[if_neg h2,if_neg (by omega)]
  ·rw[cnv_no hc,w64_id (by omega) (by omega),ih (j+1) m hr' (by omega) (by omega) _ (by omega) (by omega),if_neg (show ¬(s+((nod x+nodL r:Nat):Int)≤left) by omega)]
   by_cases h2:s+(left-s)+(nodL r:Int)≤left
   ·rw[if_pos h2];congr 1;omega
   ·rw[if_neg h2]
theorem cntOk:∀s,Lens s→E2 fun n m=>∀left:Int,0≤left→left≤301→loopN (Dp_l8Count_b n) m (s,left)=some (cnv (nod s) left):=by
 refine sol_ind fun i p k ih hl=>?_
 cases hl with
 | mk hb hk =>
  have h1:=E2.all fun x hx=>ih x hx (hk x hx)
  have h2:E2 fun n _=>k.length<n:=⟨k.length+1,fun n hn _ _=>by omega⟩
  refine E2.suc ((h1.and h2).mono fun n m ⟨h1,h2⟩ left l0 l1=>?_)
  rw[loop_suc,cStep]
  cases k with
  | nil=>rw[nod_leaf,cnv_yes (by omega)];exact rfl
  | cons x xs =>
   have e:(((x::xs).length:Int)==0)=false:=by simp;omega
   rw[e,frk_f]
   by_cases hc:left≤0
   ·rw[decide_eq_true hc,frk_t,nod_node,cnv_no (by omega)];congr 1;omega
   ·rw[decide_eq_false hc,frk_f]
    have:=cLoop n (loopN (Dp_l8Count_b n) m) left l1 i p.A p.B p.C p.D (x::xs) hb h1 (x::xs) 0 n (by simp) (by omega) h2 1 (by omega) (by omega)
    rw[show (0:Int)=((0:Nat):Int) from rfl,this,nod_node]
    unfold cnv
    by_cases h3:1+(nodL (x::xs):Int)≤left
    ·rw[if_pos h3,if_pos (by omega)];congr 1
    ·rw[if_neg h3,if_neg (by omega)]
theorem cnt(s:Sol)(h:Lens s):Ev fun n=>Dp_l8Count n s 301=some (cnv (nod s) 301) :=
 (cntOk s h).ev.mono fun n hn=>hn 301 (by decide) (by decide)
theorem lStep(n:Nat)(self:Sol×List Pl→Option Bool)(i:Bool)(p:Pl)(k:List Sol)(path:List Pl):Dp_l8Look_b n self (.mk i p k,path) =
  frk ((k.length:Int)==0) (some (zPl p)) (frk ((k.length:Int) != 2) (some false) (frk i (some false) ((Dp_PlaneOk n p).bind fun v1=>frk (!v1) (some false) (frk ((path.length:Int)==24) (some false) ((Dp_l6With n path p).bind fun v2=>frk v2 (some false) ((Dp_l3Flip p).bind fun v3=>(Dp_l6With n path v3).bind fun v4 =>
   frk v4 (some false) ((lget k 0).bind fun v5=>(Dp_l8Path path p).bind fun v6=>(self (v5,v6)).bind fun v7=>frk v7 ((lget k 1).bind fun v8=>(Dp_l3Flip p).bind fun v9=>(Dp_l8Path path v9).bind fun v10=>(self (v8,v10)).bind fun v11=>some v11) (some false)))))))):=rfl
open Classical in
theorem lookOk:∀s,E2 fun n m=>∀path:List Pl,(∀q∈path,PB q)→path.length≤24→loopN (Dp_l8Look_b n) m (s,path)=some (decide (Rt s path)):=by
 refine sol_ind fun i p k ih=>?_
 have h1:=E2.all fun x hx=>ih x hx
 have h2:E2 fun n _=>600<n:=⟨601,fun n hn _ _=>by omega⟩
 refine E2.suc ((h1.and h2).mono fun n m ⟨h1,h2⟩ path hP hL=>?_)
 rw[loop_suc,lStep]
 match k,h1 with
 | [],_ =>
  show some (zPl p)=_
  congr 1
  rw[Bool.eq_iff_iff,decide_eq_true_iff]
  exact⟨fun h=>.leaf h,fun h=>by cases h;assumption⟩
 | [x],_ =>
  show some false=_
  congr 1;symm;apply decide_eq_false;intro h;cases h
 | x::y::z::r,_ =>
  have e1:(((x::y::z::r).length:Int)==0)=false:=by simp;omega
  have e2:(((x::y::z::r).length:Int) != 2)=true:=by simp;omega
  rw[e1,frk_f,e2,frk_t]
  congr 1;symm;apply decide_eq_false;intro h;cases h
 | [x,y],h1 =>
  show frk i _ _=_
  cases i with
  | true=>rw[frk_t];congr 1;symm;apply decide_eq_false;intro h;cases h
  | false =>
   rw[frk_f,sPlaneOk n p (by omega),oBs]
   cases hp:pOk p with
   | false=>rw[Bool.not_false,frk_t];congr 1;symm;apply decide_eq_false;intro h;cases h;simp_all
   | true =>
    have hpb:=pOk_PB hp
    rw[Bool.not_true,frk_f]
    by_cases hl:path.length=24
    ·have e1:((path.length:Int)==24)=true:=by simp;omega
     rw[e1,frk_t];congr 1;symm;apply decide_eq_false;intro h;cases h;omega
    ·have e1:((path.length:Int)==24)=false:=by simp;omega
     rw[e1,frk_f,sWith path p hP hpb (by unfold big;omega) n (by omega),oBs]
     cases hw:wth path p with
     | true=>rw[frk_t];congr 1;symm;apply decide_eq_false;intro h;cases h;simp_all
     | false =>
      rw[frk_f,sFlip p hpb,oBs,sWith path (flp p) hP (flp_PB hpb) (by unfold big;omega) n (by omega),oBs]
      cases hw2:wth path (flp p) with
      | true=>rw[frk_t];congr 1;symm;apply decide_eq_false;intro h;cases h;simp_all
      | false =>
       rw[frk_f]
       show ((some x).bind _)=_
       rw[oBs,sPath path p (by omega),oBs,h1 x (by simp) _ (path_PB hP hpb) (by simp;omega),oBs]
       by_cases ha:Rt x (path++[p])
       ·rw[decide_eq_true ha,frk_t]
        show ((some y).bind _)=_
        rw[oBs,oBs,sPath path _ (by omega),oBs,h1 y (by simp) _ (path_PB hP (flp_PB hpb)) (by simp;omega),oBs]
        congr 1
        rw[Bool.eq_iff_iff,decide_eq_true_iff,decide_eq_true_iff]
        exact⟨fun h=>.node hp (by omega) hw hw2 ha h,fun h=>by cases h;assumption⟩
       ·rw[decide_eq_false ha,frk_f];congr 1;symm;apply decide_eq_false;intro h;cases h;exact ha (by assumption)
end Evl.T
namespace Evl.T
open Go Evl
open Classical in
theorem sSolidOk(s:Sol)(h:Lens s):Ev fun n=>Dp_SolidOk n s=some (decide (Right s)):=by
 refine((cnt s h).and (lookOk s).ev).mono fun n ⟨h1,h2⟩=>?_
 unfold Dp_SolidOk
 rw[h1,oBs]
 by_cases hc:(nod s:Int)≤301
 ·rw[cnv_yes hc]
  by_cases h3:(nod s:Int)≤300
  ·rw[decide_eq_true h3,frk_t]
   unfold Dp_l8Look
   rw[h2 [] (fun q hq=>by cases hq) (by simp),oBs]
   congr 1
   rw[Bool.eq_iff_iff,decide_eq_true_iff,decide_eq_true_iff]
   exact⟨fun h=>⟨h,by omega⟩,fun h=>h.1⟩
  ·rw[decide_eq_false h3,frk_f];congr 1;symm;apply decide_eq_false;intro h;have:=h.2;omega
 ·rw[cnv_no hc];show some false=_;congr 1;symm;apply decide_eq_false;intro h;have:=h.2;omega
end Evl.T
namespace Evl.T
open Go Evl
theorem wth_iff(l:List Pl)(p:Pl):wth l p=true↔∃i,i<l.length∧(cl2 (gt l i) p=true∨∃j,i<j∧j<l.length∧(cl3 (gt l i) (gt l j) p=true∨∃k,j<k∧k<l.length∧cl4 (gt l i) (gt l j) (gt l k) p=true)):=by
 unfold wth sAny3 sAny4
 simp only[List.any_eq_true,List.mem_range'_1,Bool.or_eq_true]
 constructor
 ·rintro⟨i,hi,h | ⟨j,hj,h | ⟨k,hk,h⟩⟩⟩
  ·exact⟨i,by omega,.inl h⟩
  ·exact⟨i,by omega,.inr ⟨j,by omega,by omega,.inl h⟩⟩
  ·exact⟨i,by omega,.inr ⟨j,by omega,by omega,.inr ⟨k,by omega,by omega,h⟩⟩⟩
 ·rintro⟨i,hi,h | ⟨j,hj,hj2,h | ⟨k,hk,hk2,h⟩⟩⟩
  ·exact⟨i,by omega,.inl h⟩
  ·exact⟨i,by omega,.inr ⟨j,by omega,.inl h⟩⟩
  ·exact⟨i,by omega,.inr ⟨j,by omega,.inr ⟨k,by omega,h⟩⟩⟩
theorem wth_less{l1 l2:List Pl}{x p:Pl}(h:wth (l1++x::l2) p=false):wth (l1++l2) p=false:=by
 have key:¬wth (l1++x::l2) p=true:=by simp[h]
 rw[←Bool.not_eq_true]
 intro h2
 apply key
 rw[wth_iff] at h2 ⊢
 let f:Nat→Nat:=fun i=>if i<l1.length then i else i+1
 have fd:∀i,f i=if i<l1.length then i else i+1:=fun _=>rfl
 have f1:∀i j,i<j→f i<f j:=fun i j hij=>by
  rw[fd,fd]
  split <;> split <;> omega
 have f2:∀i,i<(l1++l2).length→f i<(l1++x::l2).length:=fun i hi=>by
  simp only[List.length_append,List.length_cons] at hi ⊢
  rw[fd]
  split <;> omega
 have f3:∀i,gt (l1++x::l2) (f i)=gt (l1++l2) i:=fun i=>by
  unfold gt
  show (((l1++x::l2)[if i<l1.length then i else i+1]?).getD _)=_
  split
  ·rename_i hi;rw[List.getElem?_append_left hi,List.getElem?_append_left hi]
  ·rename_i hi
   rw[List.getElem?_append_right (by omega),List.getElem?_append_right (by omega),show i+1-l1.length=(i-l1.length)+1 by omega,List.getElem?_cons_succ]
 obtain⟨i,hi,h | ⟨j,hj,hj2,h | ⟨k,hk,hk2,h⟩⟩⟩:=h2
 ·exact⟨f i,f2 i hi,.inl (by rw[f3];exact h)⟩
 ·exact⟨f i,f2 i hi,.inr ⟨f j,f1 _ _ hj,f2 j hj2,.inl (by rw[f3,f3];exact h)⟩⟩
 ·exact⟨f i,f2 i hi,.inr ⟨f j,f1 _ _ hj,f2 j hj2,.inr ⟨f k,f1 _ _ hk,f2 k hk2,by rw[f3,f3,f3];exact h⟩⟩⟩
theorem Rt.less{s:Sol}{path:List Pl}(h:Rt s path):∀(l1 l2:List Pl) (x:Pl),path=l1++x::l2→Rt s (l1++l2):=by
 induction h with
 | leaf hz=>intro _ _ _ _;exact .leaf hz
 | @node p a b path h1 h2 h3 h4 _ _ iha ihb =>
  intro l1 l2 x e
  subst e
  refine .node h1 (by simp at h2 ⊢;omega) (wth_less h3) (wth_less h4) ?_ ?_
  ·have:=iha l1 (l2++[p]) x (by simp)
   simpa using this
  ·have:=ihb l1 (l2++[flp p]) x (by simp)
   simpa using this
theorem Rt.lens{s:Sol}{path:List Pl}(h:Rt s path):Lens s:=by
 induction h with
 | leaf hz=>exact .mk (by simp[big]) (by simp)
 | node _ _ _ _ _ _ iha ihb =>
  refine .mk (by simp[big]) fun x hx=>?_
  simp only[List.mem_cons,List.not_mem_nil,or_false] at hx
  rcases hx with rfl | rfl
  ·exact iha
  ·exact ihb
end Evl.T
namespace Evl.T
open Go Evl
def plEq (p q:Pl):Bool:=p.A==q.A&&(p.B==q.B&&(p.C==q.C&&(p.D==q.D&&true)))
theorem plEq_iff(p q:Pl):plEq p q=true↔p=q:=by
 cases p;cases q;simp[plEq]
theorem plEq_no{p q:Pl}(h:p≠q):plEq p q=false:=by
 rw[←Bool.not_eq_true,plEq_iff];exact h
theorem iSameStep(n:Nat)(self:Sol×Sol→Option Bool)(i j:Bool)(p q:Pl)(k l:List Sol):Di_SameTree_b n self (.mk i p k,.mk j q l) =
  frk (i==j) (frk (plEq p q) ((frk ((k.length:Int) != (l.length:Int)) (some false) (loopN (Dslices_EqualFuncfimpl_SameTree_in_0 n self l k (k.length:Int)) n 0)).bind fun v0=>some v0) (some false)) (some false):=rfl
open Classical in
theorem kidsLoop(self:Sol×Sol→Option Bool)(F:(Int→Option Bool)→Int→Option Bool)(k l:List Sol)(hl:k.length≤big)(hkl:k.length=l.length)(hs:∀x∈k,∀y,self (x,y)=some (decide (x=y)))
  (hF:∀rec (t:Int),F rec t=frk (decide (t<(k.length:Int))) ((lget k t).bind fun v0=>(lget l t).bind fun v1=>(self (v0,v1)).bind fun v2=>frk (!v2) (some false) (rec (w64 (t+1)))) (some true)) (n:Nat) (hn:k.length<n) :
  loopN F n 0=some (decide (k=l)):=by
 have:=search (F:=F) (len:=k.length) (b:=fun t=>decide (k[t]?≠l[t]?)) (hit:=some false) (miss:=some true) hl ?_ ?_ k.length 0 n (by omega) hn
 ·rw[show (0:Int)=((0:Nat):Int) from rfl,this]
  by_cases h:k=l
  ·subst h
   have:(List.range' 0 k.length).any (fun t=>decide (k[t]?≠k[t]?))=false:=by simp
   rw[this];simp
  ·have:(List.range' 0 k.length).any (fun t=>decide (k[t]?≠l[t]?))=true:=by
    rw[List.any_eq_true]
    apply Classical.byContradiction
    intro hno
    apply h
    apply List.ext_getElem?
    intro t
    rcases Nat.lt_or_ge t k.length with ht | ht
    ·apply Classical.byContradiction
     intro hne
     exact hno ⟨t,by simp;omega,by simpa using hne⟩
    ·rw[List.getElem?_eq_none ht,List.getElem?_eq_none (by omega)]
   rw[this];simp[h]
 ·intro rec t ht
  obtain⟨x,hx⟩:∃x,k[t]?=some x:=⟨k[t],List.getElem?_eq_getElem ht⟩
  obtain⟨y,hy⟩:∃y,l[t]?=some y:=⟨l[t]'(by omega),List.getElem?_eq_getElem (by omega)⟩
  rw[hF,lt_dec ht,frk_t,lget_nat,lget_nat,hx,hy,oBs,oBs,hs x (List.mem_of_getElem? hx) y,oBs]
  by_cases h:x=y
  ·subst h;simp[frk_f]
  ·simp[h,frk_t]
 ·intro rec
  rw[hF,lt_self,frk_f]
open Classical in
theorem iSame:∀a,Lens a→E2 fun n m=>∀b,loopN (Di_SameTree_b n) m (a,b)=some (decide (a=b)):=by
 refine sol_ind fun i p k ih hl=>?_
 cases hl with
 | mk hk hx =>
  have h1:=E2.all fun x hxm=>ih x hxm (hx x hxm)
  have h2:E2 fun n _=>k.length<n:=⟨k.length+1,fun n hn _ _=>by omega⟩
  refine E2.suc ((h1.and h2).mono fun n m ⟨h1,h2⟩ b=>?_)
  obtain⟨j,q,l⟩:=b
  rw[loop_suc,iSameStep]
  by_cases e1:i=j
  ·subst e1
   rw[beq_self_eq_true,frk_t]
   by_cases e2:p=q
   ·subst e2
    rw[(plEq_iff p p).2 rfl,frk_t]
    by_cases e3:k.length=l.length
    ·rw[show ((k.length:Int) != (l.length:Int))=false by simp[e3],frk_f,kidsLoop _ (Dslices_EqualFuncfimpl_SameTree_in_0 n (loopN (Di_SameTree_b n) m) l k (k.length:Int)) k l hk e3 h1 (fun _ _=>rfl) n h2]
     simp
    ·rw[show ((k.length:Int) != (l.length:Int))=true by simp;omega,frk_t]
     have:k≠l:=fun e=>e3 (by rw[e])
     simp[this]
   ·rw[plEq_no e2,frk_f];simp[e2]
  ·rw[show (i==j)=false by simp[e1],frk_f];simp[e1]
end Evl.T
namespace Evl.T
open Go Evl
def sm (f:Pl→Int):List (Int×Pl)→Int
 | []=>0
 | x::r=>x.1*f x.2+sm f r
theorem sm_cons(f:Pl→Int)(x:Int×Pl)(r:List (Int×Pl)):sm f (x::r)=x.1*f x.2+sm f r:=rfl
theorem sm_nil(f:Pl→Int):sm f []=0:=rfl
structure Cert(c:List (Int×Pl)):Prop where
 pos:∀x∈c,0<x.1
 a:sm Pl.A c=0
 b:sm Pl.B c=0
 cc:sm Pl.C c=0
 d:sm Pl.D c≤0
 ne:c≠[]
def tw (t:List (Int×Int×Pl)):List (Int×Pl):=t.map fun x=>(x.1,x.2.2)
def tv (t:List (Int×Int×Pl)):List (Int×Pl):=t.map fun x=>(x.2.1,x.2.2)
def tm (a b:Int)(t:List (Int×Int×Pl)):List (Int×Pl):=t.map fun x=>(a*x.1+b*x.2.1,x.2.2)
theorem sm_tm(f:Pl→Int)(a b:Int)(t:List (Int×Int×Pl)):sm f (tm a b t)=a*sm f (tw t)+b*sm f (tv t):=by
 induction t with
 | nil=>simp[tm,tw,tv,sm]
 | cons x r ih =>
  simp only[tm,tw,tv,List.map_cons,sm_cons] at ih ⊢
  rw[ih];grind
def pst (c:List (Int×Pl)):List (Int×Pl):=c.filter fun x=>decide (0<x.1)
theorem sm_pst(f:Pl→Int)(c:List (Int×Pl))(h:∀x∈c,0≤x.1):sm f (pst c)=sm f c:=by
 induction c with
 | nil=>rfl
 | cons x r ih =>
  have ih:=ih fun y hy=>h y (List.mem_cons_of_mem _ hy)
  have hx:=h x List.mem_cons_self
  unfold pst at ih ⊢
  by_cases hp:0<x.1
  ·rw[List.filter_cons_of_pos (by simpa using hp),sm_cons,sm_cons,ih]
  ·rw[List.filter_cons_of_neg (by simpa using hp),sm_cons,ih,show x.1=0 by omega];omega
theorem pst_pos{c:List (Int×Pl)}{x:Int×Pl}(h:x∈pst c):0<x.1:=by
 unfold pst at h;simpa using (List.mem_filter.1 h).2
theorem pst_sub(c:List (Int×Pl)):(pst c).Sublist c:=List.filter_sublist
theorem pst_lt{c:List (Int×Pl)}{x:Int×Pl}(h:x∈c)(h0:x.1=0):(pst c).length<c.length:=by
 rcases Nat.lt_or_ge (pst c).length c.length with h1 | h1
 ·exact h1
 ·have e:=(pst_sub c).eq_of_length_le h1
  rw[←e] at h;have:=pst_pos h;omega
theorem mul_can{a b c:Int}(h:a*c≤b*c)(hc:0<c):a≤b:=Int.le_of_mul_le_mul_right h hc
theorem most(t:List (Int×Int×Pl))(h:∀x∈t,0<x.1)(hn:t≠[]):∃m∈t,∀x∈t,x.2.1*m.1≤m.2.1*x.1:=by
 induction t with
 | nil=>exact absurd rfl hn
 | cons x r ih =>
  have hx:=h x List.mem_cons_self
  by_cases hr:r=[]
  ·subst hr
   exact⟨x,List.mem_cons_self,fun y hy=>by rw[List.mem_singleton.1 hy];exact Int.le_refl _⟩
  ·obtain⟨m,hm,h1⟩:=ih (fun y hy=>h y (List.mem_cons_of_mem _ hy)) hr
   have hmp:=h m (List.mem_cons_of_mem _ hm)
   by_cases hc:x.2.1*m.1≤m.2.1*x.1
   ·refine⟨m,List.mem_cons_of_mem _ hm,fun y hy=>?_⟩
    rcases List.mem_cons.1 hy with rfl | hy
    ·exact hc
    ·exact h1 y hy
   ·refine⟨x,List.mem_cons_self,fun y hy=>?_⟩
    rcases List.mem_cons.1 hy with rfl | hy
    ·exact Int.le_refl _
    ·have hyp:=h y (List.mem_cons_of_mem _ hy)
     have h2:=h1 y hy
     refine mul_can (c:=m.1) ?_ hmp
     have h3:y.2.1*m.1*x.1≤m.2.1*y.1*x.1:=Int.mul_le_mul_of_nonneg_right h2 (by omega)
     have h4:m.2.1*x.1*y.1≤x.2.1*m.1*y.1:=Int.mul_le_mul_of_nonneg_right (by omega) (by omega)
     have e1:y.2.1*x.1*m.1=y.2.1*m.1*x.1:=by grind
     have e2:m.2.1*y.1*x.1=m.2.1*x.1*y.1:=by grind
     have e3:x.2.1*y.1*m.1=x.2.1*m.1*y.1:=by grind
     omega
theorem least(t:List (Int×Int×Pl))(h:∀x∈t,0<x.1)(hn:t≠[]):∃m∈t,∀x∈t,m.2.1*x.1≤x.2.1*m.1:=by
 obtain⟨m,hm,h1⟩:=most (t.map fun x=>(x.1,-x.2.1,x.2.2)) (fun x hx=>by
  obtain⟨y,hy,rfl⟩:=List.mem_map.1 hx;exact h y hy) (by simpa using hn)
 obtain⟨k,hk,rfl⟩:=List.mem_map.1 hm
 refine⟨k,hk,fun x hx=>?_⟩
 have:=h1 _ (List.mem_map.2 ⟨x,hx,rfl⟩)
 simp only[Int.neg_mul] at this
 omega
theorem snd_tm(a b:Int)(t:List (Int×Int×Pl)):(tm a b t).map (·.2)=t.map (·.2.2):=by simp[tm]
theorem red(t:List (Int×Int×Pl))(hc:Cert (tw t))(ha:sm Pl.A (tv t)=0)(hb:sm Pl.B (tv t)=0)(hcc:sm Pl.C (tv t)=0)
  (hne:∃x∈t,∃y∈t,x.1*y.2.1≠y.1*x.2.1):∃c,Cert c∧c.length<t.length∧(c.map (·.2)).Sublist (t.map (·.2.2)):=by
 have hp:∀x∈t,0<x.1:=fun x hx=>hc.pos _ (List.mem_map.2 ⟨x,hx,rfl⟩)
 obtain⟨x,hx,y,hy,hxy⟩:=hne
 have hn:t≠[]:=fun h=>by rw[h] at hx;cases hx
 obtain⟨m,hm,h1⟩:=most t hp hn
 obtain⟨k,hk,h2⟩:=least t hp hn
 have hmp:=hp m hm;have hkp:=hp k hk
 have hlt:k.2.1*m.1<m.2.1*k.1:=by
  rcases Int.lt_or_le (k.2.1*m.1) (m.2.1*k.1) with h | h
  ·exact h
  ·exfalso
   have same:∀z∈t,z.2.1*m.1=m.2.1*z.1:=fun z hz=>by
    have a1:=h1 z hz;have a2:=h2 z hz
    have hzp:=hp z hz
    have b1:m.2.1*k.1*z.1≤k.2.1*m.1*z.1:=Int.mul_le_mul_of_nonneg_right h (by omega)
    have b2:k.2.1*z.1*m.1≤z.2.1*k.1*m.1:=Int.mul_le_mul_of_nonneg_right a2 (by omega)
    have b3:m.2.1*z.1≤z.2.1*m.1:=mul_can (c:=k.1) (by
     have e1:m.2.1*z.1*k.1=m.2.1*k.1*z.1:=by grind
     have e2:k.2.1*m.1*z.1=k.2.1*z.1*m.1:=by grind
     have e3:z.2.1*m.1*k.1=z.2.1*k.1*m.1:=by grind
     omega) hkp
    omega
   have s1:=same x hx;have s2:=same y hy
   apply hxy
   have:(x.1*y.2.1)*m.1=(y.1*x.2.1)*m.1:=by grind
   exact Int.eq_of_mul_eq_mul_right (by omega) this
 have main:∀(a b:Int),(∀z∈t,0≤a*z.1+b*z.2.1)→(∃z∈t,0<a*z.1+b*z.2.1)→(∃z∈t,a*z.1+b*z.2.1=0)→a*sm Pl.D (tw t)+b*sm Pl.D (tv t)≤0 →
   ∃c,Cert c∧c.length<t.length∧(c.map (·.2)).Sublist (t.map (·.2.2)):=by
  intro a b q1 q2 q3 q4
  have hge:∀z∈tm a b t,0≤z.1:=fun z hz=>by obtain⟨w,hw,rfl⟩:=List.mem_map.1 hz;exact q1 w hw
  refine⟨pst (tm a b t),⟨fun z hz=>pst_pos hz,?_,?_,?_,?_,?_⟩,?_,?_⟩
  ·rw[sm_pst _ _ hge,sm_tm,hc.a,ha];simp
  ·rw[sm_pst _ _ hge,sm_tm,hc.b,hb];simp
  ·rw[sm_pst _ _ hge,sm_tm,hc.cc,hcc];simp
  ·rw[sm_pst _ _ hge,sm_tm];exact q4
  ·obtain⟨z,hz,h0⟩:=q2
   intro h
   have:(a*z.1+b*z.2.1,z.2.2)∈pst (tm a b t):=List.mem_filter.2 ⟨List.mem_map.2 ⟨z,hz,rfl⟩,by simpa using h0⟩
   rw[h] at this;cases this
  ·obtain⟨z,hz,h0⟩:=q3
   have:=pst_lt (c:=tm a b t) (x:=(a*z.1+b*z.2.1,z.2.2)) (List.mem_map.2 ⟨z,hz,rfl⟩) h0
   rwa [show (tm a b t).length=t.length by simp[tm]] at this
  ·rw[←snd_tm a b t];exact(pst_sub _).map _
 have hD:=hc.d
 by_cases hs:m.2.1*sm Pl.D (tw t)+(-m.1)*sm Pl.D (tv t)≤0
 ·refine main m.2.1 (-m.1) (fun z hz=>?_) ⟨k,hk,?_⟩ ⟨m,hm,?_⟩ hs
  ·have:=h1 z hz;rw[Int.neg_mul,Int.mul_comm m.1];omega
  ·rw[Int.neg_mul,Int.mul_comm m.1];omega
  ·grind
 ·refine main (-k.2.1) k.1 (fun z hz=>?_) ⟨m,hm,?_⟩ ⟨k,hk,?_⟩ ?_
  ·have:=h2 z hz;rw[Int.neg_mul,Int.mul_comm k.1];omega
  ·rw[Int.neg_mul,Int.mul_comm k.1];omega
  ·grind
  ·have q1:0<(m.2.1*sm Pl.D (tw t)+(-m.1)*sm Pl.D (tv t))*k.1:=Int.mul_pos (by omega) hkp
   have q2:(m.2.1*k.1-k.2.1*m.1)*sm Pl.D (tw t)≤0:=Int.mul_nonpos_of_nonneg_of_nonpos (by omega) hD
   refine mul_can (c:=m.1) ?_ hmp
   have e:((-k.2.1)*sm Pl.D (tw t)+k.1*sm Pl.D (tv t))*m.1=(m.2.1*k.1-k.2.1*m.1)*sm Pl.D (tw t)-(m.2.1*sm Pl.D (tw t)+(-m.1)*sm Pl.D (tv t))*k.1:=by grind
   rw[e];omega
theorem sub_get{x:Pl}{r:List Pl}:∀{l:List Pl},(x::r).Sublist l→∃j,j<l.length∧gt l j=x∧r.Sublist (l.drop (j+1)):=by
 intro l
 induction l with
 | nil=>intro h;cases h
 | cons y l ih =>
  intro h
  cases h with
  | cons _ h =>
   obtain⟨j,h1,h2,h3⟩:=ih h
   exact⟨j+1,by simp only[List.length_cons];omega,h2,h3⟩
  | cons_cons _ h=>exact⟨0,by simp,rfl,h⟩
theorem gt_drop(l:List Pl)(i j:Nat):gt (l.drop i) j=gt l (i+j):=by unfold gt;rw[List.getElem?_drop]
theorem get_sub{l:List Pl}{i:Nat}{r:List Pl}(h:i<l.length)(hr:r.Sublist (l.drop (i+1))):(gt l i::r).Sublist (l.drop i):=by
 rw[List.drop_eq_getElem_cons h,show gt l i=l[i] by unfold gt;rw[List.getElem?_eq_getElem h];rfl]
 exact hr.cons_cons _
theorem drop_up{l r:List Pl}{i j:Nat}(h:i≤j)(hr:r.Sublist (l.drop j)):r.Sublist (l.drop i):=by
 have e:l.drop j=(l.drop i).drop (j-i):=by rw[List.drop_drop];congr 1;omega
 rw[e] at hr
 exact hr.trans (List.drop_sublist _ _)
theorem drop_any{l r:List Pl}{j:Nat}(hr:r.Sublist (l.drop j)):r.Sublist l:=drop_up (Nat.zero_le j) hr
theorem wth_sub(l:List Pl)(p:Pl):wth l p=true↔(∃q,[q].Sublist l∧cl2 q p=true)∨(∃q r,[q,r].Sublist l∧cl3 q r p=true)∨(∃q r s,[q,r,s].Sublist l∧cl4 q r s p=true):=by
 rw[wth_iff]
 constructor
 ·rintro⟨i,hi,h | ⟨j,hj,hj2,h | ⟨k,hk,hk2,h⟩⟩⟩
  ·exact .inl ⟨_,drop_any (get_sub hi (List.nil_sublist _)),h⟩
  ·exact .inr (.inl ⟨_,_,drop_any (get_sub hi (drop_up (j:=j) hj (get_sub hj2 (List.nil_sublist _)))),h⟩)
  ·exact .inr (.inr ⟨_,_,_,drop_any (get_sub hi (drop_up (j:=j) hj (get_sub hj2 (drop_up (j:=k) hk (get_sub hk2 (List.nil_sublist _)))))),h⟩)
 ·rintro(⟨q,h1,h⟩ | ⟨q,r,h1,h⟩ | ⟨q,r,s,h1,h⟩)
  ·obtain⟨i,hi,rfl,_⟩:=sub_get h1
   exact⟨i,hi,.inl h⟩
  ·obtain⟨i,hi,rfl,h2⟩:=sub_get h1
   obtain⟨j,hj,rfl,_⟩:=sub_get h2
   rw[gt_drop] at h;rw[List.length_drop] at hj
   exact⟨i,hi,.inr ⟨i+1+j,by omega,by omega,.inl h⟩⟩
  ·obtain⟨i,hi,rfl,h2⟩:=sub_get h1
   obtain⟨j,hj,rfl,h3⟩:=sub_get h2
   obtain⟨k,hk,rfl,_⟩:=sub_get h3
   rw[gt_drop,gt_drop,gt_drop] at h;rw[List.length_drop] at hj hk;rw[List.length_drop] at hk
   exact⟨i,hi,.inr ⟨i+1+j,by omega,by omega,.inr ⟨i+1+(j+1+k),by omega,by omega,h⟩⟩⟩
inductive Opn:List Pl→Prop
 | nil:Opn []
 | snoc {l p}:Opn l→wth l p=false→Opn (l++[p])
theorem sub_snoc{r l:List Pl}{p q:Pl}(h:(r++[p]).Sublist (l++[q])):(r++[p]).Sublist l∨(p=q∧r.Sublist l):=by
 have h:=h.reverse
 rw[List.reverse_append,List.reverse_append] at h
 simp only[List.reverse_singleton,List.singleton_append] at h
 cases h with
 | cons _ h=>left;have:=h.reverse;simpa using this
 | cons_cons _ h=>right;exact⟨rfl,by have:=h.reverse;simpa using this⟩
theorem Opn.last{l:List Pl}(h:Opn l){r:List Pl}{p:Pl}(hs:(r++[p]).Sublist l):∃l',r.Sublist l'∧wth l' p=false:=by
 induction h with
 | nil=>have:=hs.length_le;simp at this
 | @snoc l q _ hw ih =>
  rcases sub_snoc hs with h | ⟨rfl,h⟩
  ·exact ih h
  ·exact⟨l,h,hw⟩
def Nz (p:Pl):Prop:=p.A≠0∨p.B≠0∨p.C≠0
theorem pOk_Nz{p:Pl}(h:pOk p=true):Nz p:=by
 unfold pOk at h;simp only[bAt,decide_eq_true_eq] at h;exact h.2.2.2.2.1
theorem cr_dep(p q:Pl):cr0 p q=0∧cr1 p q=0∧cr2 p q=0→Nz p→Nz q→∃x y,x≠0∧y≠0∧x*p.A+y*q.A=0∧x*p.B+y*q.B=0∧x*p.C+y*q.C=0:=by
 obtain⟨a,b,c,d⟩:=p;obtain⟨e,f,g,i⟩:=q
 unfold Nz cr0 cr1 cr2
 simp only
 rintro⟨h0,h1,h2⟩ hp hq
 have z:∀x y:Int,x≠0→x*y=0→y=0:=fun x y hx h=>(Int.mul_eq_zero.1 h).resolve_left hx
 by_cases ha:a=0
 ·by_cases hb:b=0
  ·have hc:c≠0:=by rcases hp with h | h | h <;> first | exact absurd ha h | exact absurd hb h | exact h
   refine⟨g,-c,?_,by omega,?_,?_,?_⟩
   ·rintro rfl
    have:=z c e hc (by grind);have:=z c f hc (by grind)
    rcases hq with h | h | h <;> omega
   ·grind
   ·grind
   ·grind
  ·refine⟨f,-b,?_,by omega,?_,?_,?_⟩
   ·rintro rfl
    have:=z b e hb (by grind);have:=z b g hb (by grind)
    rcases hq with h | h | h <;> omega
   ·grind
   ·grind
   ·grind
 ·refine⟨e,-a,?_,by omega,?_,?_,?_⟩
  ·rintro rfl
   have:=z a f ha (by grind);have:=z a g ha (by grind)
   rcases hq with h | h | h <;> omega
  ·grind
  ·grind
  ·grind
end Evl.T
namespace Evl.T
open Go Evl
theorem sm_app(f:Pl→Int)(a b:List (Int×Pl)):sm f (a++b)=sm f a+sm f b:=by
 induction a with
 | nil=>simp[sm]
 | cons x r ih=>simp only[List.cons_append,sm_cons,ih];omega
theorem sm_zero(f:Pl→Int)(b:List (Int×Pl)):sm f (b.map fun x=>((0:Int),x.2))=0:=by
 induction b with
 | nil=>rfl
 | cons x r ih=>simp only[List.map_cons,sm_cons,ih];omega
theorem red2(pre:List (Int×Int×Pl))(rest:List (Int×Pl))(hc:Cert (tw pre++rest))(ha:sm Pl.A (tv pre)=0)(hb:sm Pl.B (tv pre)=0)(hcc:sm Pl.C (tv pre)=0)
  (hne:(∃x∈pre,∃y∈pre,x.1*y.2.1≠y.1*x.2.1)∨(rest≠[]∧∃x∈pre,x.2.1≠0)) :
  ∃c,Cert c∧c.length<(tw pre++rest).length∧(c.map (·.2)).Sublist ((tw pre++rest).map (·.2)):=by
 let t:=pre++rest.map fun x=>(x.1,(0:Int),x.2)
 have e1:tw t=tw pre++rest:=by simp[t,tw,Function.comp_def]
 have e2:∀f,sm f (tv t)=sm f (tv pre):=fun f=>by
  have:tv t=tv pre++rest.map fun x=>((0:Int),x.2):=by simp[t,tv,Function.comp_def]
  rw[this,sm_app,sm_zero];omega
 have e3:t.map (·.2.2)=(tw pre++rest).map (·.2):=by simp[t,tw,Function.comp_def]
 have e4:t.length=(tw pre++rest).length:=by simp[t,tw]
 obtain⟨c,h1,h2,h3⟩:=red t (by rw[e1];exact hc) (by rw[e2];exact ha) (by rw[e2];exact hb) (by rw[e2];exact hcc) (by
  rcases hne with ⟨x,hx,y,hy,h⟩ | ⟨hr,x,hx,h⟩
  ·exact⟨x,List.mem_append_left _ hx,y,List.mem_append_left _ hy,h⟩
  ·obtain⟨y,r,rfl⟩:=List.exists_cons_of_ne_nil hr
   refine⟨x,List.mem_append_left _ hx,(y.1,0,y.2),List.mem_append_right _ (by simp),?_⟩
   have hy:0<y.1:=hc.pos y (List.mem_append_right _ (by simp))
   intro h0
   simp only[Int.mul_zero] at h0
   rcases Int.mul_eq_zero.1 h0.symm with h1 | h1
   ·omega
   ·exact h h1)
 exact⟨c,h1,by omega,by rw[←e3];exact h3⟩
theorem same2{w1 w2:Int}{p q:Pl}(h1:0<w1)(h2:0<w2)(hq:Nz q)(ha:w1*p.A+w2*q.A=0)(hb:w1*p.B+w2*q.B=0)(hc:w1*p.C+w2*q.C=0)
  (hd:w1*p.D+w2*q.D≤0):cl2 p q=true:=by
 obtain⟨a,b,c,d⟩:=p;obtain⟨e,f,g,i⟩:=q
 simp only at ha hb hc hd
 have z:∀y:Int,w1*y=0→y=0:=fun y h=>(Int.mul_eq_zero.1 h).resolve_left (by omega)
 have hpos:0<d3 e f g e f g:=d3_pos (fun h=>by
  unfold Nz at hq;simp only at hq
  rcases hq with h' | h' | h'
  ·exact h' h.1
  ·exact h' h.2.1
  ·exact h' h.2.2)
 unfold cl2
 rw[decide_eq_true_iff]
 simp only[cr0,cr1,cr2,dt]
 refine⟨⟨z _ (by grind),z _ (by grind),z _ (by grind),?_⟩,?_⟩
 ·have e1:w1*(a*e+b*f+c*g)=-(w2*d3 e f g e f g):=by unfold d3;grind
  have e2:0<w2*d3 e f g e f g:=Int.mul_pos h2 hpos
  rcases Int.lt_or_le (a*e+b*f+c*g) 0 with h | h
  ·exact h
  ·have:=Int.mul_nonneg (Int.le_of_lt h1) h;omega
 ·have n:∀x y:Int,w1*x+w2*y=0→w1*(x.natAbs:Int)=w2*(y.natAbs:Int):=fun x y h=>by
   have:=na_mul (a:=w1) (b:=x) (c:=w2) (d:=-y) (by grind)
   rw[Int.natAbs_neg] at this
   rwa [Int.natAbs_of_nonneg (a:=w1) (by omega),Int.natAbs_of_nonneg (a:=w2) (by omega)] at this
  have na:=n _ _ ha;have nb:=n _ _ hb;have nc:=n _ _ hc
  push_cast
  refine mul_can (c:=w1) ?_ h1
  have e1:((↑e.natAbs+↑f.natAbs+↑g.natAbs)*d+(↑a.natAbs+↑b.natAbs+↑c.natAbs)*i)*w1=((e.natAbs:Int)+f.natAbs+g.natAbs)*(w1*d+w2*i):=by grind
  rw[e1,Int.zero_mul]
  exact Int.mul_nonpos_of_nonneg_of_nonpos (by omega) hd
theorem sgn_of{w k x y:Int}(hw:0<w)(hk:0<k)(h:w*x=k*y):(0<y→0<x)∧(y<0→x<0)∧w*(x.natAbs:Int)=k*(y.natAbs:Int):=by
 refine⟨fun hy=>?_,fun hy=>?_,?_⟩
 ·have:=Int.mul_pos hk hy
  rcases Int.lt_or_le 0 x with h1 | h1
  ·exact h1
  ·have:=Int.mul_nonpos_of_nonneg_of_nonpos (Int.le_of_lt hw) h1;omega
 ·have:k*y<0:=Int.mul_neg_of_pos_of_neg hk hy
  rcases Int.lt_or_le x 0 with h1 | h1
  ·exact h1
  ·have:=Int.mul_nonneg (Int.le_of_lt hw) h1;omega
 ·have:=na_mul h
  rwa [Int.natAbs_of_nonneg (a:=w) (by omega),Int.natAbs_of_nonneg (a:=k) (by omega)] at this
theorem same3{w1 w2 w3 x y z:Int}{p q r:Pl}(h1:0<w1)(h2:0<w2)(h3:0<w3)(hz:z≠0)(hx:w3*x=w1*z)(hy:w3*y=w2*z)
  (hd:w1*p.D+w2*q.D+w3*r.D≤0):sk x y z p.D q.D r.D=true:=by
 have sx:=sgn_of h3 h1 hx;have sy:=sgn_of h3 h2 hy
 unfold sk
 rw[decide_eq_true_iff]
 refine⟨?_,?_⟩
 ·rcases Int.lt_or_lt_of_ne hz with h | h
  ·exact .inr ⟨sx.2.1 h,sy.2.1 h,h⟩
  ·exact .inl ⟨sx.1 h,sy.1 h,h⟩
 ·refine mul_can (c:=w3) ?_ h3
  have e:((x.natAbs:Int)*p.D+(y.natAbs:Int)*q.D+(z.natAbs:Int)*r.D)*w3=(z.natAbs:Int)*(w1*p.D+w2*q.D+w3*r.D):=by
   have a1:=sx.2.2;have a2:=sy.2.2;grind
  rw[e,Int.zero_mul]
  exact Int.mul_nonpos_of_nonneg_of_nonpos (by omega) hd
theorem same4{w1 w2 w3 w4:Int}{p q r s:Pl}(h1:0<w1)(h2:0<w2)(h3:0<w3)(h4:0<w4)(hz:0-det3 p q r≠0)
  (hx:w4*det3 q r s=w1*(0-det3 p q r)) (hy:w4*(0-det3 p r s)=w2*(0-det3 p q r)) (hv:w4*det3 p q s=w3*(0-det3 p q r))
  (hd:w1*p.D+w2*q.D+w3*r.D+w4*s.D≤0):cl4 p q r s=true:=by
 have sx:=sgn_of h4 h1 hx;have sy:=sgn_of h4 h2 hy;have sv:=sgn_of h4 h3 hv
 unfold cl4
 generalize det3 q r s=a at *
 generalize (0-det3 p r s)=b at *
 generalize det3 p q s=c at *
 generalize (0-det3 p q r)=z at *
 rw[decide_eq_true_iff]
 refine⟨?_,?_⟩
 ·rcases Int.lt_or_lt_of_ne hz with h | h
  ·exact .inr ⟨sx.2.1 h,sy.2.1 h,sv.2.1 h,h⟩
  ·exact .inl ⟨sx.1 h,sy.1 h,sv.1 h,h⟩
 ·refine mul_can (c:=w4) ?_ h4
  have e:((a.natAbs:Int)*p.D+(b.natAbs:Int)*q.D+(c.natAbs:Int)*r.D+(z.natAbs:Int)*s.D)*w4=(z.natAbs:Int)*(w1*p.D+w2*q.D+w3*r.D+w4*s.D):=by
   have a1:=sx.2.2;have a2:=sy.2.2;have a3:=sv.2.2;grind
  rw[e,Int.zero_mul]
  exact Int.mul_nonpos_of_nonneg_of_nonpos (by omega) hd
theorem cross_dep{p q r:Pl}(h:det3 p q r=0) :
  (cr0 q r*p.A+cr0 r p*q.A+cr0 p q*r.A=0∧cr0 q r*p.B+cr0 r p*q.B+cr0 p q*r.B=0∧cr0 q r*p.C+cr0 r p*q.C+cr0 p q*r.C=0) ∧
  (cr1 q r*p.A+cr1 r p*q.A+cr1 p q*r.A=0∧cr1 q r*p.B+cr1 r p*q.B+cr1 p q*r.B=0∧cr1 q r*p.C+cr1 r p*q.C+cr1 p q*r.C=0) ∧
  (cr2 q r*p.A+cr2 r p*q.A+cr2 p q*r.A=0∧cr2 q r*p.B+cr2 r p*q.B+cr2 p q*r.B=0∧cr2 q r*p.C+cr2 r p*q.C+cr2 p q*r.C=0):=by
 obtain⟨a,b,c,d⟩:=p;obtain⟨e,f,g,i⟩:=q;obtain⟨j,k,l,m⟩:=r
 simp only[det3,cr0,cr1,cr2] at h ⊢
 refine⟨⟨?_,?_,?_⟩,⟨?_,?_,?_⟩,?_,?_,?_⟩ <;> grind
theorem det_dep(p q r s:Pl) :
  det3 q r s*p.A+(0-det3 p r s)*q.A+det3 p q s*r.A+(0-det3 p q r)*s.A=0 ∧
  det3 q r s*p.B+(0-det3 p r s)*q.B+det3 p q s*r.B+(0-det3 p q r)*s.B=0 ∧
  det3 q r s*p.C+(0-det3 p r s)*q.C+det3 p q s*r.C+(0-det3 p q r)*s.C=0:=by
 obtain⟨a,b,c,d⟩:=p;obtain⟨e,f,g,i⟩:=q;obtain⟨j,k,l,m⟩:=r;obtain⟨u,v,w,x⟩:=s
 simp only[det3]
 refine⟨?_,?_,?_⟩ <;> grind
theorem det_zero{w1 w2 w3:Int}{p q r:Pl}(h1:0<w1)(ha:w1*p.A+w2*q.A+w3*r.A=0)(hb:w1*p.B+w2*q.B+w3*r.B=0)(hc:w1*p.C+w2*q.C+w3*r.C=0):det3 p q r=0:=by
 obtain⟨a,b,c,d⟩:=p;obtain⟨e,f,g,i⟩:=q;obtain⟨j,k,l,m⟩:=r
 simp only[det3] at ha hb hc ⊢
 refine(Int.mul_eq_zero.1 (show w1*_=0 from ?_)).resolve_left (by omega)
 have e1:w1*a=-(w2*e)-w3*j:=by omega
 have e2:w1*b=-(w2*f)-w3*k:=by omega
 have e3:w1*c=-(w2*g)-w3*l:=by omega
 rw[Int.mul_add,Int.mul_add,←Int.mul_assoc,←Int.mul_assoc,←Int.mul_assoc,e1,e2,e3]
 grind
theorem dep3{p q r:Pl}(h:det3 p q r=0)(hp:Nz p)(hq:Nz q):∃x y z:Int,(x≠0∨z≠0) ∧
  x*p.A+y*q.A+z*r.A=0∧x*p.B+y*q.B+z*r.B=0∧x*p.C+y*q.C+z*r.C=0:=by
 by_cases hw:cr0 p q=0∧cr1 p q=0∧cr2 p q=0
 ·obtain⟨x,y,h1,h2,h3,h4,h5⟩:=cr_dep p q hw hp hq
  exact⟨x,y,0,.inl h1,by omega,by omega,by omega⟩
 ·obtain⟨c0,c1,c2⟩:=cross_dep h
  by_cases h0:cr0 p q=0
  ·by_cases h1:cr1 p q=0
   ·exact⟨_,_,_,.inr fun h2=>hw ⟨h0,h1,h2⟩,c2⟩
   ·exact⟨_,_,_,.inr h1,c1⟩
  ·exact⟨_,_,_,.inr h0,c0⟩
end Evl.T
namespace Evl.T
open Go Evl
theorem no_cert{l:List Pl}(ho:Opn l)(hz:∀q∈l,Nz q):∀(n:Nat) (c:List (Int×Pl)),c.length<n→Cert c→(c.map (·.2)).Sublist l→False:=by
 intro n
 induction n with
 | zero=>intro c h;omega
 | succ n ih =>
  intro c hn hc hs
  have go:(∃c',Cert c'∧c'.length<c.length∧(c'.map (·.2)).Sublist (c.map (·.2)))→False:=fun ⟨c',h1,h2,h3⟩=>ih c' (by omega) h1 (h3.trans hs)
  have nz:∀x∈c,Nz x.2:=fun x hx=>hz _ (hs.subset (List.mem_map.2 ⟨x,hx,rfl⟩))
  have ps:=hc.pos
  have ha:=hc.a;have hb:=hc.b;have hcc:=hc.cc;have hd:=hc.d
  match c,hc,hs,go,nz,ps,ha,hb,hcc,hd with
  | [],hc,_,_,_,_,_,_,_,_=>exact hc.ne rfl
  | [(w,p)],_,_,_,nz,ps,ha,hb,hcc,_ =>
   have hw:=ps _ (List.mem_singleton.2 rfl)
   have hn:=nz _ (List.mem_singleton.2 rfl)
   simp only[sm,Int.add_zero] at ha hb hcc hw
   have z:∀y:Int,w*y=0→y=0:=fun y h=>(Int.mul_eq_zero.1 h).resolve_left (by omega)
   rcases hn with h | h | h
   ·exact h (z _ ha)
   ·exact h (z _ hb)
   ·exact h (z _ hcc)
  | [(w1,p),(w2,q)],_,hs,_,nz,ps,ha,hb,hcc,hd =>
   have h1:0<w1:=ps (w1,p) (by simp)
   have h2:0<w2:=ps (w2,q) (by simp)
   have nq:Nz q:=nz (w2,q) (by simp)
   simp only[sm,Int.add_zero] at ha hb hcc hd
   have hcl:=same2 h1 h2 nq ha hb hcc hd
   obtain⟨l',h3,h4⟩:=ho.last (r:=[p]) (p:=q) hs
   rw[(wth_sub l' q).2 (.inl ⟨p,h3,hcl⟩)] at h4
   cases h4
  | [(w1,p),(w2,q),(w3,r)],hc,hs,go,nz,ps,ha,hb,hcc,hd =>
   have h1:0<w1:=ps (w1,p) (by simp)
   have h2:0<w2:=ps (w2,q) (by simp)
   have h3:0<w3:=ps (w3,r) (by simp)
   have np:Nz p:=nz (w1,p) (by simp)
   have nq:Nz q:=nz (w2,q) (by simp)
   simp only[sm,Int.add_zero] at ha hb hcc hd
   have hdet:det3 p q r=0:=det_zero (w2:=w2) (w3:=w3) h1 (by omega) (by omega) (by omega)
   by_cases hw:cr0 p q=0∧cr1 p q=0∧cr2 p q=0
   ·obtain⟨x,y,hx,hy,e1,e2,e3⟩:=cr_dep p q hw np nq
    refine go (red2 [(w1,x,p),(w2,y,q)] [(w3,r)] hc ?_ ?_ ?_ (.inr ⟨by simp,(w1,x,p),by simp,hx⟩))
    ·simp only[tv,List.map_cons,List.map_nil,sm];omega
    ·simp only[tv,List.map_cons,List.map_nil,sm];omega
    ·simp only[tv,List.map_cons,List.map_nil,sm];omega
   ·obtain⟨c0,c1,c2⟩:=cross_dep hdet
    obtain⟨⟨a1,a2,a3⟩,b1,b2,b3⟩:=par3 hdet
    have pX:=prj a1 a2 a3;have pY:=prj b1 b2 b3
    have key:∀x y z:Int,z≠0→(x*p.A+y*q.A+z*r.A=0∧x*p.B+y*q.B+z*r.B=0∧x*p.C+y*q.C+z*r.C=0) →
      d3 (cr0 q r) (cr1 q r) (cr2 q r) (cr0 p q) (cr1 p q) (cr2 p q)*z=x*d3 (cr0 p q) (cr1 p q) (cr2 p q) (cr0 p q) (cr1 p q) (cr2 p q) →
      d3 (cr0 r p) (cr1 r p) (cr2 r p) (cr0 p q) (cr1 p q) (cr2 p q)*z=y*d3 (cr0 p q) (cr1 p q) (cr2 p q) (cr0 p q) (cr1 p q) (cr2 p q)→False:=by
     intro x y z hz0 ⟨d1,d2,d3'⟩ hX hY
     by_cases hx:w3*x=w1*z
     ·by_cases hy:w3*y=w2*z
      ·have hk:=same3 (p:=p) (q:=q) (r:=r) h1 h2 h3 hz0 hx hy (by omega)
       rw[sk_cl3 hdet hw hz0 hX hY] at hk
       obtain⟨l',h3,h4⟩:=ho.last (r:=[p,q]) (p:=r) hs
       rw[(wth_sub l' r).2 (.inr (.inl ⟨p,q,h3,hk⟩))] at h4
       cases h4
      ·refine go (red2 [(w1,x,p),(w2,y,q),(w3,z,r)] [] hc ?_ ?_ ?_ (.inl ⟨(w3,z,r),by simp,(w2,y,q),by simp,hy⟩))
       ·simp only[tv,List.map_cons,List.map_nil,sm];omega
       ·simp only[tv,List.map_cons,List.map_nil,sm];omega
       ·simp only[tv,List.map_cons,List.map_nil,sm];omega
     ·refine go (red2 [(w1,x,p),(w2,y,q),(w3,z,r)] [] hc ?_ ?_ ?_ (.inl ⟨(w3,z,r),by simp,(w1,x,p),by simp,hx⟩))
      ·simp only[tv,List.map_cons,List.map_nil,sm];omega
      ·simp only[tv,List.map_cons,List.map_nil,sm];omega
      ·simp only[tv,List.map_cons,List.map_nil,sm];omega
    by_cases h0:cr0 p q=0
    ·by_cases h1:cr1 p q=0
     ·exact key _ _ _ (fun h2=>hw ⟨h0,h1,h2⟩) c2 pX.2.2 pY.2.2
     ·exact key _ _ _ h1 c1 pX.2.1 pY.2.1
    ·exact key _ _ _ h0 c0 pX.1 pY.1
  | (w1,p)::(w2,q)::(w3,r)::(w4,s)::rest,hc,hs,go,nz,ps,ha,hb,hcc,hd =>
   have h1:0<w1:=ps (w1,p) (by simp)
   have h2:0<w2:=ps (w2,q) (by simp)
   have h3:0<w3:=ps (w3,r) (by simp)
   have h4:0<w4:=ps (w4,s) (by simp)
   have np:Nz p:=nz (w1,p) (by simp)
   have nq:Nz q:=nz (w2,q) (by simp)
   by_cases hz0:0-det3 p q r=0
   ·obtain⟨x,y,z,hxz,e1,e2,e3⟩:=dep3 (p:=p) (q:=q) (r:=r) (by omega) np nq
    refine go (red2 [(w1,x,p),(w2,y,q),(w3,z,r)] ((w4,s)::rest) hc ?_ ?_ ?_ (.inr ⟨by simp,?_⟩))
    ·simp only[tv,List.map_cons,List.map_nil,sm];omega
    ·simp only[tv,List.map_cons,List.map_nil,sm];omega
    ·simp only[tv,List.map_cons,List.map_nil,sm];omega
    ·rcases hxz with h | h
     ·exact⟨(w1,x,p),by simp,h⟩
     ·exact⟨(w3,z,r),by simp,h⟩
   ·obtain⟨e1,e2,e3⟩:=det_dep p q r s
    have rd:=red2 [(w1,det3 q r s,p),(w2,0-det3 p r s,q),(w3,det3 p q s,r),(w4,0-det3 p q r,s)] rest hc
     (by simp only[tv,List.map_cons,List.map_nil,sm];omega) (by simp only[tv,List.map_cons,List.map_nil,sm];omega) (by simp only[tv,List.map_cons,List.map_nil,sm];omega)
    by_cases hr:rest=[]
    ·subst hr
     by_cases hx:w4*det3 q r s=w1*(0-det3 p q r)
     ·by_cases hy:w4*(0-det3 p r s)=w2*(0-det3 p q r)
      ·by_cases hv:w4*det3 p q s=w3*(0-det3 p q r)
       ·simp only[sm,Int.add_zero] at hd
        have hk:=same4 h1 h2 h3 h4 hz0 hx hy hv (by omega)
        obtain⟨l',h3,h4⟩:=ho.last (r:=[p,q,r]) (p:=s) hs
        rw[(wth_sub l' s).2 (.inr (.inr ⟨p,q,r,h3,hk⟩))] at h4
        cases h4
       ·exact go (rd (.inl ⟨(w4,0-det3 p q r,s),by simp,(w3,det3 p q s,r),by simp,hv⟩))
      ·exact go (rd (.inl ⟨(w4,0-det3 p q r,s),by simp,(w2,0-det3 p r s,q),by simp,hy⟩))
     ·exact go (rd (.inl ⟨(w4,0-det3 p q r,s),by simp,(w1,det3 q r s,p),by simp,hx⟩))
    ·exact go (rd (.inr ⟨hr,(w4,0-det3 p q r,s),by simp,hz0⟩))
def Half (l:List Pl)(p:Pl):Prop:=∃(c:List (Int×Pl)) (m:Int),0<m∧c≠[]∧(∀x∈c,0<x.1)∧(c.map (·.2)).Sublist l ∧
 sm Pl.A c+m*p.A=0∧sm Pl.B c+m*p.B=0∧sm Pl.C c+m*p.C=0∧sm Pl.D c+m*p.D≤0
theorem half2{p q:Pl}{l:List Pl}(hs:[q].Sublist l)(hq:Nz q)(h:cl2 q p=true):Half l p:=by
 unfold cl2 at h
 rw[decide_eq_true_iff] at h
 obtain⟨⟨h0,h1,h2,h3⟩,h4⟩:=h
 obtain⟨a,b,c,d⟩:=p;obtain⟨e,f,g,i⟩:=q
 simp only[cr0,cr1,cr2,dt,Nz] at h0 h1 h2 h3 h4 hq
 have hN:0<d3 e f g e f g:=d3_pos (fun h=>by
  rcases hq with h' | h' | h'
  ·exact h' h.1
  ·exact h' h.2.1
  ·exact h' h.2.2)
 have ca:(0-(e*a+f*b+g*c))*e+d3 e f g e f g*a=0:=by unfold d3;grind
 have cb:(0-(e*a+f*b+g*c))*f+d3 e f g e f g*b=0:=by unfold d3;grind
 have cc:(0-(e*a+f*b+g*c))*g+d3 e f g e f g*c=0:=by unfold d3;grind
 generalize d3 e f g e f g=N at *
 have hM:0<0-(e*a+f*b+g*c):=by omega
 generalize 0-(e*a+f*b+g*c)=M at *
 refine⟨[(M,⟨e,f,g,i⟩)],N,hN,by simp,?_,hs,?_,?_,?_,?_⟩
 ·intro x hx;rw[List.mem_singleton.1 hx];exact hM
 ·simp only[sm];omega
 ·simp only[sm];omega
 ·simp only[sm];omega
 ·simp only[sm,Int.add_zero]
  have n:∀x y:Int,M*x+N*y=0→M*(x.natAbs:Int)=N*(y.natAbs:Int):=fun x y h=>by
   have:=na_mul (a:=M) (b:=x) (c:=N) (d:=-y) (by grind)
   rw[Int.natAbs_neg] at this
   rwa [Int.natAbs_of_nonneg (a:=M) (by omega),Int.natAbs_of_nonneg (a:=N) (by omega)] at this
  have na:=n _ _ ca;have nb:=n _ _ cb;have nc:=n _ _ cc
  push_cast at h4
  have hQ:0<(e.natAbs:Int)+f.natAbs+g.natAbs:=by
   rcases hq with h' | h' | h' <;> omega
  refine mul_can (c:=(e.natAbs:Int)+f.natAbs+g.natAbs) ?_ hQ
  have e1:(M*i+N*d)*((e.natAbs:Int)+f.natAbs+g.natAbs)=N*(((a.natAbs:Int)+b.natAbs+c.natAbs)*i+((e.natAbs:Int)+f.natAbs+g.natAbs)*d):=by grind
  rw[e1,Int.zero_mul]
  exact Int.mul_nonpos_of_nonneg_of_nonpos (by omega) h4
theorem lin3{x0 x1 x2 y0 y1 y2 w0 w1 w2 a b c:Int}(h0:x0*a+y0*b+w0*c=0)(h1:x1*a+y1*b+w1*c=0)(h2:x2*a+y2*b+w2*c=0) :
  d3 x0 x1 x2 w0 w1 w2*a+d3 y0 y1 y2 w0 w1 w2*b+d3 w0 w1 w2 w0 w1 w2*c=0:=by
 have e:d3 x0 x1 x2 w0 w1 w2*a+d3 y0 y1 y2 w0 w1 w2*b+d3 w0 w1 w2 w0 w1 w2*c=w0*(x0*a+y0*b+w0*c)+w1*(x1*a+y1*b+w1*c)+w2*(x2*a+y2*b+w2*c):=by unfold d3;grind
 rw[e,h0,h1,h2];simp
theorem half3{p q r:Pl}{l:List Pl}(hs:[q,r].Sublist l)(h:cl3 q r p=true):Half l p:=by
 unfold cl3 at h
 rw[decide_eq_true_iff] at h
 obtain⟨h0,h1,⟨h2,h3⟩,h4⟩:=h
 obtain⟨⟨c1,c2,c3⟩,⟨c4,c5,c6⟩,c7,c8,c9⟩:=cross_dep h0
 refine⟨[(d3 (cr0 r p) (cr1 r p) (cr2 r p) (cr0 q r) (cr1 q r) (cr2 q r),q),(d3 (cr0 p q) (cr1 p q) (cr2 p q) (cr0 q r) (cr1 q r) (cr2 q r),r)],d3 (cr0 q r) (cr1 q r) (cr2 q r) (cr0 q r) (cr1 q r) (cr2 q r),h1,by simp,?_,hs,?_,?_,?_,?_⟩
 ·intro x hx
  simp only[List.mem_cons,List.not_mem_nil,or_false] at hx
  rcases hx with rfl | rfl
  ·exact h2
  ·exact h3
 ·simp only[sm,Int.add_zero];exact lin3 c1 c4 c7
 ·simp only[sm,Int.add_zero];exact lin3 c2 c5 c8
 ·simp only[sm,Int.add_zero];exact lin3 c3 c6 c9
 ·simp only[sm];omega
theorem half4{p q r s:Pl}{l:List Pl}(hs:[q,r,s].Sublist l)(h:cl4 q r s p=true):Half l p:=by
 unfold cl4 at h
 rw[decide_eq_true_iff] at h
 obtain⟨h0,h4⟩:=h
 obtain⟨c1,c2,c3⟩:=det_dep q r s p
 generalize det3 r s p=a at *
 generalize (0-det3 q s p)=b at *
 generalize det3 q r p=c at *
 generalize (0-det3 q r s)=z at *
 have ps:0<(a.natAbs:Int)∧0<(b.natAbs:Int)∧0<(c.natAbs:Int)∧0<(z.natAbs:Int):=by omega
 have key:∀x y u v:Int,a*x+b*y+c*u+z*v=0→(a.natAbs:Int)*x+((b.natAbs:Int)*y+((c.natAbs:Int)*u+0))+(z.natAbs:Int)*v=0:=fun x y u v h=>by
  rcases h0 with h0 | h0
  ·rw[Int.natAbs_of_nonneg (by omega),Int.natAbs_of_nonneg (by omega),Int.natAbs_of_nonneg (by omega),Int.natAbs_of_nonneg (by omega)];omega
  ·rw[Int.ofNat_natAbs_of_nonpos (by omega),Int.ofNat_natAbs_of_nonpos (by omega),Int.ofNat_natAbs_of_nonpos (by omega),Int.ofNat_natAbs_of_nonpos (by omega)];grind
 refine⟨[((a.natAbs:Int),q),((b.natAbs:Int),r),((c.natAbs:Int),s)],(z.natAbs:Int),ps.2.2.2,by simp,?_,hs,key _ _ _ _ c1,key _ _ _ _ c2,key _ _ _ _ c3,?_⟩
 ·intro x hx
  simp only[List.mem_cons,List.not_mem_nil,or_false] at hx
  rcases hx with rfl | rfl | rfl
  ·exact ps.1
  ·exact ps.2.1
  ·exact ps.2.2.1
 ·simp only[sm];omega
theorem half_of{l:List Pl}{p:Pl}(hz:∀q∈l,Nz q)(h:wth l p=true):Half l p:=by
 rcases(wth_sub l p).1 h with ⟨q,h1,h2⟩ | ⟨q,r,h1,h2⟩ | ⟨q,r,s,h1,h2⟩
 ·exact half2 h1 (hz q (h1.subset List.mem_cons_self)) h2
 ·exact half3 h1 h2
 ·exact half4 h1 h2
theorem pad{l:List Pl}:∀{c:List (Int×Pl)},(c.map (·.2)).Sublist l→(∀x∈c,0<x.1)→∃z:List (Int×Pl),z.map (·.2)=l∧(∀x∈z,0≤x.1)∧∀f,sm f z=sm f c:=by
 induction l with
 | nil =>
  intro c h _
  have:c=[]:=by have:=h.length_le;simpa using this
  subst this
  exact⟨[],rfl,by simp,fun _=>rfl⟩
 | cons y l ih =>
  intro c h hp
  have skip:(c.map (·.2)).Sublist l→∃z:List (Int×Pl),z.map (·.2)=y::l∧(∀x∈z,0≤x.1)∧∀f,sm f z=sm f c:=fun h=>by
   obtain⟨z,h1,h2,h3⟩:=ih h hp
   refine⟨(0,y)::z,by simp[h1],fun x hx=>?_,fun f=>?_⟩
   ·rcases List.mem_cons.1 hx with rfl | hx
    ·exact Int.le_refl _
    ·exact h2 x hx
   ·rw[sm_cons,h3];omega
  match c,h,hp,skip with
  | [],_,_,skip=>exact skip (List.nil_sublist _)
  | x::c,h,hp,skip =>
   simp only[List.map_cons] at h
   cases h with
   | cons _ h=>exact skip h
   | cons_cons _ h =>
    obtain⟨z,h1,h2,h3⟩:=ih h fun x hx=>hp x (List.mem_cons_of_mem _ hx)
    refine⟨(x.1,x.2)::z,by simp[h1],fun w hw=>?_,fun f=>?_⟩
    ·rcases List.mem_cons.1 hw with rfl | hw
     ·exact Int.le_of_lt (hp x List.mem_cons_self)
     ·exact h2 w hw
    ·rw[sm_cons,sm_cons,h3]
def mix (a b:Int):List (Int×Pl)→List (Int×Pl)→List (Int×Pl)
 | x::c,y::d=>(a*x.1+b*y.1,x.2)::mix a b c d
 | _,_=>[]
theorem sm_mix(f:Pl→Int)(a b:Int):∀(c d:List (Int×Pl)),c.map (·.2)=d.map (·.2)→sm f (mix a b c d)=a*sm f c+b*sm f d
 | [],[],_=>by simp[mix,sm]
 | x::c,y::d,h=>by
  simp only[List.map_cons,List.cons.injEq] at h
  simp only[mix,sm_cons]
  rw[sm_mix f a b c d h.2,h.1];grind
 | [],_::_,h=>by simp at h
 | _::_,[],h=>by simp at h
theorem mix_snd(a b:Int):∀(c d:List (Int×Pl)),c.map (·.2)=d.map (·.2)→(mix a b c d).map (·.2)=c.map (·.2)
 | [],[],_=>rfl
 | x::c,y::d,h=>by
  simp only[List.map_cons,List.cons.injEq] at h
  simp only[mix,List.map_cons]
  rw[mix_snd a b c d h.2]
 | [],_::_,h=>by simp at h
 | _::_,[],h=>by simp at h
theorem mix_ge{a b:Int}(ha:0≤a)(hb:0≤b):∀(c d:List (Int×Pl)),(∀x∈c,0≤x.1)→(∀x∈d,0≤x.1)→∀x∈mix a b c d,0≤x.1
 | [],_,_,_=>by simp[mix]
 | _::_,[],_,_=>by simp[mix]
 | x::c,y::d,hc,hd=>by
  intro z hz
  simp only[mix] at hz
  rcases List.mem_cons.1 hz with rfl | hz
  ·have h1:=Int.mul_nonneg ha (hc x List.mem_cons_self)
   have h2:=Int.mul_nonneg hb (hd y List.mem_cons_self)
   show 0≤a*x.1+b*y.1
   omega
  ·exact mix_ge ha hb c d (fun w hw=>hc w (List.mem_cons_of_mem _ hw)) (fun w hw=>hd w (List.mem_cons_of_mem _ hw)) z hz
theorem sm_pos{c:List (Int×Pl)}(h:∀x∈c,0<x.1)(hn:c≠[]):0<sm (fun _=>1) c:=by
 have ge:∀c:List (Int×Pl),(∀x∈c,0<x.1)→0≤sm (fun _=>1) c:=fun c=>by
  induction c with
  | nil=>intro _;exact Int.le_refl _
  | cons x r ih =>
   intro h
   have h1:=h x List.mem_cons_self
   have h2:=ih fun y hy=>h y (List.mem_cons_of_mem _ hy)
   rw[sm_cons];omega
 obtain⟨x,r,rfl⟩:=List.exists_cons_of_ne_nil hn
 have h1:=h x List.mem_cons_self
 have h2:=ge r fun y hy=>h y (List.mem_cons_of_mem _ hy)
 rw[sm_cons];omega
theorem flip_room{l:List Pl}(ho:Opn l)(hz:∀q∈l,Nz q)(p:Pl):wth l p=false∨wth l (flp p)=false:=by
 cases h1:wth l p with
 | false=>exact .inl rfl
 | true =>
  cases h2:wth l (flp p) with
  | false=>exact .inr rfl
  | true =>
   exfalso
   obtain⟨c,m,hm,hcn,hcp,hcs,ca,cb,cc,cd⟩:=half_of hz h1
   obtain⟨d,k,hk,hdn,hdp,hds,da,db,dc,dd⟩:=half_of hz h2
   obtain⟨z,z1,z2,z3⟩:=pad hcs hcp
   obtain⟨y,y1,y2,y3⟩:=pad hds hdp
   have hzy:z.map (·.2)=y.map (·.2):=by rw[z1,y1]
   have ge:=mix_ge (a:=k) (b:=m) (by omega) (by omega) z y z2 y2
   have e:∀f,sm f (pst (mix k m z y))=k*sm f c+m*sm f d:=fun f=>by rw[sm_pst _ _ ge,sm_mix f k m z y hzy,z3,y3]
   simp only[flp] at da db dc dd
   refine no_cert ho hz _ (pst (mix k m z y)) (Nat.lt_succ_self _) ⟨fun x hx=>pst_pos hx,?_,?_,?_,?_,?_⟩ ?_
   ·rw[e];grind
   ·rw[e];grind
   ·rw[e];grind
   ·rw[e]
    have e1:k*sm Pl.D c+m*sm Pl.D d=k*(sm Pl.D c+m*p.D)+m*(sm Pl.D d+k*(0-p.D)):=by grind
    rw[e1]
    have h1:=Int.mul_nonpos_of_nonneg_of_nonpos (Int.le_of_lt hk) cd
    have h2:=Int.mul_nonpos_of_nonneg_of_nonpos (Int.le_of_lt hm) dd
    omega
   ·intro h
    have:=e fun _=>1
    rw[h,sm_nil] at this
    have h1:=Int.mul_pos hk (sm_pos hcp hcn)
    have h2:=Int.mul_pos hm (sm_pos hdp hdn)
    omega
   ·have:=(pst_sub (mix k m z y)).map (·.2)
    rw[mix_snd k m z y hzy,z1] at this
    exact this
end Evl.T
namespace Evl.T
open Go Evl
def isLf (x:Sol):Bool:=(x.kids.length:Int)==0
def jnB (x y:Sol):Bool:=isLf x&&(isLf y&&(x.inn==y.inn))
def jn (p:Pl)(x y:Sol):Sol:=if jnB x y then lfS x.inn else .mk false p [x,y]
def lfB (op:Int)(a b:Bool):Bool:=if op==1 then a&&b else if op==2 then a||b else if op==3 then a&&!b else !(a==b)
theorem sLeaf(b:Bool):Dp_Leaf b=some (lfS b):=rfl
theorem iLeaf(b:Bool):Di_Leaf b=some (lfS b):=rfl
theorem sIsLf(x:Sol):Dp_l8Leaf x=some (isLf x):=rfl
theorem iIsLf(x:Sol):Di_Solid_isLeaf x=some (isLf x):=rfl
theorem sOpLeaf(op:Int)(a b:Bool):Dp_l11In op a b=some (lfB op a b):=by
 unfold Dp_l11In lfB
 cases a <;> cases b <;> simp only[frk_if] <;> (split <;> first | rfl | (split <;> first | rfl | (split <;> rfl)))
theorem iOpLeaf(op c:Int)(d:Bool)(a b:Bool):Di_merger_leaf (op,c,d) a b=some (lfS (lfB op a b),(op,c,d)):=by
 unfold Di_merger_leaf lfB
 simp only[iLeaf,oBs]
 cases a <;> cases b <;> simp only[frk_if] <;> (split <;> first | rfl | (split <;> first | rfl | (split <;> rfl)))
theorem sNode(p:Pl)(x y:Sol):Dp_l11Nodeo1o2 p x y=some (jn p x y):=by
 unfold jn jnB
 simp only[Dp_l11Nodeo1o2,Dp_l11Nodeo1o2_0,Dp_l11Nodeo1o2_1,Dp_l8Nodeo1o2,sIsLf,sLeaf,oBs,pl_eq,sol_eq]
 cases isLf x <;> cases isLf y <;> cases (x.inn==y.inn) <;> rfl
theorem iJoin(op c:Int)(d:Bool)(p:Pl)(x y:Sol):Di_merger_joino2o3 (op,c,d) p x y=some (jn p x y,(op,if jnB x y then c else w64 (c+1),if jnB x y then d else d||decide (w64 (c+1)>300))):=by
 unfold jn jnB
 simp only[Di_merger_joino2o3,Di_merger_joino2o3_0,Di_merger_joino2o3_1,Di_merger_joino2o3_2,Di_nodeo1o2,iIsLf,iLeaf,oBs,pl_eq,sol_eq]
 cases isLf x <;> cases isLf y <;> cases (x.inn==y.inn) <;> cases d <;> rfl
inductive Bin:Sol→Prop
 | leaf {i p}:Bin (.mk i p [])
 | node {i p a b}:Bin a→Bin b→Bin (.mk i p [a,b])
theorem Bin.lens{s:Sol}(h:Bin s):Lens s:=by
 induction h with
 | leaf=>exact .mk (by simp[big]) (by simp)
 | node _ _ iha ihb =>
  refine .mk (by simp[big]) fun x hx=>?_
  simp only[List.mem_cons,List.not_mem_nil,or_false] at hx
  rcases hx with rfl | rfl
  ·exact iha
  ·exact ihb
theorem Rt.bin{s:Sol}{l:List Pl}(h:Rt s l):Bin s:=by
 induction h with
 | leaf _=>exact .leaf
 | node _ _ _ _ _ _ iha ihb=>exact .node iha ihb
theorem Bin.isLf{s:Sol}(h:Bin s)(e:Evl.T.isLf s=true):nod s=0:=by
 cases h with
 | leaf=>exact nod_leaf _ _
 | node _ _=>simp[Evl.T.isLf,Sol.kids] at e
theorem bin_jn{p:Pl}{x y:Sol}(hx:Bin x)(hy:Bin y):Bin (jn p x y):=by
 unfold jn;split
 ·exact .leaf
 ·exact .node hx hy
theorem nod_jn{p:Pl}{x y:Sol}(hx:Bin x)(hy:Bin y):nod (jn p x y)=if jnB x y then 0 else 1+(nod x+nod y):=by
 unfold jn;split
 ·exact nod_leaf _ _
 ·exact nod2 _ _ _ _
theorem jnB_zero{x y:Sol}(hx:Bin x)(hy:Bin y)(h:jnB x y=true):nod x=0∧nod y=0:=by
 unfold jnB at h;simp only[bAt] at h
 exact⟨hx.isLf h.1,hy.isLf h.2.1⟩
structure Good(path:List Pl):Prop where
 o:Opn path
 pb:∀q∈path,PB q
 nz:∀q∈path,Nz q
 len:path.length≤24
theorem Good.nil:Good []:=⟨.nil,by simp,by simp,by simp⟩
theorem Nz_flp{p:Pl}(h:Nz p):Nz (flp p):=by
 unfold Nz flp at *;simp only;omega
theorem Good.snoc{path:List Pl}{p:Pl}(h:Good path)(hp:PB p)(hz:Nz p)(hw:wth path p=false)(hl:path.length<24):Good (path++[p]) :=
 ⟨.snoc h.o hw,path_PB h.pb hp,fun q hq=>by
  rcases List.mem_append.1 hq with hq | hq
  ·exact h.nz q hq
  ·rw[List.mem_singleton.1 hq];exact hz,by simp;omega⟩
end Evl.T
namespace Evl.T
open Go Evl
theorem sTake(n m:Nat)(op:Int)(bad inn:Bool)(p:Pl)(x y:Sol)(path:List Pl)(hG:Good path)(hp:pOk p=true)(hn:40≤n) :
  loopN (Dp_l11Take_b n) (m+1) ((op,bad),inn,.mk false p [x,y],path) =
   if wth path (flp p) then loopN (Dp_l11Take_b n) m ((op,bad),inn,x,path)
   else if wth path p then loopN (Dp_l11Take_b n) m ((op,bad),inn,y,path)
   else if bad then some (lfS false,(op,true)) else if path.length=24 then some (lfS false,(op,true))
   else (loopN (Dp_l11Take_b n) m ((op,false),inn,x,path++[p])).bind fun v=>(loopN (Dp_l11Take_b n) m (v.2,inn,y,path++[flp p])).bind fun u=>some (jn p v.1 u.1,u.2):=by
 have hpb:=pOk_PB hp
 have hl:=hG.len
 have hfl:=flip_room hG.o hG.nz p
 rw[loop_suc]
 simp only[Dp_l11Take_b,Dp_l11Take_0,Dp_l11Take_1,Dp_l11Take_2,Dp_l11Take_3,Dp_l11Take_4,Dp_l11Take_5,sIsLf,isLf,oBs,Sol.kids,Sol.pl,Sol.inn,
  sWith path p hG.pb hpb (by unfold big;omega) n (by omega),sFlip p hpb,sWith path (flp p) hG.pb (flp_PB hpb) (by unfold big;omega) n (by omega),sLeaf,lget_zero,lget_one,pl_eq,
  sPath path p (by omega),sPath path (flp p) (by omega),sNode]
 have e0:((([x,y]:List Sol).length:Int)==0)=false:=rfl
 have e24:((path.length:Int)==24)=decide (path.length=24):=by
  by_cases h:path.length=24
  ·simp[h]
  ·have:¬(path.length:Int)=24:=by omega
   simp[h,this]
 rw[e0,frk_f,e24]
 have bs:∀{α:Type} (o:Option α),(o.bind fun v=>some v)=o:=fun o=>by cases o <;> rfl
 cases h3:wth path p with
 | true =>
  have h5:wth path (flp p)=false:=by
   rcases hfl with h | h
   ·rw[h3] at h;cases h
   ·exact h
  rw[h5]
  simp only[Bool.not_true,Bool.not_false,frk_t,frk_f,List.getElem?_cons_zero,List.getElem?_cons_succ,oBs,bs,if_true,Bool.false_eq_true,if_false]
 | false =>
  cases h5:wth path (flp p) with
  | true=>simp only[Bool.not_true,Bool.not_false,frk_t,frk_f,List.getElem?_cons_zero,oBs,bs,if_true]
  | false =>
   simp only[Bool.not_true,Bool.not_false,frk_t,frk_f,List.getElem?_cons_zero,List.getElem?_cons_succ,oBs,Bool.false_eq_true,if_false]
   cases bad with
   | true=>simp only[frk_t,if_true]
   | false =>
    simp only[frk_f,Bool.false_eq_true,if_false]
    by_cases h:path.length=24
    ·rw[decide_eq_true h,frk_t,if_pos h]
    ·rw[decide_eq_false h,frk_f,if_neg h]
theorem iTake(n m:Nat)(op c:Int)(inn:Bool)(p:Pl)(x y:Sol)(path:List Pl)(hG:Good path)(hp:pOk p=true)(hn:40≤n) :
  loopN (Di_merger_take_b n) (m+1) ((op,c,false),inn,.mk false p [x,y],path) =
   if wth path (flp p) then loopN (Di_merger_take_b n) m ((op,c,false),inn,x,path)
   else if wth path p then loopN (Di_merger_take_b n) m ((op,c,false),inn,y,path)
   else if path.length=24 then some (lfS false,(op,c,true))
   else (loopN (Di_merger_take_b n) m ((op,c,false),inn,x,path++[p])).bind fun v=>(loopN (Di_merger_take_b n) m (v.2,inn,y,path++[flp p])).bind fun u=>Di_merger_joino2o3 u.2 p v.1 u.1:=by
 have hpb:=pOk_PB hp
 have hl:=hG.len
 rw[loop_suc]
 simp only[Di_merger_take_b,iIsLf,isLf,oBs,Sol.kids,Sol.pl,Sol.inn,iFlip p hpb,
  iRoom path p hG.pb hpb (by unfold big;omega) n (by omega),iRoom path (flp p) hG.pb (flp_PB hpb) (by unfold big;omega) n (by omega),lget_zero,lget_one,
  iPath path p (by omega),iPath path (flp p) (by omega)]
 have e0:((([x,y]:List Sol).length:Int)==0)=false:=rfl
 have e24:decide ((path.length:Int)≥24)=decide (path.length=24):=by
  apply dec_iff;omega
 rw[e0,frk_f,frk_f,e24]
 have bs:∀{α:Type} (o:Option α),(o.bind fun v=>some v)=o:=fun o=>by cases o <;> rfl
 cases h5:wth path (flp p) with
 | true=>simp only[Bool.not_true,Bool.not_false,frk_t,List.getElem?_cons_zero,oBs,bs,if_true]
 | false =>
  cases h3:wth path p with
  | true=>simp only[Bool.not_true,Bool.not_false,frk_t,frk_f,List.getElem?_cons_zero,List.getElem?_cons_succ,oBs,bs,if_true,Bool.false_eq_true,if_false]
  | false =>
   simp only[Bool.not_true,Bool.not_false,frk_f,List.getElem?_cons_zero,List.getElem?_cons_succ,oBs,bs,Bool.false_eq_true,if_false]
   by_cases h:path.length=24
   ·rw[decide_eq_true h,frk_t,if_pos h];rfl
   ·rw[decide_eq_false h,frk_f,if_neg h]
theorem iTakeBad(n m:Nat)(op c:Int)(inn:Bool)(b:Sol)(path:List Pl):loopN (Di_merger_take_b n) (m+1) ((op,c,true),inn,b,path)=some (lfS false,(op,c,true)):=rfl
theorem sTakeLeaf(n m:Nat)(op:Int)(bad inn i:Bool)(p:Pl)(path:List Pl):loopN (Dp_l11Take_b n) (m+1) ((op,bad),inn,.mk i p [],path)=some (lfS (lfB op inn i),(op,bad)):=by
 rw[loop_suc]
 simp only[Dp_l11Take_b,sIsLf,oBs,Sol.inn,sOpLeaf,sLeaf]
 rfl
theorem iTakeLeaf(n m:Nat)(op c:Int)(inn i:Bool)(p:Pl)(path:List Pl):loopN (Di_merger_take_b n) (m+1) ((op,c,false),inn,.mk i p [],path)=some (lfS (lfB op inn i),(op,c,false)):=by
 rw[loop_suc]
 simp only[Di_merger_take_b,iIsLf,oBs,Sol.inn,iOpLeaf]
 rfl
end Evl.T
namespace Evl.T
open Go Evl
def Sp (op:Int)(R:Int×Bool→Option (Sol×(Int×Bool)))(x:Sol)(sb:Bool):Prop :=
 (∃x',R (op,true)=some (x',(op,true)))∧∃x',R (op,false)=some (x',(op,sb))∧(sb=false→x'=x)
def Im (op:Int)(R:Int×Int×Bool→Option (Sol×(Int×Int×Bool)))(x:Sol)(sb:Bool):Prop :=
 (∀c:Int,∃y,R (op,c,true)=some (y,(op,c,true))) ∧
 ∀c:Nat,c≤300→∃y c' ib,R (op,(c:Int),false)=some (y,(op,c',ib))∧(ib=false↔sb=false∧c+nod x≤300)∧(ib=false→y=x∧c'=((c+nod x:Nat):Int))
theorem sp_join{op:Int}{R1 R2:Int×Bool→Option (Sol×(Int×Bool))}{x1 x2:Sol}{b1 b2:Bool}(p:Pl)(h1:Sp op R1 x1 b1)(h2:Sp op R2 x2 b2) :
  Sp op (fun t=>(R1 t).bind fun v=>(R2 v.2).bind fun u=>some (jn p v.1 u.1,u.2)) (jn p x1 x2) (b1||b2):=by
 obtain⟨⟨y1,e1⟩,z1,f1,g1⟩:=h1
 obtain⟨⟨y2,e2⟩,z2,f2,g2⟩:=h2
 refine⟨⟨jn p y1 y2,by simp only[e1,e2,oBs]⟩,?_⟩
 cases b1 with
 | true=>exact⟨jn p z1 y2,by simp only[f1,e2,oBs,Bool.true_or],fun h=>by cases h⟩
 | false=>exact⟨jn p z1 z2,by simp only[f1,f2,oBs,Bool.false_or],fun h=>by rw[g1 rfl,g2 (by simpa using h)]⟩
theorem im_join{op:Int}{R1 R2:Int×Int×Bool→Option (Sol×(Int×Int×Bool))}{x1 x2:Sol}{b1 b2:Bool}(p:Pl)(hx1:Bin x1)(hx2:Bin x2)(h1:Im op R1 x1 b1)(h2:Im op R2 x2 b2)(c:Nat)(hc:c≤300) :
  ∃y c' ib,((R1 (op,(c:Int),false)).bind fun v=>(R2 v.2).bind fun u=>Di_merger_joino2o3 u.2 p v.1 u.1)=some (y,(op,c',ib))∧(ib=false↔(b1||b2)=false∧c+nod (jn p x1 x2)≤300)∧(ib=false→y=jn p x1 x2∧c'=((c+nod (jn p x1 x2):Nat):Int)):=by
 have hnj:=nod_jn (p:=p) hx1 hx2
 have hz:=jnB_zero hx1 hx2
 have hge:nod x1+nod x2≤nod (jn p x1 x2):=by
  rw[hnj];split
  ·rename_i h;have:=hz h;omega
  ·omega
 have bad:∀(q:Sol×(Int×Int×Bool)) (y c'':_),q=(y,(op,c'',true))→∀v:Sol,¬((b1||b2)=false∧c+nod (jn p x1 x2)≤300) →
   ∃y c' ib,Di_merger_joino2o3 q.2 p v q.1=some (y,(op,c',ib))∧(ib=false↔(b1||b2)=false∧c+nod (jn p x1 x2)≤300)∧(ib=false→y=jn p x1 x2∧c'=((c+nod (jn p x1 x2):Nat):Int)):=by
  intro q y c'' hq v hno
  subst hq
  have e:(if jnB v y=true then true else true||decide (w64 (c''+1)>300))=true:=by split <;> rfl
  refine⟨_,_,true,by rw[iJoin,e],⟨fun h=>(by cases h),fun h=>absurd h hno⟩,fun h=>by cases h⟩
 obtain⟨y1,c1,i1,e1,f1,g1⟩:=h1.2 c hc
 rw[e1,oBs]
 cases i1 with
 | true =>
  obtain⟨y2,e2⟩:=h2.1 c1
  show ∃y c' ib,((R2 (op,c1,true)).bind _)=_∧_
  rw[e2,oBs]
  refine bad (y2,(op,c1,true)) y2 c1 rfl y1 fun h=>?_
  have:¬(b1=false∧c+nod x1≤300):=fun h=>by have:=f1.2 h;cases this
  refine this ⟨?_,by omega⟩
  have h:=h.1
  cases b1
  ·rfl
  ·cases h
 | false =>
  obtain⟨q1,q2⟩:=f1.1 rfl
  obtain⟨rfl,rfl⟩:=g1 rfl
  subst q1
  obtain⟨y2,c2,i2,e2,f2,g2⟩:=h2.2 (c+nod y1) q2
  show ∃y c' ib,((R2 (op,((c+nod y1:Nat):Int),false)).bind _)=_∧_
  rw[e2,oBs]
  cases i2 with
  | true =>
   refine bad (y2,(op,c2,true)) y2 c2 rfl y1 fun h=>?_
   have:¬(b2=false∧c+nod y1+nod x2≤300):=fun h=>by have:=f2.2 h;cases this
   exact this ⟨by simpa using h.1,by omega⟩
  | false =>
   obtain⟨q3,q4⟩:=f2.1 rfl
   obtain⟨rfl,rfl⟩:=g2 rfl
   subst q3
   show ∃y c' ib,Di_merger_joino2o3 (op,((c+nod y1+nod y2:Nat):Int),false) p y1 y2=_∧_
   rw[iJoin]
   by_cases hj:jnB y1 y2=true
   ·have hzz:=hz hj
    refine⟨_,_,_,rfl,?_,fun _=>⟨rfl,?_⟩⟩
    ·rw[if_pos hj,hnj,if_pos hj];simp;omega
    ·rw[if_pos hj,hnj,if_pos hj];omega
   ·have hw:w64 (((c+nod y1+nod y2:Nat):Int)+1)=((c+nod y1+nod y2+1:Nat):Int):=w64_suc (by unfold big;omega)
    refine⟨_,_,_,rfl,?_,fun _=>⟨rfl,?_⟩⟩
    ·rw[if_neg hj,hnj,if_neg hj,hw,Bool.false_or,decide_eq_false_iff_not]
     simp only[Bool.or_self,true_and]
     omega
    ·rw[if_neg hj,hnj,if_neg hj,hw];omega
inductive Tk(op:Int)(inn:Bool):Sol→List Pl→Sol→Bool→Prop
 | leaf {i p path}:Tk op inn (.mk i p []) path (lfS (lfB op inn i)) false
 | one {p a b path x sb}:wth path (flp p)=true→Tk op inn a path x sb→Tk op inn (.mk false p [a,b]) path x sb
 | two {p a b path x sb}:wth path (flp p)=false→wth path p=true→Tk op inn b path x sb→Tk op inn (.mk false p [a,b]) path x sb
 | deep {p a b path}:wth path p=false→wth path (flp p)=false→path.length=24→Tk op inn (.mk false p [a,b]) path (lfS false) true
 | node {p a b path x1 b1 x2 b2}:pOk p=true→path.length<24→wth path p=false→wth path (flp p)=false→Tk op inn a (path++[p]) x1 b1→Tk op inn b (path++[flp p]) x2 b2→Tk op inn (.mk false p [a,b]) path (jn p x1 x2) (b1||b2)
inductive Pt2(op:Int):Sol→Sol→List Pl→Sol→Bool→Prop
 | leaf {i p b path x sb}:Tk op i b path x sb→Pt2 op (.mk i p []) b path x sb
 | node {p a b c path x1 b1 x2 b2}:pOk p=true→path.length<24→wth path p=false→wth path (flp p)=false→Pt2 op a c (path++[p]) x1 b1→Pt2 op b c (path++[flp p]) x2 b2→Pt2 op (.mk false p [a,b]) c path (jn p x1 x2) (b1||b2)
theorem rt_jn{p:Pl}{x y:Sol}{path:List Pl}(hp:pOk p=true)(hl:path.length<24)(h3:wth path p=false)(h5:wth path (flp p)=false)(hx:Rt x (path++[p]))(hy:Rt y (path++[flp p])):Rt (jn p x y) path:=by
 unfold jn
 split
 ·exact .leaf rfl
 ·exact .node hp hl h3 h5 hx hy
theorem Tk.rt{op:Int}{inn:Bool}{b:Sol}{path:List Pl}{x:Sol}{sb:Bool}(h:Tk op inn b path x sb):Rt x path:=by
 induction h with
 | leaf=>exact .leaf rfl
 | one _ _ ih=>exact ih
 | two _ _ _ ih=>exact ih
 | deep=>exact .leaf rfl
 | node hp hl h3 h5 _ _ iha ihb=>exact rt_jn hp hl h3 h5 iha ihb
theorem Pt2.rt{op:Int}{a b:Sol}{path:List Pl}{x:Sol}{sb:Bool}(h:Pt2 op a b path x sb):Rt x path:=by
 induction h with
 | leaf h=>exact h.rt
 | node hp hl h3 h5 _ _ iha ihb=>exact rt_jn hp hl h3 h5 iha ihb
theorem takeOk{b:Sol}{l:List Pl}(h:Rt b l):∀(op:Int) (inn:Bool) (path:List Pl),Good path→∃x sb,(Tk op inn b path x sb∧Bin x)∧E2 fun n m =>
  Sp op (fun t=>loopN (Dp_l11Take_b n) m (t,inn,b,path)) x sb∧Im op (fun t=>loopN (Di_merger_take_b n) m (t,inn,b,path)) x sb:=by
 induction h with
 | @leaf i p _ _ =>
  intro op inn path hG
  refine⟨lfS (lfB op inn i),false,⟨.leaf,.leaf⟩,E2.suc (E2.of fun n m=>⟨⟨⟨_,sTakeLeaf n m op true inn i p path⟩,_,sTakeLeaf n m op false inn i p path,fun _=>rfl⟩,fun c=>⟨_,iTakeBad n m op c inn _ path⟩,fun c hc=>⟨_,_,_,iTakeLeaf n m op c inn i p path,?_,fun _=>⟨rfl,?_⟩⟩⟩)⟩
  ·rw[show nod (lfS (lfB op inn i))=0 from nod_leaf _ _];simp;omega
  ·rw[show nod (lfS (lfB op inn i))=0 from nod_leaf _ _];rfl
 | @node p a b l0 hp _ _ _ _ _ iha ihb =>
  intro op inn path hG
  have hpb:=pOk_PB hp
  cases h5:wth path (flp p) with
  | true =>
   obtain⟨x,sb,⟨hT,hB⟩,hE⟩:=iha op inn path hG
   refine⟨x,sb,⟨.one h5 hT,hB⟩,E2.suc ((hE.and (e2_ge 40)).mono fun n m ⟨⟨hS,hI⟩,hn,hm⟩=>⟨?_,?_⟩)⟩
   ·refine⟨?_,?_⟩
    ·show ∃x',loopN _ _ _=_;rw[sTake n m op true inn p a b path hG hp hn,h5,if_pos rfl];exact hS.1
    ·show ∃x',loopN _ _ _=_∧_;rw[sTake n m op false inn p a b path hG hp hn,h5,if_pos rfl];exact hS.2
   ·refine⟨fun c=>⟨_,iTakeBad n m op c inn _ path⟩,fun c hc=>?_⟩
    show ∃y c' ib,loopN _ _ _=_∧_;rw[iTake n m op c inn p a b path hG hp hn,h5,if_pos rfl];exact hI.2 c hc
  | false =>
   cases h3:wth path p with
   | true =>
    obtain⟨x,sb,⟨hT,hB⟩,hE⟩:=ihb op inn path hG
    refine⟨x,sb,⟨.two h5 h3 hT,hB⟩,E2.suc ((hE.and (e2_ge 40)).mono fun n m ⟨⟨hS,hI⟩,hn,hm⟩=>⟨?_,?_⟩)⟩
    ·refine⟨?_,?_⟩
     ·show ∃x',loopN _ _ _=_;rw[sTake n m op true inn p a b path hG hp hn,h5,h3,if_neg (by simp),if_pos rfl];exact hS.1
     ·show ∃x',loopN _ _ _=_∧_;rw[sTake n m op false inn p a b path hG hp hn,h5,h3,if_neg (by simp),if_pos rfl];exact hS.2
    ·refine⟨fun c=>⟨_,iTakeBad n m op c inn _ path⟩,fun c hc=>?_⟩
     show ∃y c' ib,loopN _ _ _=_∧_;rw[iTake n m op c inn p a b path hG hp hn,h5,h3,if_neg (by simp),if_pos rfl];exact hI.2 c hc
   | false =>
    by_cases h24:path.length=24
    ·refine⟨lfS false,true,⟨.deep h3 h5 h24,.leaf⟩,E2.suc ((e2_ge 40).mono fun n m ⟨hn,hm⟩=>⟨⟨?_,?_⟩,fun c=>⟨_,iTakeBad n m op c inn _ path⟩,fun c hc=>?_⟩)⟩
     ·show ∃x',loopN _ _ _=_;rw[sTake n m op true inn p a b path hG hp hn,h5,h3,if_neg (by simp),if_neg (by simp),if_pos rfl];exact⟨_,rfl⟩
     ·show ∃x',loopN _ _ _=_∧_;rw[sTake n m op false inn p a b path hG hp hn,h5,h3,if_neg (by simp),if_neg (by simp),if_neg (by simp),if_pos h24];exact⟨_,rfl,fun h=>by cases h⟩
     ·show ∃y c' ib,loopN _ _ _=_∧_;rw[iTake n m op c inn p a b path hG hp hn,h5,h3,if_neg (by simp),if_neg (by simp),if_pos h24]
      exact⟨_,_,true,rfl,⟨fun h=>(by cases h),fun h=>(by have:=h.1;cases this)⟩,fun h=>by cases h⟩
    ·have hl:=hG.len
     have hz:=pOk_Nz hp
     obtain⟨x1,b1,⟨hT1,hB1⟩,hE1⟩:=iha op inn (path++[p]) (hG.snoc hpb hz h3 (by omega))
     obtain⟨x2,b2,⟨hT2,hB2⟩,hE2⟩:=ihb op inn (path++[flp p]) (hG.snoc (flp_PB hpb) (Nz_flp hz) h5 (by omega))
     refine⟨jn p x1 x2,b1||b2,⟨.node hp (by omega) h3 h5 hT1 hT2,bin_jn hB1 hB2⟩,E2.suc (((hE1.and hE2).and (e2_ge 40)).mono fun n m ⟨⟨⟨hS1,hI1⟩,hS2,hI2⟩,hn,hm⟩=>⟨⟨?_,?_⟩,fun c=>⟨_,iTakeBad n m op c inn _ path⟩,fun c hc=>?_⟩)⟩
     ·show ∃x',loopN _ _ _=_;rw[sTake n m op true inn p a b path hG hp hn,h5,h3,if_neg (by simp),if_neg (by simp),if_pos rfl];exact⟨_,rfl⟩
     ·show ∃x',loopN _ _ _=_∧_;rw[sTake n m op false inn p a b path hG hp hn,h5,h3,if_neg (by simp),if_neg (by simp),if_neg (by simp),if_neg h24]
      exact(sp_join p hS1 hS2).2
     ·show ∃y c' ib,loopN _ _ _=_∧_;rw[iTake n m op c inn p a b path hG hp hn,h5,h3,if_neg (by simp),if_neg (by simp),if_neg h24]
      exact im_join p hB1 hB2 hI1 hI2 c hc
theorem sBothL(n m:Nat)(t:Int×Bool)(i:Bool)(p:Pl)(b:Sol)(path:List Pl):loopN (Dp_l11Both_b n) (m+1) (t,.mk i p [],b,path)=Dp_l11Take n t i b path:=by
 rw[loop_suc]
 simp only[Dp_l11Both_b,sIsLf,oBs,Sol.inn]
 have:isLf (.mk i p [])=true:=rfl
 rw[this,frk_t]
 cases Dp_l11Take n t i b path <;> rfl
theorem iPutL(n m:Nat)(op c:Int)(i:Bool)(p:Pl)(b:Sol)(path:List Pl):loopN (Di_merger_put_b n) (m+1) ((op,c,false),.mk i p [],b,path)=Di_merger_take n (op,c,false) i b path:=by
 rw[loop_suc]
 simp only[Di_merger_put_b,iIsLf,oBs,Sol.inn]
 have:isLf (.mk i p [])=true:=rfl
 rw[this,frk_f,frk_t]
 cases Di_merger_take n (op,c,false) i b path <;> rfl
theorem iPutBad(n m:Nat)(op c:Int)(a b:Sol)(path:List Pl):loopN (Di_merger_put_b n) (m+1) ((op,c,true),a,b,path)=some (lfS false,(op,c,true)):=rfl
theorem sBothN(n m:Nat)(t:Int×Bool)(p:Pl)(x y b:Sol)(path:List Pl)(hpb:PB p)(hl:path.length≤24) :
  loopN (Dp_l11Both_b n) (m+1) (t,.mk false p [x,y],b,path) =
   (loopN (Dp_l11Both_b n) m (t,x,b,path++[p])).bind fun v=>(loopN (Dp_l11Both_b n) m (v.2,y,b,path++[flp p])).bind fun u=>some (jn p v.1 u.1,u.2):=by
 rw[loop_suc]
 simp only[Dp_l11Both_b,sIsLf,oBs,Sol.pl,Sol.kids,lget_zero,lget_one,sPath path p (by omega),sFlip p hpb,sPath path (flp p) (by omega),sNode]
 have:isLf (.mk false p [x,y])=false:=rfl
 rw[this,frk_f]
 simp only[List.getElem?_cons_zero,List.getElem?_cons_succ,oBs]
theorem iPutN(n m:Nat)(op c:Int)(p:Pl)(x y b:Sol)(path:List Pl)(hpb:PB p)(hl:path.length≤24) :
  loopN (Di_merger_put_b n) (m+1) ((op,c,false),.mk false p [x,y],b,path) =
   (loopN (Di_merger_put_b n) m ((op,c,false),x,b,path++[p])).bind fun v=>(loopN (Di_merger_put_b n) m (v.2,y,b,path++[flp p])).bind fun u=>Di_merger_joino2o3 u.2 p v.1 u.1:=by
 rw[loop_suc]
 simp only[Di_merger_put_b,iIsLf,oBs,Sol.pl,Sol.kids,lget_zero,lget_one,iPath path p (by omega),iFlip p hpb,iPath path (flp p) (by omega)]
 have:isLf (.mk false p [x,y])=false:=rfl
 have bs:∀{α:Type} (o:Option α),(o.bind fun v=>some v)=o:=fun o=>by cases o <;> rfl
 rw[this,frk_f,frk_f]
 simp only[List.getElem?_cons_zero,List.getElem?_cons_succ,oBs,bs]
theorem putOk{a:Sol}{path:List Pl}(h:Rt a path):Good path→∀{b:Sol} {l:List Pl},Rt b l→∀op:Int,∃x sb,(Pt2 op a b path x sb∧Bin x)∧E2 fun n m =>
  Sp op (fun t=>loopN (Dp_l11Both_b n) m (t,a,b,path)) x sb∧Im op (fun t=>loopN (Di_merger_put_b n) m (t,a,b,path)) x sb:=by
 induction h with
 | @leaf i p path hz =>
  intro hG b l hb op
  obtain⟨x,sb,⟨hT,hB⟩,hE⟩:=takeOk hb op i path hG
  refine⟨x,sb,⟨.leaf hT,hB⟩,E2.suc (hE.ev.e2.mono fun n m ⟨hS,hI⟩=>⟨⟨?_,?_⟩,fun c=>⟨_,iPutBad n m op c _ b path⟩,fun c hc=>?_⟩)⟩
  ·show ∃x',loopN _ _ _=_;rw[sBothL];exact hS.1
  ·show ∃x',loopN _ _ _=_∧_;rw[sBothL];exact hS.2
  ·show ∃y c' ib,loopN _ _ _=_∧_;rw[iPutL];exact hI.2 c hc
 | @node p x y path hp hl h3 h5 _ _ iha ihb =>
  intro hG b l hb op
  have hpb:=pOk_PB hp
  have hz:=pOk_Nz hp
  obtain⟨x1,b1,⟨hT1,hB1⟩,hE1⟩:=iha (hG.snoc hpb hz h3 hl) hb op
  obtain⟨x2,b2,⟨hT2,hB2⟩,hE2⟩:=ihb (hG.snoc (flp_PB hpb) (Nz_flp hz) h5 hl) hb op
  refine⟨jn p x1 x2,b1||b2,⟨.node hp hl h3 h5 hT1 hT2,bin_jn hB1 hB2⟩,E2.suc ((hE1.and hE2).mono fun n m ⟨⟨hS1,hI1⟩,hS2,hI2⟩=>⟨⟨?_,?_⟩,fun c=>⟨_,iPutBad n m op c _ b path⟩,fun c hc=>?_⟩)⟩
  ·show ∃x',loopN _ _ _=_;rw[sBothN n m _ p x y b path hpb (by omega)];exact(sp_join p hS1 hS2).1
  ·show ∃x',loopN _ _ _=_∧_;rw[sBothN n m _ p x y b path hpb (by omega)];exact(sp_join p hS1 hS2).2
  ·show ∃y c' ib,loopN _ _ _=_∧_;rw[iPutN n m op c p x y b path hpb (by omega)];exact im_join p hB1 hB2 hI1 hI2 c hc
end Evl.T
namespace Evl.T
open Go Evl
open Classical in
theorem putEqS(a b:Sol)(ha:Lens a)(hb:Lens b)(op:Int):∃x ok,Bin x∧nod x≤300∧(¬(Right a∧Right b∧rIn op 1 4=true)→x=lfS false∧ok=false) ∧
  (Right a∧Right b∧rIn op 1 4=true→∃y sb,Pt2 op a b [] y sb∧(ok=true↔sb=false∧nod y≤300)∧(ok=true→x=y)∧(ok=false→x=lfS false)) ∧
  Ev fun n=>Dp_Put n a b op=some (x,ok)∧(Right a∧Right b∧rIn op 1 4=true→Di_put n a b op=some (x,ok)):=by
 have lf3:nod (lfS false)≤300:=by rw[show nod (lfS false)=0 from nod_leaf _ _];omega
 have e1:=sSolidOk a ha;have e2:=sSolidOk b hb;have e3:=iSolidOk a;have e4:=iSolidOk b
 by_cases hra:Right a
 ·by_cases hrb:Right b
  ·cases hop:rIn op 1 4 with
   | false =>
    refine⟨lfS false,false,.leaf,lf3,fun _=>⟨rfl,rfl⟩,fun h=>absurd h.2.2 (by simp),(e1.and (e2.and (e3.and e4))).mono fun n ⟨h1,h2,h3,h4⟩=>⟨?_,fun h=>absurd h.2.2 (by simp)⟩⟩
    ·simp only[Dp_Put,Dp_Put_1,h1,h2,sIn,hop,decide_eq_true hra,decide_eq_true hrb,oBs,Bool.not_true,Bool.not_false,frk_t,frk_f];rfl
   | true =>
    obtain⟨x,sb,⟨hT,hB⟩,hE⟩:=putOk hra.1 Good.nil hrb.1 op
    have hc:=cnt x hB.lens
    have main:=(e1.and (e2.and (e3.and (e4.and (hE.ev.and hc)))))
    have hN0:nod x≤300∨¬nod x≤300:=Decidable.em _
    by_cases hfin:sb=false∧nod x≤300
    ·refine⟨x,true,hB,hfin.2,fun h=>absurd ⟨hra,hrb,rfl⟩ h,fun _=>⟨x,sb,hT,⟨fun _=>hfin,fun _=>rfl⟩,fun _=>rfl,fun h=>absurd h (by simp)⟩,main.mono fun n ⟨h1,h2,h3,h4,⟨hS,hIm⟩,h5⟩=>⟨?_,fun _=>?_⟩⟩
     ·obtain⟨x',f1,f2⟩:=hS.2
      obtain rfl:=f2 hfin.1
      simp only[Dp_Put,Dp_Put_1,Dp_Put_3,Dp_l11Both,h1,h2,sIn,hop,decide_eq_true hra,decide_eq_true hrb,oBs,Bool.not_true,frk_f,sol_eq,sol_eq',pl_eq]
      have f1':loopN (Dp_l11Both_b n) n ((op,false),a,b,[])=_:=f1
      rw[f1',oBs]
      simp only[hfin.1,frk_f,h5,oBs]
      rw[cnv_yes (by have:=hfin.2;omega),decide_eq_false (by have:=hfin.2;omega),frk_f]
     ·obtain⟨y,c',ib,f1,f2,f3⟩:=hIm.2 0 (by omega)
      have hib:ib=false:=f2.2 ⟨hfin.1,by have:=hfin.2;omega⟩
      subst hib
      obtain⟨rfl,-⟩:=f3 rfl
      simp only[Di_put,Di_merger_put,sol_eq,sol_eq',pl_eq]
      have f1':loopN (Di_merger_put_b n) n ((op,0,false),a,b,[])=_:=f1
      rw[f1',oBs]
      simp only[frk_f,oBs]
    ·refine⟨lfS false,false,.leaf,lf3,fun _=>⟨rfl,rfl⟩,fun _=>⟨x,sb,hT,⟨fun h=>absurd h (by simp),fun h=>absurd h hfin⟩,fun h=>absurd h (by simp),fun _=>rfl⟩,main.mono fun n ⟨h1,h2,h3,h4,⟨hS,hIm⟩,h5⟩=>⟨?_,fun _=>?_⟩⟩
     ·obtain⟨x',f1,f2⟩:=hS.2
      simp only[Dp_Put,Dp_Put_1,Dp_Put_2,Dp_Put_3,Dp_l11Both,h1,h2,sIn,hop,decide_eq_true hra,decide_eq_true hrb,oBs,Bool.not_true,frk_f,sol_eq,sol_eq',pl_eq]
      have f1':loopN (Dp_l11Both_b n) n ((op,false),a,b,[])=_:=f1
      rw[f1',oBs]
      cases sb with
      | true=>simp only[frk_t];rfl
      | false =>
       obtain rfl:=f2 rfl
       have hbig:¬nod x'≤300:=fun h=>hfin ⟨rfl,h⟩
       have hc:decide (cnv (nod x') 301>300)=true:=by
        apply decide_eq_true
        unfold cnv;split <;> omega
       simp only[frk_f,h5,oBs]
       rw[hc,frk_t];rfl
     ·obtain⟨y,c',ib,f1,f2,f3⟩:=hIm.2 0 (by omega)
      have hib:ib=true:=by
       cases ib with
       | true=>rfl
       | false=>have:=f2.1 rfl;exact absurd ⟨this.1,by have:=this.2;omega⟩ hfin
      subst hib
      simp only[Di_put,Di_merger_put,sol_eq,sol_eq',pl_eq]
      have f1':loopN (Di_merger_put_b n) n ((op,0,false),a,b,[])=_:=f1
      rw[f1',oBs]
      simp only[frk_t,oBs];rfl
  ·refine⟨lfS false,false,.leaf,lf3,fun _=>⟨rfl,rfl⟩,fun h=>absurd h.2.1 hrb,(e1.and (e2.and (e3.and e4))).mono fun n ⟨h1,h2,h3,h4⟩=>⟨?_,fun h=>absurd h.2.1 hrb⟩⟩
   ·simp only[Dp_Put,Dp_Put_0,h1,h2,decide_eq_true hra,decide_eq_false hrb,oBs,Bool.not_true,Bool.not_false,frk_t,frk_f];rfl
 ·refine⟨lfS false,false,.leaf,lf3,fun _=>⟨rfl,rfl⟩,fun h=>absurd h.1 hra,(e1.and e3).mono fun n ⟨h1,h3⟩=>⟨?_,fun h=>absurd h.1 hra⟩⟩
  ·simp only[Dp_Put,Dp_Put_0,h1,decide_eq_false hra,oBs,Bool.not_false,frk_t];rfl
end Evl.T
namespace Evl.T
open Go Evl
open Classical in
theorem putEq(a b:Sol)(ha:Lens a)(hb:Lens b)(op:Int):∃x ok,Bin x∧nod x≤300∧(¬(Right a∧Right b∧rIn op 1 4=true)→x=lfS false∧ok=false) ∧
  (Right a∧Right b∧rIn op 1 4=true→∃y sb,Pt2 op a b [] y sb∧(ok=true↔sb=false∧nod y≤300)∧(ok=true→x=y)∧(ok=false→x=lfS false))∧Ev fun n=>Dp_Put n a b op=some (x,ok)∧Di_Put n a b op=some (x,ok):=by
 obtain⟨x,ok,hB,nx,hno,hpt,hE⟩:=putEqS a b ha hb op
 have hI:∀x,Di_isOp x=some (rIn x 1 4):=fun x=>by unfold Di_isOp;rw[iIn];rfl
 refine⟨x,ok,hB,nx,hno,hpt,(hE.and ((iSolidOk a).and (iSolidOk b))).mono fun n ⟨⟨h1,h2⟩,h3,h4⟩=>⟨h1,?_⟩⟩
 by_cases hc:Right a∧Right b∧rIn op 1 4=true
 ·have h2:=h2 hc
  simp only[Di_Put,Di_Put_1,hI,hc.2.2,h3,h4,decide_eq_true hc.1,decide_eq_true hc.2.1,oBs,Bool.not_true,frk_f,sol_eq,sol_eq',h2]
 ·obtain⟨rfl,rfl⟩:=hno hc
  cases hop:rIn op 1 4 with
  | false=>simp only[Di_Put,Di_Put_0,hI,hop,oBs,Bool.not_false,frk_t];rfl
  | true =>
   by_cases hra:Right a
   ·have hrb:¬Right b:=fun h=>hc ⟨hra,h,hop⟩
    simp only[Di_Put,Di_Put_0,Di_Put_1,hI,hop,h3,h4,decide_eq_true hra,decide_eq_false hrb,oBs,Bool.not_true,Bool.not_false,frk_t,frk_f];rfl
   ·simp only[Di_Put,Di_Put_0,hI,hop,h3,decide_eq_false hra,oBs,Bool.not_true,Bool.not_false,frk_t,frk_f];rfl
end Evl.T
namespace Evl.T
open Go Evl
def vl:List Int→Int
 | []=>0
 | d::l=>d+10000*vl l
def Dg (l:List Int):Prop:=∀d∈l,0≤d∧d≤9999
theorem Dg.head{d:Int}{l:List Int}(h:Dg (d::l)):0≤d∧d≤9999:=h d (by simp)
theorem Dg.tail{d:Int}{l:List Int}(h:Dg (d::l)):Dg l:=fun x hx=>h x (by simp[hx])
theorem Dg.cons{d:Int}{l:List Int}(h1:0≤d)(h2:d≤9999)(h:Dg l):Dg (d::l):=by
 intro x hx
 rcases List.mem_cons.1 hx with rfl | hx
 ·exact⟨h1,h2⟩
 ·exact h x hx
theorem Dg.nil:Dg []:=fun _ h=>absurd h (by simp)
theorem Dg.get{l:List Int}(h:Dg l){i:Nat}{d:Int}(hd:l[i]?=some d):0≤d∧d≤9999:=h d (List.mem_of_getElem? hd)
theorem Dg.take{l:List Int}(h:Dg l)(i:Nat):Dg (l.take i):=fun d hd=>h d (List.mem_of_mem_take hd)
theorem Dg.drop{l:List Int}(h:Dg l)(i:Nat):Dg (l.drop i):=fun d hd=>h d (List.mem_of_mem_drop hd)
theorem vl_nn:∀{l:List Int},Dg l→0≤vl l
 | [],_=>Int.le_refl _
 | d::l,h=>by have:=vl_nn h.tail;have:=h.head;unfold vl;omega
def dg (v:Nat):List Int:=if v=0 then [] else ((v % 10000:Nat):Int)::dg (v / 10000)
theorem dg_zero:dg 0=[]:=by rw[dg,if_pos rfl]
theorem dg_pos{v:Nat}(h:0<v):dg v=((v % 10000:Nat):Int)::dg (v / 10000):=by rw[dg,if_neg (by omega)]
theorem Dg_dg(v:Nat):Dg (dg v):=by
 induction v using Nat.strongRecOn with
 | ind v ih =>
  by_cases h:v=0
  ·subst h;rw[dg_zero];exact Dg.nil
  ·rw[dg_pos (by omega)];exact Dg.cons (by omega) (by omega) (ih _ (by omega))
theorem vl_dg(v:Nat):vl (dg v)=v:=by
 induction v using Nat.strongRecOn with
 | ind v ih =>
  by_cases h:v=0
  ·subst h;rw[dg_zero];rfl
  ·rw[dg_pos (by omega)];unfold vl;rw[ih _ (by omega)];omega
theorem dg_len:∀(k v:Nat),v<10000 ^ k→(dg v).length≤k
 | 0,v,h=>by
   have:v=0:=by simpa using h
   subst this;rw[dg_zero];exact Nat.le_refl 0
 | k+1,v,h=>by
  by_cases h0:v=0
  ·subst h0;rw[dg_zero];simp
  ·rw[dg_pos (by omega),List.length_cons]
   have:=dg_len k (v / 10000) (by rw[Nat.pow_succ] at h;omega)
   omega
theorem dg_len3{v:Nat}(h:v<1000000000000):(dg v).length≤3:=dg_len 3 v (by simpa using h)
theorem dg_mono{a b:Nat}(h:b≤a):(dg b).length≤(dg a).length:=by
 induction a using Nat.strongRecOn generalizing b with
 | ind a ih =>
  by_cases h0:b=0
  ·subst h0;rw[dg_zero];simp
  ·rw[dg_pos (v:=b) (by omega),dg_pos (v:=a) (by omega),List.length_cons,List.length_cons]
   have:=ih (a / 10000) (by omega) (b:=b / 10000) (by omega)
   omega
theorem dg_ne{v:Nat}:dg v≠[]↔0<v:=by
 constructor
 ·intro h
  by_cases h0:v=0
  ·subst h0;exact absurd dg_zero h
  ·omega
 ·intro h;rw[dg_pos h];simp
theorem dg_last(v:Nat):(dg v).getLast?≠some 0:=by
 induction v using Nat.strongRecOn with
 | ind v ih =>
  by_cases h:v=0
  ·subst h;rw[dg_zero];simp
  ·rw[dg_pos (by omega)]
   by_cases h2:v / 10000=0
   ·rw[h2,dg_zero];simp;omega
   ·have:=ih (v / 10000) (by omega)
    rw[dg_pos (v:=v / 10000) (by omega)] at this ⊢
    rw[List.getLast?_cons_cons];exact this
theorem dg_of:∀{l:List Int},Dg l→l.getLast?≠some 0→l=dg (vl l).toNat∧(l≠[]→0<vl l)
 | [],_,_=>⟨by show []=dg 0;rw[dg_zero],fun h=>absurd rfl h⟩
 | [d],h,hl=>by
  have hd:=h.head
  have h0:d≠0:=by simpa using hl
  have e:vl [d]=d:=by simp[vl]
  refine⟨?_,fun _=>by rw[e];omega⟩
  rw[e,dg_pos (by omega),show d.toNat / 10000=0 by omega,dg_zero]
  congr 1;omega
 | d::e::l,h,hl=>by
  rw[List.getLast?_cons_cons] at hl
  obtain⟨h1,h2⟩:=dg_of h.tail hl
  have h2:=h2 (by simp)
  have hd:=h.head
  have e1:vl (d::e::l)=d+10000*vl (e::l):=rfl
  refine⟨?_,fun _=>by omega⟩
  rw[e1,dg_pos (by omega),show (d+10000*vl (e::l)).toNat / 10000=(vl (e::l)).toNat by omega,←h1]
  congr 1;omega
theorem dg_of'{l:List Int}(h:Dg l)(hl:l.getLast?≠some 0){v:Nat}(hv:vl l=v):l=dg v:=by
 have:=(dg_of h hl).1;rw[hv] at this;exact this
theorem vl_app:∀(a b:List Int),vl (a++b)=vl a+10000 ^ a.length*vl b
 | [],b=>by simp[vl]
 | d::a,b=>by
  rw[List.cons_append];show d+10000*vl (a++b)=(d+10000*vl a)+10000 ^ (d::a).length*vl b;rw[vl_app a b,List.length_cons,Int.pow_succ,Int.mul_add]
  have:(10000:Int) ^ a.length*10000*vl b=10000*((10000:Int) ^ a.length*vl b):=by rw[Int.mul_comm ((10000:Int) ^ a.length) 10000,Int.mul_assoc]
  omega
theorem vl_lt:∀{l:List Int},Dg l→vl l<10000 ^ l.length
 | [],_=>by simp[vl]
 | d::l,h=>by
  have:=vl_lt h.tail;have:=h.head
  unfold vl;rw[List.length_cons,Int.pow_succ];omega
theorem vl_take_s{l:List Int}{i:Nat}{d:Int}(hd:l[i]?=some d):vl (l.take (i+1))=vl (l.take i)+10000 ^ i*d:=by
 have hi:=(List.getElem?_eq_some_iff.1 hd).1
 rw[List.take_add_one,hd,vl_app,List.length_take,Nat.min_eq_left (by omega)]
 simp[vl]
theorem vl_drop_s{l:List Int}{i:Nat}{d:Int}(hd:l[i]?=some d):vl (l.drop i)=d+10000*vl (l.drop (i+1)):=by
 obtain⟨hi,he⟩:=List.getElem?_eq_some_iff.1 hd
 rw[List.drop_eq_getElem_cons hi,he];rfl
theorem vl_drop_le{l:List Int}(h:Dg l):∀(i:Nat),vl (l.drop i)≤vl l:=by
 intro i
 induction i generalizing l with
 | zero=>exact Int.le_refl _
 | succ i ih =>
  cases l with
  | nil=>exact Int.le_refl _
  | cons d l =>
   have:=ih h.tail;have:=h.head;have:=vl_nn h.tail
   rw[List.drop_succ_cons]
   have e:vl (d::l)=d+10000*vl l:=rfl
   omega
theorem apB8{n:Nat}(h:n≤1000000):apB 8 n=true:=by
 simp only[apB,bAt,decide_eq_true_eq];omega
theorem w64_prd{i:Nat}(h:i≤1000000):w64 (((i+1:Nat):Int)-1)=(i:Int):=by
 rw[w64_id (by omega) (by omega)];omega
theorem dec_t{p:Prop} [Decidable p](h:p):decide p=true:=by simp[h]
theorem dec_f{p:Prop} [Decidable p](h:¬p):decide p=false:=by simp[h]
theorem numStep(n:Nat)(t0:Bool)(t1:List Int)(b:Bool)(rec0:Int→Option Num)(a:Int) :
  Dp_l1Num_2 n t0 t1 b rec0 a=frk (decide (a>0)) ((lget t1 (w64 (a-1))).bind fun v0=>frk (v0==0) (rec0 (w64 (a-1))) (Dp_l1Num_1 n t0 t1 a b)) (Dp_l1Num_1 n t0 t1 a b):=rfl
theorem numEnd(n:Nat)(t0:Bool)(l:List Int)(i:Nat)(b:Bool)(hi:i≤l.length)(hl:l.length≤1000) :
  Dp_l1Num_1 n t0 l (i:Int) b=some ⟨t0&&decide (0<i),l.take i⟩:=by
 unfold Dp_l1Num_1
 have hc:apB 8 (0+(l.take i).length)=true:=apB8 (by rw[List.length_take];omega)
 rw[lsl_take _ _ hi]
 simp only[oBs]
 rw[chk_eq hc,chk_eq hc]
 cases t0
 ·rw[frk_f];rfl
 ·rw[frk_t]
  have:decide ((i:Int)>0)=decide (0<i):=dec_iff (by omega)
  rw[this];simp
theorem numLoop(n:Nat)(t0 b:Bool)(l:List Int)(hD:Dg l)(hl:l.length≤1000){v:Nat}(hv:vl l=v):∀(i m:Nat),i≤l.length→vl (l.take i)=v→i<m →
  loopN (Dp_l1Num_2 n t0 l b) m (i:Int)=some ⟨t0&&decide (0<v),dg v⟩:=by
 intro i
 induction i with
 | zero =>
  intro m _ h0 hm
  obtain⟨m,rfl⟩:∃j,m=j+1:=⟨m-1,by omega⟩
  have:v=0:=by simp[vl] at h0;omega
  subst this
  rw[loop_suc,numStep,dec_f (by simp),frk_f,numEnd n t0 l 0 b (by omega) hl,dg_zero]
  rfl
 | succ i ih =>
  intro m hi h0 hm
  obtain⟨m,rfl⟩:∃j,m=j+1:=⟨m-1,by omega⟩
  obtain⟨d,hd⟩:∃d,l[i]?=some d:=⟨l[i],List.getElem?_eq_getElem (by omega)⟩
  rw[loop_suc,numStep,dec_t (by omega),frk_t,w64_prd (by omega),lget_nat,hd,oBs]
  by_cases h:d=0
  ·subst h
   rw[show ((0:Int)==0)=true from rfl,frk_t]
   refine ih m (by omega) ?_ (by omega)
   rw[vl_take_s hd] at h0;omega
  ·rw[show (d==0)=false by simpa using h,frk_f,numEnd n t0 l (i+1) b hi hl]
   have hlast:(l.take (i+1)).getLast?≠some 0:=by
    rw[List.take_add_one,hd];simpa using h
   have e:=dg_of' (hD.take (i+1)) hlast h0
   have hp:=(dg_of (hD.take (i+1)) hlast).2 (by rw[List.take_add_one,hd];simp)
   rw[←e]
   have:decide (0<i+1)=decide (0<v):=dec_iff ⟨fun _=>by omega,fun _=>by omega⟩
   rw[this]
theorem numOk(n:Nat)(t0:Bool)(l:List Int)(hD:Dg l)(hl:l.length≤1000){v:Nat}(hv:vl l=v)(hn:l.length<n):Dp_l1Num n t0 l=some ⟨t0&&decide (0<v),dg v⟩:=by
 unfold Dp_l1Num
 exact numLoop n t0 false l hD hl hv l.length n (Nat.le_refl _) (by rw[List.take_length];exact hv) hn
theorem ofStep(n:Nat)(t0:Int)(b:Bool)(rec0:(Int×List Int)→Option Num)(t3:Int)(l:List Int) :
  Dp_Of_2 n t0 b rec0 (t3,l)=frk (decide (t3>0)) (chk (apB 8 (l.length+1)) (rec0 (IntKind.u64.wrap (Int.tdiv t3 10000),(l++[w64 (Int.tmod t3 10000)])))) (Dp_Of_1 n t0 b l):=rfl
theorem u64w{x:Int}(h:0≤x)(h2:x<18446744073709551616):IntKind.u64.wrap x=x:=by
 have:IntKind.u64.wrap x=x % 18446744073709551616:=rfl
 omega
theorem ofLoop(n:Nat)(t0:Int)(b:Bool):∀(v:Nat) (l:List Int) (m:Nat),v<18446744073709551616→l.length+(dg v).length≤1000→(dg v).length<m →
  loopN (Dp_Of_2 n t0 b) m ((v:Int),l)=Dp_Of_1 n t0 b (l++dg v):=by
 intro v
 induction v using Nat.strongRecOn with
 | ind v ih =>
  intro l m h0 h1 hm
  obtain⟨m,rfl⟩:∃j,m=j+1:=⟨m-1,by omega⟩
  rw[loop_suc,ofStep]
  by_cases h:v=0
  ·subst h;rw[dec_f (by simp),frk_f,dg_zero,List.append_nil]
  ·rw[dec_t (by omega),frk_t]
   rw[dg_pos (by omega)] at h1 hm ⊢
   rw[List.length_cons] at h1 hm
   rw[chk_eq (apB8 (by omega))]
   have e1:IntKind.u64.wrap (Int.tdiv (v:Int) 10000)=((v / 10000:Nat):Int):=by
    rw[Int.tdiv_eq_ediv_of_nonneg (by omega),u64w (by omega) (by omega)];omega
   have e2:w64 (Int.tmod (v:Int) 10000)=((v % 10000:Nat):Int):=by
    rw[Int.tmod_eq_emod_of_nonneg (by omega),w64_id (by omega) (by omega)];omega
   rw[e1,e2,ih (v / 10000) (by omega) _ m (by omega) (by rw[List.length_append,List.length_singleton];omega) (by omega),List.append_assoc]
   rfl
theorem ofOk(n:Nat)(x:Int)(h:x.natAbs<1000000000000)(hn:5≤n):Dp_Of n x=some ⟨decide (x<0),dg x.natAbs⟩:=by
 have hl:=dg_len3 h
 have key:∀b,Dp_Of_0 n x (x.natAbs:Int) b []=some ⟨decide (x<0),dg x.natAbs⟩:=by
  intro b
  unfold Dp_Of_0
  rw[ofLoop n x b x.natAbs [] n (by omega) (by simp;omega) (by omega),List.nil_append]
  unfold Dp_Of_1
  rw[numOk n _ _ (Dg_dg _) (by omega) (vl_dg _) (by omega),oBs]
  by_cases hx:x<0
  ·simp[hx];omega
  ·simp[hx]
 unfold Dp_Of
 by_cases hx:x<0
 ·rw[dec_t hx,frk_t]
  have e:IntKind.u64.wrap ((IntKind.u64.wrap (w64 (0-(w64 (x+1)))))+1)=(x.natAbs:Int):=by
   rw[w64_id (x:=x+1) (by omega) (by omega),w64_id (by omega) (by omega),u64w (x:=0-(x+1)) (by omega) (by omega),u64w (by omega) (by omega)];omega
  rw[e,key];rw[dec_t hx]
 ·rw[dec_f hx,frk_f]
  have e:IntKind.u64.wrap x=(x.natAbs:Int):=by rw[u64w (by omega) (by omega)];omega
  rw[e,key];rw[dec_f hx]
theorem nokStep(n:Nat)(t3:Int)(g:Bool)(l:List Int)(rec0:Int→Option Bool)(a:Int) :
  Dp_NumOk_2 n t3 g l rec0 a=frk (decide (a<t3)) (frk (decide (a≤120)) ((lget l a).bind fun v0=>(Dp_l1In v0 0 9999).bind fun v1=>frk (!v1) (some false) (rec0 (w64 (a+1)))) (Dp_NumOk_1 n t3 g l)) (Dp_NumOk_1 n t3 g l):=rfl
theorem nokEnd(n:Nat)(g:Bool)(v:Nat)(hl:(dg v).length≤100)(hg:g=true→0<v):Dp_NumOk_1 n ((dg v).length:Int) g (dg v)=some true:=by
 unfold Dp_NumOk_1
 rw[dec_t (by omega),frk_t]
 by_cases h:v=0
 ·subst h
  rw[dg_zero]
  have:g=false:=by cases g with
   | false=>rfl
   | true=>have:=hg rfl;omega
  subst this;rfl
 ·have hp:=List.length_pos_iff.2 (dg_ne.2 (show 0<v by omega))
  obtain⟨k,hk⟩:∃k,(dg v).length=k+1:=⟨(dg v).length-1,by omega⟩
  have hla:=dg_last v
  rw[List.getLast?_eq_getElem?,hk] at hla
  obtain⟨d,hd⟩:∃d,(dg v)[k]?=some d:=⟨(dg v)[k],List.getElem?_eq_getElem (by omega)⟩
  rw[Nat.add_sub_cancel,hd] at hla
  have hd0:d≠0:=by simpa using hla
  rw[hk,show (((k+1:Nat):Int)==0)=false by simp;omega,frk_f,dec_t (by omega),frk_t,w64_prd (by omega),lget_nat,hd,oBs]
  simpa using hd0
theorem nokLoop(n:Nat)(g:Bool)(v:Nat)(hl:(dg v).length≤100)(hg:g=true→0<v):∀(k i m:Nat),i+k=(dg v).length→k<m →
  loopN (Dp_NumOk_2 n ((dg v).length:Int) g (dg v)) m (i:Int)=some true:=by
 intro k
 induction k with
 | zero =>
  intro i m h0 hm
  obtain⟨m,rfl⟩:∃j,m=j+1:=⟨m-1,by omega⟩
  rw[loop_suc,nokStep,dec_f (by omega),frk_f,nokEnd n g v hl hg]
 | succ k ih =>
  intro i m h0 hm
  obtain⟨m,rfl⟩:∃j,m=j+1:=⟨m-1,by omega⟩
  obtain⟨d,hd⟩:∃d,(dg v)[i]?=some d:=⟨(dg v)[i],List.getElem?_eq_getElem (by omega)⟩
  have:=(Dg_dg v).get hd
  rw[loop_suc,nokStep,dec_t (by omega),frk_t,dec_t (by omega),frk_t,lget_nat,hd,oBs,sIn,oBs,rIn_iff.2 this,Bool.not_true,frk_f,w64_suc (by unfold big;omega)]
  exact ih (i+1) m (by omega) (by omega)
theorem nokOk(n:Nat)(g:Bool)(v:Nat)(hv:v<1000000000000)(hg:g=true→0<v)(hn:5≤n):Dp_NumOk n ⟨g,dg v⟩=some true:=by
 have hl:=dg_len3 hv
 unfold Dp_NumOk
 exact nokLoop n g v (by omega) hg (dg v).length 0 n (by omega) (by omega)
theorem magOk(n:Nat)(g:Bool)(v:Nat)(hv:v<1000000000000)(hg:g=true→0<v)(hn:5≤n):Dp_l1Mag n ⟨g,dg v⟩=some (dg v):=by
 unfold Dp_l1Mag;rw[nokOk n g v hv hg hn];rfl
theorem signOk(n:Nat)(g:Bool)(v:Nat)(hv:v<1000000000000)(hg:g=true→0<v)(hn:5≤n):Dp_l1Sign n ⟨g,dg v⟩=some g:=by
 unfold Dp_l1Sign;rw[nokOk n g v hv hg hn];rfl
end Evl.T
namespace Evl.T
open Go Evl
theorem cmpStep(n:Nat)(a b:List Int)(rec0:Int→Option Int)(i:Int) :
  Dp_l1CmpMag_0 n a b rec0 i=frk (decide (i≥0)) ((lget a i).bind fun v0=>(lget b i).bind fun v1=>frk (v0 != v1) ((lget a i).bind fun v2=>(lget b i).bind fun v3=>frk (decide (v2<v3)) (some (-1)) (some 1)) (rec0 (w64 (i-1)))) (some 0):=rfl
theorem pow_step{x y P:Int}(hP:0≤P)(h:x<y):P*x+P≤P*y:=by
 have:P*(x+1)≤P*y:=Int.mul_le_mul_of_nonneg_left (by omega) hP
 rw[Int.mul_add,Int.mul_one] at this;exact this
theorem cmpLoop(n:Nat){a b:List Int}(ha:Dg a)(hb:Dg b)(hl:a.length=b.length)(hl2:a.length≤1000):∀(i m:Nat),i≤a.length→i<m →
  ∃r,loopN (Dp_l1CmpMag_0 n a b) m ((i:Int)-1)=some r∧(r≥0↔vl (b.take i)≤vl (a.take i)):=by
 intro i
 induction i with
 | zero =>
  intro m _ hm
  obtain⟨m,rfl⟩:∃j,m=j+1:=⟨m-1,by omega⟩
  refine⟨0,?_,by simp[vl]⟩
  rw[loop_suc,cmpStep,dec_f (by omega),frk_f]
 | succ i ih =>
  intro m hi hm
  obtain⟨m,rfl⟩:∃j,m=j+1:=⟨m-1,by omega⟩
  obtain⟨x,hx⟩:∃d,a[i]?=some d:=⟨a[i],List.getElem?_eq_getElem (by omega)⟩
  obtain⟨y,hy⟩:∃d,b[i]?=some d:=⟨b[i],List.getElem?_eq_getElem (by omega)⟩
  have e:((i+1:Nat):Int)-1=(i:Int):=by omega
  rw[loop_suc,cmpStep,e,dec_t (by omega),frk_t,lget_nat,lget_nat,hx,hy,oBs,oBs]
  simp only[oBs]
  have p1:=vl_lt (ha.take i)
  have p2:=vl_lt (hb.take i)
  rw[List.length_take,Nat.min_eq_left (by omega)] at p1 p2
  have q1:=vl_nn (ha.take i)
  have q2:=vl_nn (hb.take i)
  have hP:(0:Int)≤10000 ^ i:=Int.pow_nonneg (by omega)
  rw[vl_take_s hx,vl_take_s hy]
  by_cases h:x=y
  ·subst h
   rw[show (x != x)=false by simp,frk_f,w64_id (by omega) (by omega)]
   obtain⟨r,h1,h2⟩:=ih m (by omega) (by omega)
   exact⟨r,h1,h2.trans (by omega)⟩
  ·rw[show (x != y)=true by simpa using h,frk_t]
   by_cases h2:x<y
   ·refine⟨-1,by rw[dec_t h2,frk_t],?_⟩
    have:=pow_step hP h2
    omega
   ·refine⟨1,by rw[dec_f h2,frk_f],?_⟩
    have:=pow_step hP (show y<x by omega)
    omega
theorem cmpOk(n:Nat)(a b:Nat)(hl:(dg a).length≤100)(hl2:(dg b).length≤100)(hn:101≤n):∃r,Dp_l1CmpMag n (dg a) (dg b)=some r∧(r≥0↔b≤a):=by
 unfold Dp_l1CmpMag
 by_cases h:(dg a).length=(dg b).length
 ·rw[show (((dg a).length:Int) != ((dg b).length:Int))=false by rw[h];simp,frk_f,w64_id (by omega) (by omega)]
  obtain⟨r,h1,h2⟩:=cmpLoop n (Dg_dg a) (Dg_dg b) h (by omega) (dg a).length n (Nat.le_refl _) (by omega)
  refine⟨r,h1,h2.trans ?_⟩
  rw[List.take_length,h,List.take_length,vl_dg,vl_dg];omega
 ·rw[show (((dg a).length:Int) != ((dg b).length:Int))=true by simpa using by omega,frk_t]
  by_cases h2:(dg a).length<(dg b).length
  ·refine⟨-1,by rw[dec_t (by omega),frk_t],?_⟩
   constructor
   ·intro h;omega
   ·intro h;have:=dg_mono h;omega
  ·refine⟨1,by rw[dec_f (by omega),frk_f],?_⟩
   constructor
   ·intro _
    by_cases hh:b≤a
    ·exact hh
    ·have:=dg_mono (show a≤b by omega);omega
   ·intro _;omega
theorem guessStep1(n:Nat)(a b:List Int)(rec0:Int×Int→Option Int)(t5 t6:Int) :
  Dp_l1Guess_6 n a b rec0 (t5,t6)=frk (decide (t6≥0)) (frk (decide (t6≥(w64 ((b.length:Int)-3)))) ((lget a t6).bind fun v0=>rec0 (w64 ((w64 (t5*10000))+v0),w64 (t6-1))) (Dp_l1Guess_1 n b t5 0 (w64 ((b.length:Int)-1)))) (Dp_l1Guess_1 n b t5 0 (w64 ((b.length:Int)-1))):=rfl
theorem guessStep2(n:Nat)(b:List Int)(t5:Int)(rec1:Int×Int→Option Int)(t7 t8:Int) :
  Dp_l1Guess_5 n b t5 rec1 (t7,t8)=frk (decide (t8≥0)) (frk (decide (t8≥(w64 ((b.length:Int)-3)))) ((lget b t8).bind fun v1=>rec1 (w64 ((w64 (t7*10000))+v1),w64 (t8-1))) (Dp_l1Guess_3 n t5 t7 (decide ((b.length:Int)>3)))) (Dp_l1Guess_3 n t5 t7 (decide ((b.length:Int)>3))):=rfl
theorem vl_small{a:List Int}(ha:Dg a)(hl:a.length≤3):vl a<1000000000000:=by
 have h:=vl_lt ha
 have:a.length=0∨a.length=1∨a.length=2∨a.length=3:=by omega
 rcases this with e | e | e | e <;> rw[e] at h <;> omega
theorem guessL1(n:Nat){a b:List Int}(ha:Dg a)(hl:a.length≤3)(hlb:b.length≤3):∀(i m:Nat),i≤a.length→i<m →
  loopN (Dp_l1Guess_6 n a b) m (vl (a.drop i),(i:Int)-1)=Dp_l1Guess_1 n b (vl a) 0 (w64 ((b.length:Int)-1)):=by
 intro i
 induction i with
 | zero =>
  intro m _ hm
  obtain⟨m,rfl⟩:∃j,m=j+1:=⟨m-1,by omega⟩
  rw[loop_suc,guessStep1,dec_f (by omega),frk_f];rfl
 | succ i ih =>
  intro m hi hm
  obtain⟨m,rfl⟩:∃j,m=j+1:=⟨m-1,by omega⟩
  obtain⟨x,hx⟩:∃d,a[i]?=some d:=⟨a[i],List.getElem?_eq_getElem (by omega)⟩
  have e:((i+1:Nat):Int)-1=(i:Int):=by omega
  have b1:=vl_small ha hl
  have b2:=vl_drop_le ha i
  have b3:=vl_nn (ha.drop i)
  have b4:=vl_nn (ha.drop (i+1))
  have b5:=ha.get hx
  have e2:=vl_drop_s hx
  rw[loop_suc,guessStep1,e,dec_t (by omega),frk_t,dec_t (by rw[w64_id (by omega) (by omega)];omega),frk_t,lget_nat,hx,oBs]
  rw[w64_id (x:=vl (a.drop (i+1))*10000) (by omega) (by omega),show vl (a.drop (i+1))*10000+x=vl (a.drop i) by omega,w64_id (x:=vl (a.drop i)) (by omega) (by omega),w64_id (x:=(i:Int)-1) (by omega) (by omega)]
  exact ih m (by omega) (by omega)
theorem guessL2(n:Nat){b:List Int}(ha:Dg b)(hl:b.length≤3)(t5:Int):∀(i m:Nat),i≤b.length→i<m →
  loopN (Dp_l1Guess_5 n b t5) m (vl (b.drop i),(i:Int)-1)=Dp_l1Guess_3 n t5 (vl b) false:=by
 intro i
 induction i with
 | zero =>
  intro m _ hm
  obtain⟨m,rfl⟩:∃j,m=j+1:=⟨m-1,by omega⟩
  rw[loop_suc,guessStep2,dec_f (by omega),frk_f,dec_f (by omega)];rfl
 | succ i ih =>
  intro m hi hm
  obtain⟨m,rfl⟩:∃j,m=j+1:=⟨m-1,by omega⟩
  obtain⟨x,hx⟩:∃d,b[i]?=some d:=⟨b[i],List.getElem?_eq_getElem (by omega)⟩
  have e:((i+1:Nat):Int)-1=(i:Int):=by omega
  have b1:=vl_small ha hl
  have b2:=vl_drop_le ha i
  have b3:=vl_nn (ha.drop i)
  have b4:=vl_nn (ha.drop (i+1))
  have b5:=ha.get hx
  have e2:=vl_drop_s hx
  rw[loop_suc,guessStep2,e,dec_t (by omega),frk_t,dec_t (by rw[w64_id (by omega) (by omega)];omega),frk_t,lget_nat,hx,oBs]
  rw[w64_id (x:=vl (b.drop (i+1))*10000) (by omega) (by omega),show vl (b.drop (i+1))*10000+x=vl (b.drop i) by omega,w64_id (x:=vl (b.drop i)) (by omega) (by omega),w64_id (x:=(i:Int)-1) (by omega) (by omega)]
  exact ih m (by omega) (by omega)
theorem guessOk(n a b:Nat)(ha:a<1000000000000)(hb:0<b)(hab:b≤a)(hn:5≤n):Dp_l1Guess n (dg a) (dg b)=some ((a / b:Nat):Int):=by
 have l1:=dg_len3 ha
 have l2:=dg_len3 (show b<1000000000000 by omega)
 unfold Dp_l1Guess
 rw[w64_id (by omega) (by omega)]
 have e1:=guessL1 n (b:=dg b) (Dg_dg a) l1 l2 (dg a).length n (Nat.le_refl _) (by omega)
 rw[List.drop_length] at e1
 have e1':loopN (Dp_l1Guess_6 n (dg a) (dg b)) n ((0:Int),((dg a).length:Int)-1)=_:=e1
 rw[e1']
 unfold Dp_l1Guess_1
 rw[w64_id (by omega) (by omega)]
 have e2:=guessL2 n (Dg_dg b) l2 (vl (dg a)) (dg b).length n (Nat.le_refl _) (by omega)
 rw[List.drop_length] at e2
 have e2':loopN (Dp_l1Guess_5 n (dg b) (vl (dg a))) n ((0:Int),((dg b).length:Int)-1)=_:=e2
 rw[e2',vl_dg,vl_dg]
 unfold Dp_l1Guess_3 Dp_l1Guess_4
 rw[frk_f]
 have hq:0<a / b:=Nat.div_pos hab hb
 have hq2:a / b≤a:=Nat.div_le_self a b
 have e3:qt .i64 (a:Int) (b:Int)=some ((a / b:Nat):Int):=by
  unfold qt
  rw[if_neg (by omega),Int.tdiv_eq_ediv_of_nonneg (by omega)]
  have:IntKind.i64.wrap ((a:Int) / (b:Int))=((a / b:Nat):Int):=by
   have e:(a:Int) / (b:Int)=((a / b:Nat):Int):=by simp
   rw[e];exact w64_id (by omega) (by omega)
  rw[this]
 rw[e3]
 simp only[oBs]
 rw[dec_t (by omega),frk_t]
def subR:List Int→List Int→Int→List Int
 | [],_,_=>[]
 | x::xs,ys,c=>if x-c-ys.headD 0<0 then (x-c-ys.headD 0+10000)::subR xs ys.tail 1 else (x-c-ys.headD 0)::subR xs ys.tail 0
theorem hd_ok{ys:List Int}(h:Dg ys):0≤ys.headD 0∧ys.headD 0≤9999:=by
 cases ys with
 | nil=>simp
 | cons y ys=>exact h.head
theorem tl_ok{ys:List Int}(h:Dg ys):Dg ys.tail:=by
 cases ys with
 | nil=>exact Dg.nil
 | cons y ys=>exact h.tail
theorem vl_hd(ys:List Int):vl ys=ys.headD 0+10000*vl ys.tail:=by
 cases ys with
 | nil=>rfl
 | cons y ys=>rfl
theorem subR_Dg:∀(xs ys:List Int) (c:Int),Dg xs→Dg ys→0≤c→c≤1→Dg (subR xs ys c)
 | [],_,_,_,_,_,_=>Dg.nil
 | x::xs,ys,c,h1,h2,h3,h4=>by
  have:=h1.head;have:=hd_ok h2
  unfold subR
  split
  ·exact Dg.cons (by omega) (by omega) (subR_Dg xs ys.tail 1 h1.tail (tl_ok h2) (by omega) (by omega))
  ·exact Dg.cons (by omega) (by omega) (subR_Dg xs ys.tail 0 h1.tail (tl_ok h2) (by omega) (by omega))
theorem subR_vl:∀(xs ys:List Int) (c:Int),Dg xs→Dg ys→0≤c→c≤1→vl ys+c≤vl xs→vl (subR xs ys c)=vl xs-vl ys-c
 | [],ys,c,_,h2,h3,_,h5=>by
  have:=vl_nn h2
  have e:vl []=0:=rfl
  show vl []=_
  omega
 | x::xs,ys,c,h1,h2,h3,h4,h5=>by
  have:=h1.head;have:=hd_ok h2
  have e1:=vl_hd ys
  have e2:vl (x::xs)=x+10000*vl xs:=rfl
  unfold subR
  split
  ·have:=subR_vl xs ys.tail 1 h1.tail (tl_ok h2) (by omega) (by omega) (by omega)
   show x-c-ys.headD 0+10000+10000*vl (subR xs ys.tail 1)=_
   omega
  ·have:=subR_vl xs ys.tail 0 h1.tail (tl_ok h2) (by omega) (by omega) (by omega)
   show x-c-ys.headD 0+10000*vl (subR xs ys.tail 0)=_
   omega
theorem subR_len:∀(xs ys:List Int) (c:Int),(subR xs ys c).length=xs.length
 | [],_,_=>rfl
 | x::xs,ys,c=>by
  unfold subR
  split
  ·rw[List.length_cons,List.length_cons,subR_len]
  ·rw[List.length_cons,List.length_cons,subR_len]
theorem subStep(n:Nat)(a b:List Int)(rec0:Int×Int×List Int→Option (List Int))(t6 t7:Int)(l:List Int) :
  Dp_l1SubMag_2 n a b rec0 (t6,t7,l)=frk (decide (t7<(a.length:Int))) ((lget a t7).bind fun v0=>frk (decide (t7<(b.length:Int))) ((lget b t7).bind fun v1=>Dp_l1SubMag_0 n rec0 a b 0 t7 (w64 ((w64 (v0-t6))-v1)) (decide ((w64 ((w64 (v0-t6))-v1))<0)) l) (Dp_l1SubMag_0 n rec0 a b 0 t7 (w64 (v0-t6)) (decide ((w64 (v0-t6))<0)) l)) (some l):=rfl
theorem subMid(n:Nat)(a b:List Int)(rec0:Int×Int×List Int→Option (List Int))(t:Int)(i:Nat)(l:List Int)(ht:-20000≤t)(ht2:t≤20000)(hl:l.length≤1000)(hi:i≤1000) :
  Dp_l1SubMag_0 n rec0 a b 0 (i:Int) t (decide (t<0)) l=if t<0 then rec0 (1,((i+1:Nat):Int),l++[t+10000]) else rec0 (0,((i+1:Nat):Int),l++[t]):=by
 unfold Dp_l1SubMag_0 Dp_l1SubMag_1
 rw[chk_eq (apB8 (by omega)),chk_eq (apB8 (by omega)),w64_suc (by unfold big;omega),w64_id (x:=t+10000) (by omega) (by omega),frk_if]
 by_cases h:t<0
 ·rw[if_pos h,dec_t h,if_pos rfl]
 ·rw[if_neg h,dec_f h,if_neg (by decide)]
theorem subLoop(n:Nat){a b:List Int}(ha:Dg a)(hb:Dg b)(hl:a.length≤100):∀(k i m:Nat) (c:Int) (l:List Int),i+k=a.length→k<m→0≤c→c≤1→l.length=i →
  loopN (Dp_l1SubMag_2 n a b) m (c,(i:Int),l)=some (l++subR (a.drop i) (b.drop i) c):=by
 intro k
 induction k with
 | zero =>
  intro i m c l h0 hm _ _ _
  obtain⟨m,rfl⟩:∃j,m=j+1:=⟨m-1,by omega⟩
  rw[loop_suc,subStep,dec_f (by omega),frk_f,show a.drop i=[] from List.drop_eq_nil_of_le (by omega)]
  show some l=some (l++[])
  rw[List.append_nil]
 | succ k ih =>
  intro i m c l h0 hm hc hc2 hll
  obtain⟨m,rfl⟩:∃j,m=j+1:=⟨m-1,by omega⟩
  obtain⟨x,hx⟩:∃d,a[i]?=some d:=⟨a[i],List.getElem?_eq_getElem (by omega)⟩
  obtain⟨hi,he⟩:=List.getElem?_eq_some_iff.1 hx
  have hxd:=ha.get hx
  have fin:∀y:Int,y=(b.drop i).headD 0→Dp_l1SubMag_0 n (loopN (Dp_l1SubMag_2 n a b) m) a b 0 (i:Int) (x-c-y) (decide (x-c-y<0)) l=some (l++subR (a.drop i) (b.drop i) c):=by
   intro y hy
   have hyd:=hd_ok (hb.drop i)
   rw[←hy] at hyd
   rw[subMid n a b _ (x-c-y) i l (by omega) (by omega) (by omega) (by omega),List.drop_eq_getElem_cons hi,he]
   unfold subR
   rw[←hy,List.tail_drop]
   by_cases h:x-c-y<0
   ·rw[if_pos h,if_pos h,ih (i+1) m 1 _ (by omega) (by omega) (by omega) (by omega) (by simp[hll]),List.append_assoc];rfl
   ·rw[if_neg h,if_neg h,ih (i+1) m 0 _ (by omega) (by omega) (by omega) (by omega) (by simp[hll]),List.append_assoc];rfl
  rw[loop_suc,subStep,dec_t (by omega),frk_t,lget_nat,hx,oBs]
  by_cases hb2:i<b.length
  ·obtain⟨y,hy⟩:∃d,b[i]?=some d:=⟨b[i],List.getElem?_eq_getElem hb2⟩
   have hyd:=hb.get hy
   rw[dec_t (by omega),frk_t,lget_nat,hy,oBs,w64_id (x:=x-c) (by omega) (by omega),w64_id (by omega) (by omega)]
   refine fin y ?_
   rw[List.drop_eq_getElem_cons hb2]
   have:=(List.getElem?_eq_some_iff.1 hy).2
   rw[this];rfl
  ·rw[dec_f (by omega),frk_f,w64_id (x:=x-c) (by omega) (by omega)]
   have:=fin 0 (by rw[show b.drop i=[] from List.drop_eq_nil_of_le (by omega)];rfl)
   rw[show x-c-0=x-c by omega] at this
   exact this
theorem subOk(n:Nat){a b:List Int}(ha:Dg a)(hb:Dg b)(hl:a.length≤100)(hv:vl b≤vl a)(hn:101≤n):∃r,Dp_l1SubMag n a b=some r∧Dg r∧vl r=vl a-vl b∧r.length=a.length:=by
 refine⟨subR a b 0,?_,subR_Dg a b 0 ha hb (by omega) (by omega),?_,subR_len a b 0⟩
 ·unfold Dp_l1SubMag
  exact subLoop n ha hb hl a.length 0 n 0 [] (by omega) (by omega) (by omega) (by omega) rfl
 ·have:=subR_vl a b 0 ha hb (by omega) (by omega) (by omega);omega
theorem mulStep1(n:Nat)(rec0:(Int×List Int)→Option (List Int))(t0 t1:List Int)(t6:Int)(rec1:(Int×Int×List Int)→Option (List Int))(t7 t8:Int)(l15:List Int) :
  Dp_l1MulMag_1 n rec0 t0 t1 t6 rec1 (t7,t8,l15)=frk (decide (t8<(t1.length:Int))) ((lget t0 t6).bind fun v1=>(lget t1 t8).bind fun v2=>(lget l15 (w64 (t6+t8))).bind fun v3=>(lget l15 (w64 (t6+t8))).bind fun _v4=>rec1 (w64 (Int.tdiv (w64 ((w64 ((w64 (v1*v2))+v3))+t7)) 10000),w64 (t8+1),(l15.set (Int.toNat (w64 (t6+t8))) (Int.tmod (w64 ((w64 ((w64 (v1*v2))+v3))+t7)) 10000)))) (Dp_l1MulMag_0 n rec0 t0 t1 t6 t7 l15):=rfl
theorem mulStep2(n:Nat)(t0 t1:List Int)(rec0:(Int×List Int)→Option (List Int))(t6:Int)(l15:List Int) :
  Dp_l1MulMag_2 n t0 t1 rec0 (t6,l15)=frk (decide (t6<(t0.length:Int))) (loopN (Dp_l1MulMag_1 n rec0 t0 t1 t6) n (0,0,l15)) (some l15):=rfl
theorem get_pre{α:Type}(p:List α)(k:Nat)(z:List α):(p++z)[p.length+k]?=z[k]?:=by
 rw[List.getElem?_append_right (by omega)];congr 1;omega
theorem set_pre{α:Type}(p:List α)(k:Nat)(z:List α)(x:α):(p++z).set (p.length+k) x=p++z.set k x:=by
 rw[List.set_append_right _ _ (by omega)];congr 2;omega
theorem mul_nn{x y:Int}(hx:0≤x∧x≤9999)(hy:0≤y∧y≤9999):0≤x*y∧x*y≤99980001:=by
 refine⟨Int.mul_nonneg hx.1 hy.1,?_⟩
 have h1:x*y≤9999*y:=Int.mul_le_mul_of_nonneg_right hx.2 hy.1
 omega
theorem mulCell(n:Nat)(rec0:(Int×List Int)→Option (List Int))(xs ys:List Int)(rec1:(Int×Int×List Int)→Option (List Int))(c:Int)(j:Nat)(p zs:List Int){x y z:Int}
  (hx:xs[p.length]?=some x) (hy:ys[j]?=some y) (hz:zs[j]?=some z) (hp:p.length≤1000) (hj:j≤1000)
  (bx:0≤x∧x≤9999) (by':0≤y∧y≤9999) (bz:0≤z∧z≤9999) (bc:0≤c∧c≤9999) :
  Dp_l1MulMag_1 n rec0 xs ys (p.length:Int) rec1 (c,(j:Int),p++zs)=rec1 ((x*y+z+c) / 10000,((j+1:Nat):Int),p++zs.set j ((x*y+z+c) % 10000)):=by
 have hjl:j<ys.length:=(List.getElem?_eq_some_iff.1 hy).1
 have hb:=mul_nn bx by'
 have e:w64 ((p.length:Int)+(j:Int))=((p.length+j:Nat):Int):=by rw[w64_id (by omega) (by omega)];omega
 rw[mulStep1,dec_t (by omega),frk_t,lget_nat,hx,oBs,lget_nat,hy,oBs,e,lget_nat,get_pre,hz,oBs,oBs,Int.toNat_natCast,set_pre]
 rw[w64_id (x:=x*y) (by omega) (by omega),w64_id (x:=x*y+z) (by omega) (by omega),w64_id (x:=x*y+z+c) (by omega) (by omega),Int.tdiv_eq_ediv_of_nonneg (by omega),Int.tmod_eq_emod_of_nonneg (by omega),w64_id (by omega) (by omega),w64_suc (by unfold big;omega)]
theorem mulRow(n:Nat)(rec0:(Int×List Int)→Option (List Int))(xs:List Int)(y0 y1:Int)(m:Nat)(p zs:List Int){x z0 z1 z2:Int}
  (hx:xs[p.length]?=some x) (hp:p.length≤1000) (hm:3≤m)
  (bx:0≤x∧x≤9999) (by0:0≤y0∧y0≤9999) (by1:0≤y1∧y1≤9999) (bz0:0≤z0∧z0≤9999) (bz1:0≤z1∧z1≤9999) :
  ∃d0 d1 c,loopN (Dp_l1MulMag_1 n rec0 xs [y0,y1] (p.length:Int)) m (0,0,p++z0::z1::z2::zs)=rec0 (((p.length+1:Nat):Int),p++d0::d1::c::zs) ∧
   (0≤d0∧d0≤9999)∧(0≤d1∧d1≤9999)∧(0≤c∧c≤9999)∧d0+10000*d1+100000000*c=x*y0+10000*(x*y1)+z0+10000*z1:=by
 obtain⟨m,rfl⟩:∃j,m=j+3:=⟨m-3,by omega⟩
 have h0:=mul_nn bx by0
 have h1:=mul_nn bx by1
 have s1:=mulCell n rec0 xs [y0,y1] (loopN (Dp_l1MulMag_1 n rec0 xs [y0,y1] (p.length:Int)) (m+2)) 0 0 p (z0::z1::z2::zs) hx (y:=y0) rfl rfl hp (by omega) bx by0 bz0 (by omega)
 have s2:=mulCell n rec0 xs [y0,y1] (loopN (Dp_l1MulMag_1 n rec0 xs [y0,y1] (p.length:Int)) (m+1)) ((x*y0+z0+0) / 10000) 1 p ((x*y0+z0+0) % 10000::z1::z2::zs) hx (y:=y1) rfl rfl hp (by omega) bx by1 bz1 (by omega)
 refine⟨(x*y0+z0+0) % 10000,(x*y1+z1+(x*y0+z0+0) / 10000) % 10000,(x*y1+z1+(x*y0+z0+0) / 10000) / 10000,?_,by omega,by omega,by omega,by omega⟩
 rw[loop_suc]
 refine s1.trans ?_
 rw[loop_suc]
 refine s2.trans ?_
 rw[loop_suc,mulStep1,dec_f (by show ¬(((1+1:Nat):Int)<((2:Nat):Int));omega),frk_f]
 unfold Dp_l1MulMag_0
 have e:w64 ((p.length:Int)+(([y0,y1]:List Int).length:Int))=((p.length+2:Nat):Int):=by
  show w64 ((p.length:Int)+((2:Nat):Int))=_
  rw[w64_id (by omega) (by omega)];omega
 rw[e,lget_nat,get_pre,Int.toNat_natCast,set_pre,w64_suc (by unfold big;omega)]
 rfl
theorem mulLoop(n:Nat)(y0 y1:Int)(by0:0≤y0∧y0≤9999)(by1:0≤y1∧y1≤9999)(hn:3≤n){xs:List Int}(hD:Dg xs)(hl:xs.length≤100) :
  ∀(k m:Nat) (p:List Int) (z0 z1:Int),p.length+k=xs.length→k<m→0≤z0∧z0≤9999→0≤z1∧z1≤9999 →
  ∃r,loopN (Dp_l1MulMag_2 n xs [y0,y1]) m ((p.length:Int),p++z0::z1::List.replicate k 0)=some (p++r)∧Dg r∧vl r=z0+10000*z1+vl (xs.drop p.length)*(y0+10000*y1)∧r.length=k+2:=by
 intro k
 induction k with
 | zero =>
  intro m p z0 z1 h0 hm b0 b1
  obtain⟨m,rfl⟩:∃j,m=j+1:=⟨m-1,by omega⟩
  refine⟨[z0,z1],?_,Dg.cons b0.1 b0.2 (Dg.cons b1.1 b1.2 Dg.nil),?_,rfl⟩
  ·rw[loop_suc,mulStep2,dec_f (by omega),frk_f];rfl
  ·rw[List.drop_eq_nil_of_le (by omega)];simp[vl]
 | succ k ih =>
  intro m p z0 z1 h0 hm b0 b1
  obtain⟨m,rfl⟩:∃j,m=j+1:=⟨m-1,by omega⟩
  obtain⟨x,hx⟩:∃d,xs[p.length]?=some d:=⟨xs[p.length],List.getElem?_eq_getElem (by omega)⟩
  have bx:=hD.get hx
  obtain⟨d0,d1,c,e1,q0,q1,q2,q3⟩:=mulRow n (loopN (Dp_l1MulMag_2 n xs [y0,y1]) m) xs y0 y1 n p (List.replicate k 0) (z2:=0) hx (by omega) hn bx by0 by1 b0 b1
  obtain⟨r,r1,r2,r3,r4⟩:=ih m (p++[d0]) d1 c (by simp;omega) (by omega) q1 q2
  refine⟨d0::r,?_,Dg.cons q0.1 q0.2 r2,?_,by rw[List.length_cons,r4]⟩
  ·rw[loop_suc,mulStep2,dec_t (by omega),frk_t,List.replicate_succ,e1]
   have e2:(p++[d0]).length=p.length+1:=by simp
   rw[e2,List.append_assoc,List.append_assoc] at r1
   exact r1
  ·have e2:(p++[d0]).length=p.length+1:=by simp
   rw[e2] at r3
   rw[vl_drop_s hx]
   show d0+10000*vl r=_
   rw[r3]
   generalize vl (xs.drop (p.length+1))=V
   have e3:(x+10000*V)*(y0+10000*y1)=(x*y0+10000*(x*y1))+10000*(V*(y0+10000*y1)):=by
    rw[Int.add_mul,Int.mul_add,Int.mul_assoc 10000]
    congr 2
    rw[←Int.mul_assoc,Int.mul_comm x 10000,Int.mul_assoc]
   rw[e3]
   generalize V*(y0+10000*y1)=W
   omega
theorem mkB8{k:Int}(h:0≤k)(h2:k≤1000000):mkB k 8=true:=by
 simp only[mkB,bAt,decide_eq_true_eq];omega
theorem mulOk(n:Nat)(y0 y1:Int)(by0:0≤y0∧y0≤9999)(by1:0≤y1∧y1≤9999){xs:List Int}(hD:Dg xs)(hl:xs.length≤100)(hn:101≤n) :
  ∃r,Dp_l1MulMag n xs [y0,y1]=some r∧Dg r∧vl r=vl xs*(y0+10000*y1)∧r.length=xs.length+2:=by
 have e:w64 ((xs.length:Int)+(([y0,y1]:List Int).length:Int))=((xs.length+2:Nat):Int):=by
  show w64 ((xs.length:Int)+((2:Nat):Int))=_
  rw[w64_id (by omega) (by omega)];omega
 obtain⟨r,r1,r2,r3,r4⟩:=mulLoop n y0 y1 by0 by1 (by omega) hD hl xs.length n [] 0 0 (by simp) (by omega) (by omega) (by omega)
 refine⟨r,?_,r2,by rw[r3];show 0+10000*0+vl (xs.drop 0)*_=_;rw[List.drop_zero];omega,r4⟩
 unfold Dp_l1MulMag
 rw[e,chk_eq (mkB8 (by omega) (by omega)),Int.toNat_natCast]
 exact r1
end Evl.T
namespace Evl.T
open Go Evl
theorem divStep0(n:Nat)(rec0:(Int×List Int×List Int)→Option ((List Int)×(List Int)))(t0 t1:List Int)(t8:Int)(rec1:(List Int×List Int)→Option ((List Int)×(List Int)))(l12 l29:List Int) :
  Dp_l1DivMag_0 n rec0 t0 t1 t8 rec1 (l12,l29)=(Dp_l1CmpMag n l29 t1).bind fun v4=>frk (decide (v4≥0)) ((Dp_l1Guess n l29 t1).bind fun v5=>(lget l12 t8).bind fun v6=>(lget l12 t8).bind fun _v7=>(Dp_l1MulMag n t1 [Int.tmod v5 10000,w64 (Int.tdiv v5 10000)]).bind fun v8=>(Dp_l1Num n false v8).bind fun v9=>(Dp_l1SubMag n l29 v9.D).bind fun v10=>(Dp_l1Num n false v10).bind fun v11=>rec1 ((l12.set (Int.toNat t8) (w64 (v6+v5))),v11.D)) (rec0 (w64 (t8-1),l12,l29)):=rfl
theorem divStep1(n:Nat)(t0 t1:List Int)(rec0:(Int×List Int×List Int)→Option ((List Int)×(List Int)))(t8:Int)(l12 l13:List Int) :
  Dp_l1DivMag_1 n t0 t1 rec0 (t8,l12,l13)=frk (decide (t8≥0)) ((lget t0 t8).bind fun v1=>chk (apB 8 (1+l13.length)) ((Dp_l1Num n false ([v1]++l13)).bind fun v3=>loopN (Dp_l1DivMag_0 n rec0 t0 t1 t8) n (l12,v3.D))) (some (l12,l13)):=rfl
theorem divOut(n:Nat)(rec0:(Int×List Int×List Int)→Option ((List Int)×(List Int)))(t0:List Int)(i:Nat)(q:List Int)(x b m:Nat)(hx:x<b)(hb:b<1000000000000)(hn:101≤n)(hi:i≤1000)(hm:1≤m) :
  loopN (Dp_l1DivMag_0 n rec0 t0 (dg b) (i:Int)) m (q,dg x)=rec0 ((i:Int)-1,q,dg x):=by
 obtain⟨m,rfl⟩:∃j,m=j+1:=⟨m-1,by omega⟩
 obtain⟨r,h1,h2⟩:=cmpOk n x b (by have:=dg_len3 (show x<1000000000000 by omega);omega) (by have:=dg_len3 hb;omega) hn
 rw[loop_suc,divStep0,h1,oBs,dec_f (by omega),frk_f,w64_id (by omega) (by omega)]
theorem set_same{l:List Int}{i:Nat}(h:l[i]?=some 0):l.set i 0=l:=by
 apply List.ext_getElem?
 intro j
 rw[List.getElem?_set]
 split
 ·rename_i hj
  subst hj
  have:=(List.getElem?_eq_some_iff.1 h).1
  rw[if_pos this,h]
 ·rfl
theorem divIn(n:Nat)(rec0:(Int×List Int×List Int)→Option ((List Int)×(List Int)))(t0:List Int)(i:Nat)(q:List Int)(x b:Nat)(hx:x<1000000000000)(hb0:0<b)(hb:b<1000000000000)(hq:x / b≤9999)(hi:i≤1000)(hz:q[i]?=some 0)(hn:101≤n) :
  loopN (Dp_l1DivMag_0 n rec0 t0 (dg b) (i:Int)) n (q,dg x)=rec0 ((i:Int)-1,q.set i ((x / b:Nat):Int),dg (x % b)):=by
 by_cases h:x<b
 ·rw[divOut n rec0 t0 i q x b n h hb hn hi (by omega),Nat.div_eq_of_lt h,Nat.mod_eq_of_lt h]
  rw[show ((0:Nat):Int)=0 from rfl,set_same hz]
 ·obtain⟨m,hm⟩:∃j,n=j+1:=⟨n-1,by omega⟩
  have l1:=dg_len3 hx
  have l2:=dg_len3 hb
  obtain⟨r,h1,h2⟩:=cmpOk n x b (by omega) (by omega) hn
  have hg:=guessOk n x b hx hb0 (by omega) (by omega)
  have hy0:(0:Int)≤((x / b:Nat):Int):=Int.natCast_nonneg _
  have hy:(0:Int)≤((x / b:Nat):Int)∧((x / b:Nat):Int)≤9999:=by omega
  obtain⟨P,p1,p2,p3,p4⟩:=mulOk n ((x / b:Nat):Int) 0 hy (by omega) (Dg_dg b) (by omega) hn
  have hmul:b*(x / b)≤x:=Nat.mul_div_le x b
  have hmod:x % b=x-b*(x / b):=by have:=Nat.div_add_mod x b;omega
  have p3':vl P=((b*(x / b):Nat):Int):=by
   rw[p3,vl_dg,show ((x / b:Nat):Int)+10000*0=((x / b:Nat):Int) by omega];exact(Int.natCast_mul _ _).symm
  have hP:=numOk n false P p2 (by omega) p3' (by omega)
  obtain⟨R,r1,r2,r3,r4⟩:=subOk n (Dg_dg x) (Dg_dg (b*(x / b))) (by omega) (by rw[vl_dg,vl_dg];omega) hn
  have r3':vl R=((x % b:Nat):Int):=by rw[r3,vl_dg,vl_dg];omega
  have hR:=numOk n false R r2 (by omega) r3' (by omega)
  have hgen:loopN (Dp_l1DivMag_0 n rec0 t0 (dg b) (i:Int)) (m+1) (q,dg x)=rec0 ((i:Int)-1,q.set i ((x / b:Nat):Int),dg (x % b)):=by
   rw[loop_suc,divStep0,h1,oBs,dec_t (by omega),frk_t,hg,oBs,lget_nat,hz,oBs,oBs]
   have e1:Int.tmod ((x / b:Nat):Int) 10000=((x / b:Nat):Int):=by rw[Int.tmod_eq_emod_of_nonneg (by omega)];omega
   have e2:w64 (Int.tdiv ((x / b:Nat):Int) 10000)=0:=by rw[Int.tdiv_eq_ediv_of_nonneg (by omega),w64_id (by omega) (by omega)];omega
   rw[e1,e2,p1,oBs,hP,oBs]
   show ((Dp_l1SubMag n (dg x) (dg (b*(x / b)))).bind _)=_
   rw[r1,oBs,hR,oBs]
   rw[w64_id (x:=0+((x / b:Nat):Int)) (by omega) (by omega),show (0:Int)+((x / b:Nat):Int)=((x / b:Nat):Int) by omega,Int.toNat_natCast]
   exact divOut n rec0 t0 i _ (x % b) b m (Nat.mod_lt _ hb0) hb hn hi (by omega)
  rw[←hm] at hgen
  exact hgen
theorem divLoop(n A b:Nat)(hA:A<1000000000000)(hb0:0<b)(hb:b<1000000000000)(hn:101≤n):∀(i m:Nat) (qh:List Int) (H:Nat),i≤(dg A).length→i<m→vl ((dg A).drop i)=H→Dg qh→vl qh=((H / b:Nat):Int) →
  ∃q,loopN (Dp_l1DivMag_1 n (dg A) (dg b)) m ((i:Int)-1,List.replicate i 0++qh,dg (H % b))=some (q,dg (A % b))∧Dg q∧vl q=((A / b:Nat):Int)∧q.length=i+qh.length:=by
 have l1:=dg_len3 hA
 intro i
 induction i with
 | zero =>
  intro m qh H _ hm hH hD hv
  obtain⟨m,rfl⟩:∃j,m=j+1:=⟨m-1,by omega⟩
  rw[List.drop_zero,vl_dg] at hH
  have:A=H:=by omega
  subst this
  exact⟨qh,by rw[loop_suc,divStep1,dec_f (by omega),frk_f];rfl,hD,hv,by omega⟩
 | succ i ih =>
  intro m qh H hi hm hH hD hv
  obtain⟨m,rfl⟩:∃j,m=j+1:=⟨m-1,by omega⟩
  obtain⟨d,hd⟩:∃d,(dg A)[i]?=some d:=⟨(dg A)[i],List.getElem?_eq_getElem (by omega)⟩
  have hdb:=(Dg_dg A).get hd
  obtain⟨e,rfl⟩:∃e:Nat,d=e:=⟨d.toNat,by omega⟩
  have hlt:=Nat.mod_lt H hb0
  have hdm:=Nat.div_add_mod H b
  have hH':vl ((dg A).drop i)=((e+10000*H:Nat):Int):=by rw[vl_drop_s hd,hH];omega
  have hle:=vl_drop_le (Dg_dg A) i
  rw[hH',vl_dg] at hle
  have hmodle:H % b≤H:=Nat.mod_le H b
  have lr:=dg_len3 (show H % b<1000000000000 by omega)
  have hx:e+10000*(H % b)<1000000000000:=by omega
  have hsplit:e+10000*H=(e+10000*(H % b))+b*(10000*(H / b)):=by
   have:b*(10000*(H / b))=10000*(b*(H / b)):=by rw[←Nat.mul_assoc,Nat.mul_comm b 10000,Nat.mul_assoc]
   omega
  have hdiv:(e+10000*H) / b=(e+10000*(H % b)) / b+10000*(H / b):=by rw[hsplit,Nat.add_mul_div_left _ _ hb0]
  have hmod:(e+10000*H) % b=(e+10000*(H % b)) % b:=by rw[hsplit,Nat.add_mul_mod_self_left]
  have hq:(e+10000*(H % b)) / b≤9999:=by
   have:(e+10000*(H % b)) / b<10000:=by rw[Nat.div_lt_iff_lt_mul hb0];omega
   omega
  have hnum:=numOk n false ([(e:Int)]++dg (H % b)) (Dg.cons hdb.1 hdb.2 (Dg_dg _)) (by simp;omega) (v:=e+10000*(H % b)) (by show (e:Int)+10000*vl (dg (H % b))=_;rw[vl_dg];omega) (by simp;omega)
  have hz:(List.replicate (i+1) (0:Int)++qh)[i]?=some 0:=by
   rw[List.getElem?_append_left (by simp)];simp
  have hin:=divIn n (loopN (Dp_l1DivMag_1 n (dg A) (dg b)) m) (dg A) i (List.replicate (i+1) 0++qh) (e+10000*(H % b)) b hx hb0 hb hq (by omega) hz hn
  have hset:(List.replicate (i+1) (0:Int)++qh).set i (((e+10000*(H % b)) / b:Nat):Int)=List.replicate i 0++((((e+10000*(H % b)) / b:Nat):Int)::qh):=by
   have e1:List.replicate (i+1) (0:Int)++qh=List.replicate i 0++(0::qh):=by
    rw[List.replicate_succ'];simp
   have e2:=set_pre (List.replicate i (0:Int)) 0 (0::qh) (((e+10000*(H % b)) / b:Nat):Int)
   rw[List.length_replicate] at e2
   rw[e1];exact e2
  have hy0:(0:Int)≤(((e+10000*(H % b)) / b:Nat):Int):=Int.natCast_nonneg _
  obtain⟨q,q1,q2,q3,q4⟩:=ih m ((((e+10000*(H % b)) / b:Nat):Int)::qh) (e+10000*H) (by omega) (by omega) hH' (Dg.cons hy0 (by omega) hD) (by
   show (((e+10000*(H % b)) / b:Nat):Int)+10000*vl qh=_
   rw[hv,hdiv];omega)
  refine⟨q,?_,q2,q3,by rw[q4,List.length_cons];omega⟩
  have ei:((i+1:Nat):Int)-1=(i:Int):=by omega
  rw[loop_suc,divStep1,ei,dec_t (by omega),frk_t,lget_nat,hd,oBs,chk_eq (apB8 (by omega)),hnum,oBs]
  refine hin.trans ?_
  rw[hset,←hmod]
  exact q1
theorem divOk(n A b:Nat)(hA:A<1000000000000)(hb0:0<b)(hb:b<1000000000000)(hn:101≤n) :
  ∃q,Dp_l1DivMag n (dg A) (dg b)=some (q,dg (A % b))∧Dg q∧vl q=((A / b:Nat):Int)∧q.length≤3:=by
 have l1:=dg_len3 hA
 obtain⟨q,q1,q2,q3,q4⟩:=divLoop n A b hA hb0 hb hn (dg A).length n [] 0 (Nat.le_refl _) (by omega) (by rw[List.drop_length];rfl) Dg.nil (by simp[vl])
 refine⟨q,?_,q2,q3,by rw[q4];simpa using l1⟩
 unfold Dp_l1DivMag
 rw[chk_eq (mkB8 (by omega) (by omega)),w64_id (by omega) (by omega),Int.toNat_natCast]
 rw[Nat.zero_mod,dg_zero,List.append_nil] at q1
 exact q1
theorem gcdStep(n:Nat)(rec0:(List Int×List Int)→Option (List Int))(t0 t1:List Int) :
  Dp_l1Gcd_0 n rec0 (t0,t1)=frk (decide ((t1.length:Int)>0)) ((Dp_l1DivMag n t0 t1).bind fun v0=>rec0 (t1,v0.2)) (some t0):=rfl
theorem gcdLoop(n:Nat)(hn:101≤n):∀(b a m:Nat),b<m→a<1000000000000→b<1000000000000→loopN (Dp_l1Gcd_0 n) m (dg a,dg b)=some (dg (Nat.gcd a b)):=by
 intro b
 induction b using Nat.strongRecOn with
 | ind b ih =>
  intro a m hm ha hb
  obtain⟨m,rfl⟩:∃j,m=j+1:=⟨m-1,by omega⟩
  rw[loop_suc,gcdStep]
  by_cases h:b=0
  ·subst h;rw[dg_zero,dec_f (by simp),frk_f,Nat.gcd_zero_right]
  ·have hp:=List.length_pos_iff.2 (dg_ne.2 (show 0<b by omega))
   obtain⟨q,q1,-,-,-⟩:=divOk n a b ha (by omega) hb hn
   have hlt:=Nat.mod_lt a (show b>0 by omega)
   rw[dec_t (by omega),frk_t,q1,oBs]
   refine(ih (a % b) hlt b m (by omega) hb (by omega)).trans ?_
   rw[Nat.gcd_comm b,Nat.gcd_comm a,Nat.gcd_rec b a]
theorem gcd_lt{a b:Nat}(ha:a<1000000000000)(hb:b<1000000000000):Nat.gcd a b<1000000000000:=by
 by_cases h:b=0
 ·subst h;rw[Nat.gcd_zero_right];exact ha
 ·exact Nat.lt_of_le_of_lt (Nat.gcd_le_right a (by omega)) hb
theorem gcdOk(n:Nat)(g1 g2:Bool)(a b:Nat)(ha:a<1000000000000)(hb:b<1000000000000)(h1:g1=true→0<a)(h2:g2=true→0<b)(hbn:b<n)(hn:101≤n) :
  Dp_Gcd n ⟨g1,dg a⟩ ⟨g2,dg b⟩=some ⟨false,dg (Nat.gcd a b)⟩:=by
 unfold Dp_Gcd
 rw[magOk n g1 a ha h1 (by omega),oBs,magOk n g2 b hb h2 (by omega),oBs]
 unfold Dp_l1Gcd
 rw[gcdLoop n hn b a n hbn ha hb,oBs,numOk n false _ (Dg_dg _) (by have:=dg_len3 (gcd_lt ha hb);omega) (vl_dg _) (by have:=dg_len3 (gcd_lt ha hb);omega)]
 rfl
def nm (x:Int):Num:=⟨decide (x<0),dg x.natAbs⟩
theorem ngStep(n:Nat)(t0:List Num)(b:Bool)(rec0:(Int×Bool×List Int)→Option Num)(t4:Int)(b3_0:Bool)(b3_1:List Int) :
  Dp_l3NumGcd_0 n t0 b rec0 (t4,b3_0,b3_1)=frk (decide (t4<(t0.length:Int))) ((lget t0 t4).bind fun v1=>(Dp_Gcd n (Num.mk b3_0 b3_1) v1).bind fun v2=>rec0 (w64 (t4+1),v2.Neg,v2.D)) (some (Num.mk b3_0 b3_1)):=rfl
theorem ngOne(n:Nat)(l:List Num)(b:Bool)(rec0:(Int×Bool×List Int)→Option Num)(i:Nat)(g:Nat){x:Int}(hx:l[i]?=some (nm x))(hg:g<1000000000000)(hb:x.natAbs<1000000000000)(hbn:x.natAbs<n)(hn:101≤n)(hi:i≤100) :
  Dp_l3NumGcd_0 n l b rec0 ((i:Int),false,dg g)=rec0 (((i+1:Nat):Int),false,dg (Nat.gcd g x.natAbs)):=by
 have hil:=(List.getElem?_eq_some_iff.1 hx).1
 have hk:Dp_Gcd n ⟨false,dg g⟩ (nm x)=_:=gcdOk n false (decide (x<0)) g x.natAbs hg hb (by simp) (by intro h;have:=of_decide_eq_true h;omega) hbn hn
 rw[ngStep,dec_t (by omega),frk_t,lget_nat,hx,oBs,hk,oBs,w64_suc (by unfold big;omega)]
def g4 (a b c d:Int):Nat:=Nat.gcd (Nat.gcd (Nat.gcd a.natAbs b.natAbs) c.natAbs) d.natAbs
theorem ngOk(n:Nat)(a b c d:Int)(ha:a.natAbs<1000000000000)(hb:b.natAbs<1000000000000)(hc:c.natAbs<1000000000000)(hd:d.natAbs<1000000000000)
  (na:a.natAbs<n) (nb:b.natAbs<n) (nc:c.natAbs<n) (nd:d.natAbs<n) (hn:101≤n):Dp_l3NumGcd n [nm a,nm b,nm c,nm d]=some ⟨false,dg (g4 a b c d)⟩:=by
 unfold Dp_l3NumGcd
 rw[ofOk n 0 (by decide) (by omega),oBs]
 obtain⟨m,hm⟩:∃j,n=j+5:=⟨n-5,by omega⟩
 have key:loopN (Dp_l3NumGcd_0 n [nm a,nm b,nm c,nm d] false) (m+5) (((0:Nat):Int),false,dg 0)=some ⟨false,dg (g4 a b c d)⟩:=by
  rw[loop_suc,ngOne n _ _ _ 0 0 (x:=a) rfl (by omega) ha na hn (by omega),Nat.gcd_zero_left]
  rw[loop_suc,ngOne n _ _ _ 1 _ (x:=b) rfl ha hb nb hn (by omega)]
  rw[loop_suc,ngOne n _ _ _ 2 _ (x:=c) rfl (gcd_lt ha hb) hc nc hn (by omega)]
  rw[loop_suc,ngOne n _ _ _ 3 _ (x:=d) rfl (gcd_lt (gcd_lt ha hb) hc) hd nd hn (by omega)]
  rw[loop_suc,ngStep,dec_f (by show ¬(((3+1:Nat):Int)<((4:Nat):Int));omega),frk_f]
  rfl
 rw[←hm] at key
 exact key
theorem smallStep(n:Nat)(l:List Int)(b0:Bool)(b1:List Int)(rec0:(Int×Int)→Option (Int×Bool))(t5 t6:Int) :
  Dp_Small_1 n l b0 b1 rec0 (t5,t6)=frk (decide (t6≥0)) (frk (decide (t5>922337203685477)) (some (0,false)) ((lget l t6).bind fun v1=>rec0 (IntKind.u64.wrap ((IntKind.u64.wrap (t5*10000))+(IntKind.u64.wrap v1)),w64 (t6-1)))) (Dp_Small_0 n t5 b0 b1):=rfl
theorem smallLoop(n:Nat)(b0:Bool)(b1:List Int){a:List Int}(ha:Dg a)(hl:a.length≤3):∀(i m:Nat),i≤a.length→i<m →
  loopN (Dp_Small_1 n a b0 b1) m (vl (a.drop i),(i:Int)-1)=Dp_Small_0 n (vl a) b0 b1:=by
 intro i
 induction i with
 | zero =>
  intro m _ hm
  obtain⟨m,rfl⟩:∃j,m=j+1:=⟨m-1,by omega⟩
  rw[loop_suc,smallStep,dec_f (by omega),frk_f];rfl
 | succ i ih =>
  intro m hi hm
  obtain⟨m,rfl⟩:∃j,m=j+1:=⟨m-1,by omega⟩
  obtain⟨x,hx⟩:∃d,a[i]?=some d:=⟨a[i],List.getElem?_eq_getElem (by omega)⟩
  have e:((i+1:Nat):Int)-1=(i:Int):=by omega
  have b1':=vl_small ha hl
  have b2:=vl_drop_le ha i
  have b3:=vl_nn (ha.drop i)
  have b4:=vl_nn (ha.drop (i+1))
  have b5:=ha.get hx
  have e2:=vl_drop_s hx
  rw[loop_suc,smallStep,e,dec_t (by omega),frk_t,dec_f (by omega),frk_f,lget_nat,hx,oBs]
  rw[u64w (x:=vl (a.drop (i+1))*10000) (by omega) (by omega),u64w (x:=x) (by omega) (by omega),show vl (a.drop (i+1))*10000+x=vl (a.drop i) by omega,u64w (x:=vl (a.drop i)) (by omega) (by omega),w64_id (x:=(i:Int)-1) (by omega) (by omega)]
  exact ih m (by omega) (by omega)
theorem smallOk(n:Nat)(g:Bool)(v:Nat)(hv:v<1000000000000)(hg:g=true→0<v)(hn:5≤n):Dp_Small n ⟨g,dg v⟩=some (if g then -(v:Int) else (v:Int),true):=by
 have l1:=dg_len3 hv
 unfold Dp_Small
 rw[magOk n g v hv hg hn,oBs,dec_f (by omega),frk_f,w64_id (by omega) (by omega)]
 have e1:=smallLoop n g (dg v) (Dg_dg v) l1 (dg v).length n (Nat.le_refl _) (by omega)
 rw[List.drop_length] at e1
 have e1':loopN (Dp_Small_1 n (dg v) g (dg v)) n ((0:Int),((dg v).length:Int)-1)=_:=e1
 rw[e1',vl_dg]
 unfold Dp_Small_0
 rw[signOk n g v hv hg hn,oBs]
 cases g with
 | true =>
  have:=hg rfl
  rw[frk_t,dec_f (by omega),frk_f,u64w (by omega) (by omega),w64_id (x:=(v:Int)-1) (by omega) (by omega),w64_id (x:=0-((v:Int)-1)) (by omega) (by omega),w64_id (by omega) (by omega)]
  simp only[if_true];congr 2;omega
 | false =>
  rw[frk_f,dec_f (by omega),frk_f,w64_id (by omega) (by omega)];rfl
def pq (x:Int)(g:Nat):Int:=if x<0 then -((x.natAbs / g:Nat):Int) else ((x.natAbs / g:Nat):Int)
theorem compStep{β:Type}(n:Nat)(x:Int)(g:Nat)(hx:x.natAbs<1000000000000)(hg0:0<g)(hg:g<1000000000000)(hn:101≤n)(K:Int×Bool→Option β) :
  ((Dp_l1DivMag n (dg x.natAbs) (dg g)).bind fun v5=>(Dp_l1Num n (decide (x<0)) v5.1).bind fun v6=>(Dp_Small n v6).bind K)=K (pq x g,true):=by
 obtain⟨q,q1,q2,q3,q4⟩:=divOk n x.natAbs g hx hg0 hg hn
 have hle:x.natAbs / g≤x.natAbs:=Nat.div_le_self _ _
 have h00:(0:Int)≤((x.natAbs / g:Nat):Int):=Int.natCast_nonneg _
 rw[q1,oBs,numOk n _ q q2 (by omega) q3 (by omega),oBs,smallOk n _ _ (by omega) (by simp) (by omega),oBs]
 congr 2
 unfold pq
 by_cases h:x<0
 ·by_cases h2:0<x.natAbs / g
  ·rw[dec_t h,dec_t h2,if_pos h];rfl
  ·rw[dec_t h,dec_f h2,if_pos h];simp only[Bool.and_false,Bool.false_eq_true,if_false];omega
 ·rw[dec_f h,if_neg h];rfl
def prim (a b c d:Int):Pl×Int :=
 if a=0∧b=0∧c=0 then (⟨0,0,0,0⟩,1)
 else if rIn (pq a (g4 a b c d)) (-500) 500&&(rIn (pq b (g4 a b c d)) (-500) 500&&(rIn (pq c (g4 a b c d)) (-500) 500&&rIn (pq d (g4 a b c d)) (-500) 500)) then (⟨pq a (g4 a b c d),pq b (g4 a b c d),pq c (g4 a b c d),pq d (g4 a b c d)⟩,0)
 else (⟨0,0,0,0⟩,2)
theorem g4_pos{a b c d:Int}(h:¬(a=0∧b=0∧c=0)):0<g4 a b c d:=by
 unfold g4
 apply Nat.pos_of_ne_zero
 intro h0
 have h1:=(Nat.gcd_eq_zero_iff.1 h0).1
 have h2:=Nat.gcd_eq_zero_iff.1 h1
 have h3:=Nat.gcd_eq_zero_iff.1 h2.1
 omega
theorem prim_body(n:Nat)(a b c d:Int)(ha:a.natAbs<1000000000000)(hb:b.natAbs<1000000000000)(hc:c.natAbs<1000000000000)(hd:d.natAbs<1000000000000)
  (na:a.natAbs<n) (nb:b.natAbs<n) (nc:c.natAbs<n) (nd:d.natAbs<n) (hn:101≤n) (h0:¬(a=0∧b=0∧c=0)):Dp_Primitive_5 n a b c d 0 0 0 0=some (prim a b c d):=by
 have hp:=g4_pos (d:=d) h0
 have hg:g4 a b c d<1000000000000:=gcd_lt (gcd_lt (gcd_lt ha hb) hc) hd
 unfold prim
 rw[if_neg h0]
 unfold Dp_Primitive_5
 have ea:Dp_Of n a=some (nm a):=ofOk n a ha (by omega)
 have eb:Dp_Of n b=some (nm b):=ofOk n b hb (by omega)
 have ec:Dp_Of n c=some (nm c):=ofOk n c hc (by omega)
 have ed:Dp_Of n d=some (nm d):=ofOk n d hd (by omega)
 rw[ea,oBs,eb,oBs,ec,oBs,ed,oBs,ngOk n a b c d ha hb hc hd na nb nc nd hn,oBs]
 refine(compStep n a (g4 a b c d) ha hp hg hn _).trans ?_
 rw[show (!(pq a (g4 a b c d),true).2)=false from rfl,frk_f,sIn,oBs]
 unfold Dp_Primitive_1
 cases hA:rIn (pq a (g4 a b c d)) (-500) 500
 ·rfl
 rw[show (!true)=false from rfl,frk_f,chk_eq (apB8 (by simp)),show lget [nm a,nm b,nm c,nm d] 1=some (nm b) from rfl,oBs]
 refine(compStep n b (g4 a b c d) hb hp hg hn _).trans ?_
 rw[show (!(pq b (g4 a b c d),true).2)=false from rfl,frk_f,sIn,oBs]
 unfold Dp_Primitive_2
 cases hB:rIn (pq b (g4 a b c d)) (-500) 500
 ·rfl
 rw[show (!true)=false from rfl,frk_f,chk_eq (apB8 (by simp)),show lget [nm a,nm b,nm c,nm d] 2=some (nm c) from rfl,oBs]
 refine(compStep n c (g4 a b c d) hc hp hg hn _).trans ?_
 rw[show (!(pq c (g4 a b c d),true).2)=false from rfl,frk_f,sIn,oBs]
 unfold Dp_Primitive_3
 cases hC:rIn (pq c (g4 a b c d)) (-500) 500
 ·rfl
 rw[show (!true)=false from rfl,frk_f,chk_eq (apB8 (by simp)),show lget [nm a,nm b,nm c,nm d] 3=some (nm d) from rfl,oBs]
 refine(compStep n d (g4 a b c d) hd hp hg hn _).trans ?_
 rw[show (!(pq d (g4 a b c d),true).2)=false from rfl,frk_f,sIn,oBs]
 unfold Dp_Primitive_4
 cases hE:rIn (pq d (g4 a b c d)) (-500) 500
 ·rfl
 rw[show (!true)=false from rfl,frk_f,chk_eq (apB8 (by simp))]
 rfl
theorem primOk(n:Nat)(a b c d:Int)(ha:a.natAbs<1000000000000)(hb:b.natAbs<1000000000000)(hc:c.natAbs<1000000000000)(hd:d.natAbs<1000000000000)
  (na:a.natAbs<n) (nb:b.natAbs<n) (nc:c.natAbs<n) (nd:d.natAbs<n) (hn:101≤n):Dp_Primitive n a b c d=some (prim a b c d):=by
 unfold Dp_Primitive
 by_cases h1:a=0
 ·by_cases h2:b=0
  ·by_cases h3:c=0
   ·subst h1;subst h2;subst h3;rfl
   ·have e:=prim_body n a b c d ha hb hc hd na nb nc nd hn (by omega)
    rw[show (a==0)=true by simpa using h1,frk_t,show (b==0)=true by simpa using h2,frk_t]
    rw[show (c==0)=false by simpa using h3]
    exact e
  ·have e:=prim_body n a b c d ha hb hc hd na nb nc nd hn (by omega)
   rw[show (a==0)=true by simpa using h1,frk_t,show (b==0)=false by simpa using h2,frk_f]
   exact e
 ·have e:=prim_body n a b c d ha hb hc hd na nb nc nd hn (by omega)
  rw[show (a==0)=false by simpa using h1,frk_f]
  exact e
end Evl.T
