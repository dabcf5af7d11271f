
/- Texts that belong together,joined. No condition. -/
import Derived.Test.YtljcjahaeebocaaGreatJp
namespace Evl.T
open Go Evl
abbrev Cur:=List Int×Int×Int
def CurOk(c:Cur):Prop:=0≤c.2.1∧c.2.1≤c.1.length∧c.1.length≤1048576
theorem and255(a:Int):0≤bAnd .i64 a 255∧bAnd .i64 a 255≤255:=by
 unfold bAnd
 have h1:(BitVec.ofInt 64 a &&& BitVec.ofInt 64 255).toNat≤255:=by
  rw[BitVec.toNat_and]
  have e:(BitVec.ofInt 64 255).toNat=255:=by decide
  rw[e];exact Nat.and_le_right
 have h2:IntKind.i64.wrap (((BitVec.ofInt 64 a &&& BitVec.ofInt 64 255).toNat:Nat):Int)=(((BitVec.ofInt 64 a &&& BitVec.ofInt 64 255).toNat:Nat):Int):=w64_id (by omega) (by omega)
 show 0≤IntKind.i64.wrap (((BitVec.ofInt 64 a &&& BitVec.ofInt 64 255).toNat:Nat):Int)∧IntKind.i64.wrap (((BitVec.ofInt 64 a &&& BitVec.ofInt 64 255).toNat:Nat):Int)≤255
 rw[h2];omega
theorem byteOk{c:Cur}(h:CurOk c):∃v c',Dp_l1Byte c=some (v,c')∧(0≤v∧v≤255)∧CurOk c':=by
 obtain⟨l,i,s⟩:=c
 obtain⟨h1,h2,h3⟩:=h
 simp only at h1 h2 h3
 unfold Dp_l1Byte
 by_cases hi:i<(l.length:Int)
 ·rw[dec_t hi,frk_t]
  obtain⟨k,rfl⟩:∃k:Nat,i=k:=⟨i.toNat,by omega⟩
  have hg:lget l (k:Int)=some l[k]!:=by
   rw[lget_nat,List.getElem?_eq_getElem (by omega)]
   simp[List.getElem!_eq_getElem?_getD,List.getElem?_eq_getElem (show k<l.length by omega)]
  rw[hg,oBs,w64_suc (by unfold big;omega)]
  exact⟨_,_,rfl,and255 _,by simp only;omega,by simp only;omega,h3⟩
 ·rw[dec_f hi,frk_f]
  exact⟨_,_,rfl,and255 _,h1,h2,h3⟩
theorem belowOk{c:Cur}(h:CurOk c){a:Int}(h1:1≤a)(h2:a≤256):∃v c',Dp_l1Below c a=some (v,c')∧(0≤v∧v<a)∧CurOk c':=by
 unfold Dp_l1Below
 rw[dec_f (by omega),frk_f,dec_t h2,frk_t]
 obtain⟨v,c',e,hv,hc⟩:=byteOk h
 rw[e,oBs]
 unfold rm
 rw[if_neg (by omega),oBs]
 exact⟨_,_,rfl,⟨by simp only;rw[Int.tmod_eq_emod_of_nonneg hv.1];exact Int.emod_nonneg _ (by omega),by simp only;rw[Int.tmod_eq_emod_of_nonneg hv.1];exact Int.emod_lt_of_pos _ (by omega)⟩,hc⟩
theorem onceOk{c:Cur}(h:CurOk c){a:Int}(h1:1≤a)(h2:a≤256):∃v c',Dp_l1Once c a=some (v,c')∧CurOk c':=by
 obtain⟨v,c',e,-,hc⟩:=belowOk h h1 h2
 unfold Dp_l1Once
 rw[e,oBs]
 exact⟨_,_,rfl,hc⟩
theorem intOk{c:Cur}(h:CurOk c){l:List Int}(h1:1≤l.length)(h2:l.length≤256):∃v c',Dp_l1Int c l=some (v,c')∧v∈l∧CurOk c':=by
 obtain⟨v,c',e,hv,hc⟩:=belowOk h (a:=(l.length:Int)) (by omega) (by omega)
 unfold Dp_l1Int
 rw[e,oBs]
 obtain⟨k,rfl⟩:∃k:Nat,v=k:=⟨v.toNat,by omega⟩
 have hg:=List.getElem?_eq_getElem (show k<l.length by omega)
 rw[show lget l (k:Int)=some l[k] by rw[lget_nat,hg],oBs]
 exact⟨_,_,rfl,List.getElem_mem _,hc⟩
theorem coefOk{c:Cur}(h:CurOk c):∃v c',Dp_l3Coef c=some (v,c')∧(-5≤v∧v≤5)∧CurOk c':=by
 obtain⟨v,c1,e,hv,hc⟩:=belowOk h (a:=11) (by omega) (by omega)
 unfold Dp_l3Coef
 rw[e,oBs]
 obtain⟨w,c2,e2,hw,hc2⟩:=intOk hc (l:=[0,0,1,(-1),2,(-3),w64 (v-5)]) (by simp) (by simp)
 have e5:w64 (v-5)=v-5:=w64_id (by omega) (by omega)
 simp only[e2,oBs]
 refine⟨_,_,rfl,?_,hc2⟩
 rw[e5] at hw
 simp only[List.mem_cons,List.not_mem_nil,or_false] at hw
 omega
theorem pq_abs(x:Int)(g:Nat):(pq x g).natAbs=x.natAbs / g:=by
 unfold pq
 split
 ·rw[Int.natAbs_neg,Int.natAbs_natCast]
 ·rw[Int.natAbs_natCast]
theorem prim_right{a b c d:Int}(h:(prim a b c d).2=0):pOk (prim a b c d).1=true:=by
 unfold prim at h ⊢
 by_cases h0:a=0∧b=0∧c=0
 ·rw[if_pos h0] at h;cases h
 ·rw[if_neg h0] at h ⊢
  split at h
  ·rename_i hr
   rw[if_pos hr]
   simp only[bAt] at hr
   have hp:=g4_pos (d:=d) h0
   have hgd:g4 a b c d ∣ Nat.gcd (Nat.gcd a.natAbs b.natAbs) c.natAbs:=Nat.gcd_dvd_left _ _
   have hdd:g4 a b c d ∣ d.natAbs:=Nat.gcd_dvd_right _ _
   have hcd:=Nat.dvd_trans hgd (Nat.gcd_dvd_right _ _)
   have hab:=Nat.dvd_trans hgd (Nat.gcd_dvd_left _ _)
   have had:=Nat.dvd_trans hab (Nat.gcd_dvd_left _ _)
   have hbd:=Nat.dvd_trans hab (Nat.gcd_dvd_right _ _)
   have nz:∀{x:Int},x≠0→g4 a b c d ∣ x.natAbs→pq x (g4 a b c d)≠0:=fun {x} hx hd e=>by
    have:=pq_abs x (g4 a b c d)
    rw[e] at this
    have h1:0<x.natAbs / g4 a b c d:=Nat.div_pos (Nat.le_of_dvd (by omega) hd) hp
    simp at this;omega
   have e1:decide (pq a (g4 a b c d)≠0∨pq b (g4 a b c d)≠0∨pq c (g4 a b c d)≠0)=true:=by
    apply decide_eq_true
    by_cases ha:a=0
    ·by_cases hb:b=0
     ·exact .inr (.inr (nz (fun e=>h0 ⟨ha,hb,e⟩) hcd))
     ·exact .inr (.inl (nz hb hbd))
    ·exact .inl (nz ha had)
   have e2:decide (Nat.gcd (Nat.gcd (pq a (g4 a b c d)).natAbs (pq b (g4 a b c d)).natAbs) (Nat.gcd (pq c (g4 a b c d)).natAbs (pq d (g4 a b c d)).natAbs)=1)=true:=by
    apply decide_eq_true
    rw[pq_abs,pq_abs,pq_abs,pq_abs]
    rw[Nat.gcd_div had hbd,Nat.gcd_div hcd hdd]
    have q1:g4 a b c d ∣ Nat.gcd a.natAbs b.natAbs:=Nat.dvd_gcd had hbd
    have q2:g4 a b c d ∣ Nat.gcd c.natAbs d.natAbs:=Nat.dvd_gcd hcd hdd
    rw[Nat.gcd_div q1 q2]
    have q3:Nat.gcd (Nat.gcd a.natAbs b.natAbs) (Nat.gcd c.natAbs d.natAbs)=g4 a b c d:=by unfold g4;rw[Nat.gcd_assoc (Nat.gcd a.natAbs b.natAbs)]
    rw[q3];exact Nat.div_self hp
   unfold pOk
   rw[hr.1,hr.2.1,hr.2.2.1,hr.2.2.2,e1,e2];rfl
  ·cases h
theorem drawP{a b c:Int}(ha:-5≤a∧a≤5)(hb:-5≤b∧b≤5)(hc:-5≤c∧c≤5){k:Cur}(h:CurOk k) :
  ∃p k',(∀n,1000≤n→Dp_l3Draw_0 n a b c 0 0 0 0 k.1 k.2.1 k.2.2=some (p,k'))∧pOk p=true∧CurOk k':=by
 obtain⟨v,c1,e,hv,h1⟩:=belowOk (c:=(k.1,k.2.1,k.2.2)) h (a:=25) (by omega) (by omega)
 obtain⟨w,c2,e2,hw,h2⟩:=intOk h1 (l:=[0,1,(-1),2,(-4),w64 (v-12),500,(-500)]) (by simp) (by simp)
 have e5:w64 (v-12)=v-12:=w64_id (by omega) (by omega)
 have hw0:=hw
 rw[e5] at hw
 simp only[List.mem_cons,List.not_mem_nil,or_false] at hw
 have hw':-500≤w∧w≤500:=by omega
 have step:∀n,1000≤n→Dp_l3Draw_0 n a b c 0 0 0 0 k.1 k.2.1 k.2.2=frk ((prim a b c w).2 != 0) (some ((Pl.mk 0 0 1 (-1)),c2)) (some ((prim a b c w).1,c2)):=by
  intro n hn
  unfold Dp_l3Draw_0
  rw[e,oBs]
  simp only[e2,oBs]
  rw[primOk n a b c w (by omega) (by omega) (by omega) (by omega) (by omega) (by omega) (by omega) (by omega) (by omega),oBs]
 by_cases hz:(prim a b c w).2=0
 ·refine⟨_,_,fun n hn=>?_,prim_right hz,h2⟩
  rw[step n hn,show ((prim a b c w).2 != 0)=false by simpa using hz,frk_f]
 ·refine⟨⟨0,0,1,-1⟩,_,fun n hn=>?_,by decide,h2⟩
  rw[step n hn,show ((prim a b c w).2 != 0)=true by simpa using hz,frk_t]
theorem drawOk{k:Cur}(h:CurOk k):∃p k',(∀n,1000≤n→Dp_l3Draw n k=some (p,k'))∧pOk p=true∧CurOk k':=by
 obtain⟨a,k1,e1,ha,h1⟩:=coefOk h
 obtain⟨b,k2,e2,hb,h2⟩:=coefOk h1
 obtain⟨c,k3,e3,hc,h3⟩:=coefOk h2
 obtain⟨o,k4,e4,h4⟩:=onceOk h3 (a:=2) (by omega) (by omega)
 have fin:∀{x y z:Int} {k5:Cur},(-5≤x∧x≤5)→(-5≤y∧y≤5)→(-5≤z∧z≤5)→CurOk k5→(∀n,Dp_l3Draw n k=Dp_l3Draw_0 n x y z 0 0 0 0 k5.1 k5.2.1 k5.2.2)→∃p k',(∀n,1000≤n→Dp_l3Draw n k=some (p,k'))∧pOk p=true∧CurOk k':=by
  intro x y z k5 hx hy hz h5 he
  obtain⟨p,k',g1,g2,g3⟩:=drawP hx hy hz h5
  exact⟨p,k',fun n hn=>(he n).trans (g1 n hn),g2,g3⟩
 cases o with
 | false =>
  refine fin ha hb hc h4 fun n=>?_
  unfold Dp_l3Draw
  simp only[e1,e2,e3,e4,oBs,frk_f]
 | true =>
  obtain⟨s,k5,e5,hs,h5⟩:=intOk h4 (l:=[1,(-1)]) (by simp) (by simp)
  have hs':-5≤s∧s≤5:=by simp only[List.mem_cons,List.not_mem_nil,or_false] at hs;omega
  obtain⟨o2,k6,e6,h6⟩:=onceOk h5 (a:=2) (by omega) (by omega)
  cases o2 with
  | true =>
   refine fin (x:=0) (z:=0) (by omega) hs' (by omega) h6 fun n=>?_
   unfold Dp_l3Draw
   simp only[e1,e2,e3,e4,e5,e6,oBs,frk_t]
  | false =>
   obtain⟨o3,k7,e7,h7⟩:=onceOk h6 (a:=2) (by omega) (by omega)
   cases o3 with
   | true =>
    refine fin (x:=0) (y:=0) (by omega) (by omega) hs' h7 fun n=>?_
    unfold Dp_l3Draw
    simp only[e1,e2,e3,e4,e5,e6,e7,oBs,frk_t,frk_f]
   | false =>
    refine fin (y:=0) (z:=0) hs' (by omega) (by omega) h7 fun n=>?_
    unfold Dp_l3Draw
    simp only[e1,e2,e3,e4,e5,e6,e7,oBs,frk_t,frk_f]
end Evl.T
namespace Evl.T
open Go Evl
inductive Dp:Sol→Nat→Prop
 | leaf {i p d}:Dp (.mk i p []) d
 | node {i p a b d}:Dp a d→Dp b d→Dp (.mk i p [a,b]) (d+1)
theorem Dp.up{s:Sol}{d:Nat}(h:Dp s d):∀{k},d≤k→Dp s k:=by
 induction h with
 | leaf=>intro k _;exact .leaf
 | @node i p a b d _ _ iha ihb =>
  intro k hk
  obtain⟨k,rfl⟩:∃j,k=j+1:=⟨k-1,by omega⟩
  exact .node (iha (by omega)) (ihb (by omega))
end Evl.T
namespace Evl.T
open Go Evl
theorem cl2_flp{q:Pl}(hz:Nz q):cl2 q (flp q)=true:=by
 unfold cl2
 apply decide_eq_true
 have e0:cr0 q (flp q)=0:=by unfold cr0 flp;simp only[Int.mul_sub,Int.mul_zero];rw[Int.mul_comm q.C q.B];omega
 have e1:cr1 q (flp q)=0:=by unfold cr1 flp;simp only[Int.mul_sub,Int.mul_zero];rw[Int.mul_comm q.C q.A];omega
 have e2:cr2 q (flp q)=0:=by unfold cr2 flp;simp only[Int.mul_sub,Int.mul_zero];rw[Int.mul_comm q.B q.A];omega
 refine⟨⟨e0,e1,e2,?_⟩,?_⟩
 ·have sq:∀x:Int,0≤x*x:=fun x=>by
   rcases Int.le_total 0 x with h | h
   ·exact Int.mul_nonneg h h
   ·exact Int.mul_nonneg_of_nonpos_of_nonpos h h
  have sp:∀{x:Int},x≠0→0<x*x:=fun {x} h=>by
   rcases Int.lt_or_gt_of_ne h with h | h
   ·exact Int.mul_pos_of_neg_of_neg h h
   ·exact Int.mul_pos h h
  have a:=sq q.A;have b:=sq q.B;have c:=sq q.C
  unfold dt flp
  simp only[Int.mul_sub,Int.mul_zero]
  rcases hz with h | h | h <;> have:=sp h <;> omega
 ·unfold flp
  have e:∀x:Int,(0-x).natAbs=x.natAbs:=fun x=>by omega
  simp only[e,Int.mul_sub,Int.mul_zero]
  omega
theorem wth_flp{P:List Pl}{q:Pl}(hz:Nz q)(hq:q∈P):wth P (flp q)=true:=(wth_sub _ _).2 (.inl ⟨q,List.singleton_sublist.2 hq,cl2_flp hz⟩)
theorem wth_in{P:List Pl}(ho:Opn P)(hz:∀q∈P,Nz q){q:Pl}(hq:q∈P):wth P q=false:=by
 rcases flip_room ho hz q with h | h
 ·exact h
 ·rw[wth_flp (hz q hq) hq] at h;cases h
theorem flp_flp(p:Pl):flp (flp p)=p:=by cases p;unfold flp;simp only[Pl.mk.injEq];omega
inductive Lf:Sol→List Pl→Bool→Prop
 | leaf {i p}:Lf (.mk i p []) [] i
 | left {p a b Q i}:Lf a Q i→Lf (.mk false p [a,b]) (p::Q) i
 | right {p a b Q i}:Lf b Q i→Lf (.mk false p [a,b]) (flp p::Q) i
end Evl.T
namespace Evl.T
open Go Evl
theorem nz_snoc{l:List Pl}{p:Pl}(hz:∀q∈l,Nz q)(hp:Nz p):∀q∈l++[p],Nz q:=fun q hq=>by
 rcases List.mem_append.1 hq with hq | hq
 ·exact hz q hq
 ·rw[List.mem_singleton.1 hq];exact hp
end Evl.T
namespace Evl.T
open Go Evl
def Con (l:List Pl):Prop:=∀c,Cert c→¬∀x∈c,x.2∈l
theorem Con.mono{l l':List Pl}(h:Con l')(hs:∀q∈l,q∈l'):Con l:=fun c hc hm=>h c hc fun x hx=>hs _ (hm x hx)
theorem addAt(p:Pl)(w:Int)(hw:0≤w):∀z:List (Int×Pl),p∈z.map (·.2)→(∀x∈z,0≤x.1)→∃z',z'.map (·.2)=z.map (·.2)∧(∀x∈z',0≤x.1)∧∀f,sm f z'=sm f z+w*f p
 | [],h,_=>by simp at h
 | (u,q)::z,h,hz=>by
  by_cases hq:p=q
  ·subst hq
   refine⟨(u+w,p)::z,rfl,fun x hx=>?_,fun f=>?_⟩
   ·rcases List.mem_cons.1 hx with rfl | hx
    ·have:=hz (u,p) (by simp)
     show 0≤u+w
     simp only at this;omega
    ·exact hz x (by simp[hx])
   ·simp only[sm_cons];grind
  ·obtain⟨z',h1,h2,h3⟩:=addAt p w hw z (by
    simp only[List.map_cons,List.mem_cons] at h
    exact h.resolve_left hq) fun x hx=>hz x (by simp[hx])
   refine⟨(u,q)::z',by simp[h1],fun x hx=>?_,fun f=>?_⟩
   ·rcases List.mem_cons.1 hx with rfl | hx
    ·exact hz _ (by simp)
    ·exact h2 x hx
   ·simp only[sm_cons,h3];omega
theorem sm_nul(f:Pl→Int)(l:List Pl):sm f (l.map fun x=>((0:Int),x))=0:=by
 induction l with
 | nil=>rfl
 | cons y l ih=>simp only[List.map_cons,sm_cons,ih];omega
theorem padM(l:List Pl):∀c:List (Int×Pl),(∀x∈c,0<x.1)→(∀x∈c,x.2∈l)→∃z,z.map (·.2)=l∧(∀x∈z,0≤x.1)∧∀f,sm f z=sm f c
 | [],_,_=>⟨l.map fun x=>((0:Int),x),by simp[Function.comp_def],fun x hx=>by
   obtain⟨y,_,rfl⟩:=List.mem_map.1 hx;exact Int.le_refl _,fun f=>sm_nul f l⟩
 | (w,p)::c,hp,hm=>by
  obtain⟨z,h1,h2,h3⟩:=padM l c (fun x hx=>hp x (by simp[hx])) fun x hx=>hm x (by simp[hx])
  obtain⟨z',g1,g2,g3⟩:=addAt p w (Int.le_of_lt (hp (w,p) (by simp))) z (by rw[h1];exact hm (w,p) (by simp)) h2
  exact⟨z',g1.trans h1,g2,fun f=>by rw[g3,h3,sm_cons];simp only;omega⟩
theorem Opn.con{l:List Pl}(ho:Opn l)(hz:∀q∈l,Nz q):Con l:=fun c hc hm=>by
 obtain⟨z,z1,z2,z3⟩:=padM l c hc.pos hm
 have e:∀f,sm f (pst z)=sm f c:=fun f=>by rw[sm_pst _ _ z2,z3]
 refine no_cert ho hz _ (pst z) (Nat.lt_succ_self _) ⟨fun x hx=>pst_pos hx,by rw[e];exact hc.a,by rw[e];exact hc.b,by rw[e];exact hc.cc,by rw[e];exact hc.d,fun h=>?_⟩ ?_
 ·have:=e fun _=>1
  rw[h,sm_nil] at this
  have:=sm_pos hc.pos hc.ne
  omega
 ·have:=(pst_sub z).map (·.2)
  rw[z1] at this;exact this
theorem con_wth{l:List Pl}{p:Pl}(hz:∀q∈l,Nz q)(h:wth l p=true):¬Con (p::l):=fun hC=>by
 obtain⟨c,m,hm,hcn,hcp,hcs,ca,cb,cc,cd⟩:=half_of hz h
 refine hC ((m,p)::c) ⟨fun x hx=>?_,?_,?_,?_,?_,by simp⟩ fun x hx=>?_
 ·rcases List.mem_cons.1 hx with rfl | hx
  ·exact hm
  ·exact hcp x hx
 ·rw[sm_cons];simp only;omega
 ·rw[sm_cons];simp only;omega
 ·rw[sm_cons];simp only;omega
 ·rw[sm_cons];simp only;omega
 ·rcases List.mem_cons.1 hx with rfl | hx
  ·simp
  ·exact List.mem_cons_of_mem _ (hcs.subset (List.mem_map.2 ⟨x,hx,rfl⟩))
theorem con_snoc{l:List Pl}{p:Pl}(ho:Opn l)(hz:∀q∈l,Nz q)(hp:Nz p)(h:wth l p=false):Con (p::l) :=
 ((Opn.snoc ho h).con (nz_snoc hz hp)).mono fun q hq=>by
  rcases List.mem_cons.1 hq with rfl | hq
  ·simp
  ·simp[hq]
theorem wth_con{l:List Pl}{p:Pl}(ho:Opn l)(hz:∀q∈l,Nz q)(hp:Nz p):wth l p=true↔¬Con (p::l) :=
 ⟨con_wth hz,fun h=>by
  cases hw:wth l p with
  | true=>rfl
  | false=>exact absurd (con_snoc ho hz hp hw) h⟩
end Evl.T
namespace Evl.T
open Go Evl
open Classical in
theorem partP(l:List Pl)(p:Pl):∀c:List (Int×Pl),(∀x∈c,0<x.1)→(∀x∈c,x.2∈p::l)→∃(c':List (Int×Pl)) (m:Int),0≤m∧(∀x∈c',0<x.1)∧(∀x∈c',x.2∈l)∧∀f,sm f c=sm f c'+m*f p
 | [],_,_=>⟨[],0,Int.le_refl _,by simp,by simp,fun f=>by simp[sm]⟩
 | (w,q)::c,hp,hm=>by
  obtain⟨c',m,h0,h1,h2,h3⟩:=partP l p c (fun x hx=>hp x (by simp[hx])) fun x hx=>hm x (by simp[hx])
  have hw:0<w:=hp (w,q) (by simp)
  by_cases hq:q=p
  ·subst hq
   exact⟨c',m+w,by omega,h1,h2,fun f=>by rw[sm_cons,h3];simp only;grind⟩
  ·refine⟨(w,q)::c',m,h0,fun x hx=>?_,fun x hx=>?_,fun f=>by rw[sm_cons,sm_cons,h3];omega⟩
   ·rcases List.mem_cons.1 hx with rfl | hx
    ·exact hw
    ·exact h1 x hx
   ·rcases List.mem_cons.1 hx with rfl | hx
    ·exact(List.mem_cons.1 (hm (w,q) (by simp))).resolve_left hq
    ·exact h2 x hx
def scl (k:Int)(c:List (Int×Pl)):List (Int×Pl):=c.map fun x=>(k*x.1,x.2)
theorem sm_scl(f:Pl→Int)(k:Int)(c:List (Int×Pl)):sm f (scl k c)=k*sm f c:=by
 induction c with
 | nil=>simp[scl,sm]
 | cons x c ih=>simp only[scl,List.map_cons,sm_cons] at ih ⊢;rw[ih];grind
theorem scl_pos{k:Int}(hk:0<k){c:List (Int×Pl)}(h:∀x∈c,0<x.1):∀x∈scl k c,0<x.1:=fun x hx=>by
 obtain⟨y,hy,rfl⟩:=List.mem_map.1 hx
 exact Int.mul_pos hk (h y hy)
theorem scl_mem{k:Int}{l:List Pl}{c:List (Int×Pl)}(h:∀x∈c,x.2∈l):∀x∈scl k c,x.2∈l:=fun x hx=>by
 obtain⟨y,hy,rfl⟩:=List.mem_map.1 hx
 exact h y hy
theorem con_or{l:List Pl}{p:Pl}(h:Con l)(hp:Nz p):Con (p::l)∨Con (flp p::l):=by
 refine Classical.byContradiction fun hno=>?_
 rw[not_or] at hno
 obtain⟨n1,n2⟩:=hno
 unfold Con at n1 n2
 obtain⟨c,n1⟩:=Classical.not_forall.1 n1
 obtain⟨d,n2⟩:=Classical.not_forall.1 n2
 obtain⟨hc,hcm⟩:=Classical.not_imp.1 n1
 obtain⟨hd,hdm⟩:=Classical.not_imp.1 n2
 replace hcm:=Classical.not_not.1 hcm
 replace hdm:=Classical.not_not.1 hdm
 obtain⟨c',m,m0,c1,c2,c3⟩:=partP l p c hc.pos hcm
 obtain⟨d',k,k0,d1,d2,d3⟩:=partP l (flp p) d hd.pos hdm
 have ca:=hc.a;have cb:=hc.b;have cc:=hc.cc;have cd:=hc.d
 have da:=hd.a;have db:=hd.b;have dc:=hd.cc;have dd:=hd.d
 rw[c3] at ca cb cc cd
 rw[d3] at da db dc dd
 simp only[flp] at da db dc dd
 by_cases hm:m=0
 ·subst hm
  refine h c' ⟨c1,by omega,by omega,by omega,by omega,fun e=>?_⟩ c2
  have:=c3 fun _=>1
  have:=sm_pos hc.pos hc.ne
  subst e;rw[sm_nil] at *;omega
 ·by_cases hk:k=0
  ·subst hk
   refine h d' ⟨d1,by omega,by omega,by omega,by omega,fun e=>?_⟩ d2
   have:=d3 fun _=>1
   have:=sm_pos hd.pos hd.ne
   subst e;rw[sm_nil] at *;omega
  ·have mp:0<m:=by omega
   have kp:0<k:=by omega
   have cne:c'≠[]:=fun e=>by
    subst e
    simp only[sm_nil,Int.zero_add] at ca cb cc
    have z:∀y:Int,m*y=0→y=0:=fun y h=>(Int.mul_eq_zero.1 h).resolve_left (by omega)
    rcases hp with h' | h' | h'
    ·exact h' (z _ ca)
    ·exact h' (z _ cb)
    ·exact h' (z _ cc)
   refine h (scl k c'++scl m d') ⟨fun x hx=>?_,?_,?_,?_,?_,?_⟩ fun x hx=>?_
   ·rcases List.mem_append.1 hx with hx | hx
    ·exact scl_pos kp c1 x hx
    ·exact scl_pos mp d1 x hx
   ·rw[sm_app,sm_scl,sm_scl];grind
   ·rw[sm_app,sm_scl,sm_scl];grind
   ·rw[sm_app,sm_scl,sm_scl];grind
   ·rw[sm_app,sm_scl,sm_scl]
    have e1:k*sm Pl.D c'+m*sm Pl.D d'=k*(sm Pl.D c'+m*p.D)+m*(sm Pl.D d'+k*(0-p.D)):=by grind
    rw[e1]
    have h1:=Int.mul_nonpos_of_nonneg_of_nonpos (Int.le_of_lt kp) cd
    have h2:=Int.mul_nonpos_of_nonneg_of_nonpos (Int.le_of_lt mp) dd
    omega
   ·intro e
    have e2:=(List.append_eq_nil_iff.1 e).1
    unfold scl at e2
    exact cne (List.map_eq_nil_iff.1 e2)
   ·rcases List.mem_append.1 hx with hx | hx
    ·exact scl_mem c2 x hx
    ·exact scl_mem d2 x hx
theorem con_flp{l:List Pl}{p:Pl}(h:Con l)(h1:p∈l)(h2:flp p∈l):False:=by
 refine h [(1,p),(1,flp p)] ⟨fun x hx=>?_,?_,?_,?_,?_,by simp⟩ fun x hx=>?_
 ·simp only[List.mem_cons,List.not_mem_nil,or_false] at hx
  rcases hx with rfl | rfl <;> exact Int.one_pos
 ·simp only[sm,flp];omega
 ·simp only[sm,flp];omega
 ·simp only[sm,flp];omega
 ·simp only[sm,flp];omega
 ·simp only[List.mem_cons,List.not_mem_nil,or_false] at hx
  rcases hx with rfl | rfl
  ·exact h1
  ·exact h2
theorem con_ext{l:List Pl}(h:Con l):∀S:List Pl,(∀p∈S,Nz p)→∃L,(∀q∈l,q∈L)∧Con L∧∀p∈S,p∈L∨flp p∈L
 | [],_=>⟨l,fun _ h=>h,h,by simp⟩
 | p::S,hS=>by
  obtain⟨L,h1,h2,h3⟩:=con_ext h S fun q hq=>hS q (by simp[hq])
  rcases con_or h2 (hS p (by simp)) with h4 | h4
  ·refine⟨p::L,fun q hq=>by simp[h1 q hq],h4,fun q hq=>?_⟩
   rcases List.mem_cons.1 hq with rfl | hq
   ·simp
   ·rcases h3 q hq with h | h
    ·simp[h]
    ·simp[h]
  ·refine⟨flp p::L,fun q hq=>by simp[h1 q hq],h4,fun q hq=>?_⟩
   rcases List.mem_cons.1 hq with rfl | hq
   ·simp
   ·rcases h3 q hq with h | h
    ·simp[h]
    ·simp[h]
inductive Vl(L:List Pl):Sol→Bool→Prop
 | leaf {i p}:Vl L (.mk i p []) i
 | left {i p a b v}:p∈L→Vl L a v→Vl L (.mk i p [a,b]) v
 | right {i p a b v}:flp p∈L→Vl L b v→Vl L (.mk i p [a,b]) v
inductive Cpl(L:List Pl):Sol→Prop
 | leaf {i p}:Cpl L (.mk i p [])
 | node {i p a b}:p∈L∨flp p∈L→Cpl L a→Cpl L b→Cpl L (.mk i p [a,b])
theorem Cpl.vl{L:List Pl}{s:Sol}(h:Cpl L s):∃v,Vl L s v:=by
 induction h with
 | leaf=>exact⟨_,.leaf⟩
 | node h _ _ iha ihb =>
  rcases h with h | h
  ·obtain⟨v,hv⟩:=iha;exact⟨v,.left h hv⟩
  ·obtain⟨v,hv⟩:=ihb;exact⟨v,.right h hv⟩
theorem Vl.eq{L:List Pl}(hL:Con L){s:Sol}{u:Bool}(h:Vl L s u):∀{v},Vl L s v→v=u:=by
 induction h with
 | leaf=>intro v h;cases h;rfl
 | left hp _ ih =>
  intro v h
  cases h with
  | left _ h=>exact ih h
  | right hq _=>exact(con_flp hL hp hq).elim
 | right hp _ ih =>
  intro v h
  cases h with
  | right _ h=>exact ih h
  | left hq _=>exact(con_flp hL hq hp).elim
theorem Rt.pls{s:Sol}{l:List Pl}(h:Rt s l):∃S:List Pl,(∀p∈S,Nz p)∧∀L,(∀p∈S,p∈L∨flp p∈L)→Cpl L s:=by
 induction h with
 | leaf _=>exact⟨[],by simp,fun L _=>.leaf⟩
 | @node p a b _ hp _ _ _ _ _ iha ihb =>
  obtain⟨S,s1,s2⟩:=iha
  obtain⟨T,t1,t2⟩:=ihb
  refine⟨p::(S++T),fun q hq=>?_,fun L hL=>.node (hL p (by simp)) (s2 L fun q hq=>hL q (by simp[hq])) (t2 L fun q hq=>hL q (by simp[hq]))⟩
  simp only[List.mem_cons,lMa] at hq
  rcases hq with rfl | hq | hq
  ·exact pOk_Nz hp
  ·exact s1 q hq
  ·exact t1 q hq
theorem isLf_kids{x:Sol}(h:isLf x=true):x.kids=[]:=by
 unfold isLf at h
 cases hk:x.kids with
 | nil=>rfl
 | cons a l=>rw[hk] at h;simp at h;omega
theorem Vl.lf{L:List Pl}{x:Sol}{v:Bool}(h:Vl L x v)(hl:isLf x=true):x.inn=v:=by
 cases h with
 | leaf=>rfl
 | left _ _=>simp[isLf,Sol.kids] at hl
 | right _ _=>simp[isLf,Sol.kids] at hl
theorem vl_jn{L:List Pl}{p:Pl}{x y:Sol}{v:Bool}(h:(p∈L∧Vl L x v)∨(flp p∈L∧Vl L y v)):Vl L (jn p x y) v:=by
 unfold jn
 cases hj:jnB x y with
 | true =>
  rw[if_pos rfl]
  unfold jnB at hj
  simp only[bAt,beq_iff_eq] at hj
  obtain⟨h1,h2,h3⟩:=hj
  rcases h with ⟨_,h⟩ | ⟨_,h⟩
  ·rw[h.lf h1];exact .leaf
  ·rw[h3,h.lf h2];exact .leaf
 | false =>
  rw[if_neg (by simp)]
  rcases h with ⟨h,h'⟩ | ⟨h,h'⟩
  ·exact .left h h'
  ·exact .right h h'
theorem sub_snocL{l L:List Pl}{p:Pl}(h:∀q∈l,q∈L)(hp:p∈L):∀q∈l++[p],q∈L:=fun q hq=>by
 rcases List.mem_append.1 hq with hq | hq
 ·exact h q hq
 ·rw[List.mem_singleton.1 hq];exact hp
theorem con_cons{l L:List Pl}{p:Pl}(hL:Con L)(h:∀q∈l,q∈L)(hp:p∈L):Con (p::l):=hL.mono fun q hq=>by
 rcases List.mem_cons.1 hq with rfl | hq
 ·exact hp
 ·exact h q hq
theorem tk_vl{L:List Pl}(hL:Con L){op:Int}{inn:Bool}{b:Sol}{path:List Pl}{x:Sol}{sb:Bool}(h:Tk op inn b path x sb) :
  sb=false→(∀q∈path,Nz q)→(∀q∈path,q∈L)→∀{v},Vl L b v→Vl L x (lfB op inn v):=by
 induction h with
 | leaf=>intro _ _ _ v hv;cases hv;exact .leaf
 | one hw _ ih =>
  intro hs hz hm v hv
  cases hv with
  | left _ hv=>exact ih hs hz hm hv
  | right hp _=>exact absurd (con_cons hL hm hp) (con_wth hz hw)
 | two _ hw _ ih =>
  intro hs hz hm v hv
  cases hv with
  | left hp _=>exact absurd (con_cons hL hm hp) (con_wth hz hw)
  | right _ hv=>exact ih hs hz hm hv
 | deep=>intro hs;cases hs
 | @node p a b path x1 b1 x2 b2 hp _ _ _ _ _ iha ihb =>
  intro hs hz hm v hv
  rw[Bool.or_eq_false_iff] at hs
  cases hv with
  | left hq hv=>exact vl_jn (.inl ⟨hq,iha hs.1 (nz_snoc hz (pOk_Nz hp)) (sub_snocL hm hq) hv⟩)
  | right hq hv=>exact vl_jn (.inr ⟨hq,ihb hs.2 (nz_snoc hz (Nz_flp (pOk_Nz hp))) (sub_snocL hm hq) hv⟩)
theorem pt_vl{L:List Pl}(hL:Con L){op:Int}{a b:Sol}{path:List Pl}{x:Sol}{sb:Bool}(h:Pt2 op a b path x sb) :
  sb=false→(∀q∈path,Nz q)→(∀q∈path,q∈L)→∀{u v},Vl L a u→Vl L b v→Vl L x (lfB op u v):=by
 induction h with
 | leaf ht=>intro hs hz hm u v hu hv;cases hu;exact tk_vl hL ht hs hz hm hv
 | @node p a b c path x1 b1 x2 b2 hp _ _ _ _ _ iha ihb =>
  intro hs hz hm u v hu hv
  rw[Bool.or_eq_false_iff] at hs
  cases hu with
  | left hq hu=>exact vl_jn (.inl ⟨hq,iha hs.1 (nz_snoc hz (pOk_Nz hp)) (sub_snocL hm hq) hu hv⟩)
  | right hq hu=>exact vl_jn (.inr ⟨hq,ihb hs.2 (nz_snoc hz (Nz_flp (pOk_Nz hp))) (sub_snocL hm hq) hu hv⟩)
theorem Lf.vl{s:Sol}{Q:List Pl}{i:Bool}(h:Lf s Q i){L:List Pl}:(∀q∈Q,q∈L)→Vl L s i:=by
 induction h with
 | leaf=>intro _;exact .leaf
 | left _ ih=>intro h;exact .left (h _ (by simp)) (ih fun q hq=>h q (by simp[hq]))
 | right _ ih=>intro h;exact .right (h _ (by simp)) (ih fun q hq=>h q (by simp[hq]))
theorem Rt.lf{s:Sol}{Q:List Pl}{i:Bool}(h:Lf s Q i):∀{path:List Pl},Rt s path→Opn path→(∀q∈path,Nz q)→Opn (path++Q)∧∀q∈path++Q,Nz q:=by
 induction h with
 | leaf=>intro path _ ho hz;rw[List.append_nil];exact⟨ho,hz⟩
 | @left p a b Q i _ ih =>
  intro path hr ho hz
  cases hr with
  | node hp _ h3 _ ha _ =>
   have:=ih ha (.snoc ho h3) (nz_snoc hz (pOk_Nz hp))
   simpa using this
 | @right p a b Q i _ ih =>
  intro path hr ho hz
  cases hr with
  | node hp _ _ h5 _ hb =>
   have:=ih hb (.snoc ho h5) (nz_snoc hz (Nz_flp (pOk_Nz hp)))
   simpa using this
inductive Red:Sol→Prop
 | leaf {i}:Red (lfS i)
 | node {p a b}:Red a→Red b→jnB a b=false→Red (.mk false p [a,b])
theorem red_jn{p:Pl}{x y:Sol}(hx:Red x)(hy:Red y):Red (jn p x y):=by
 unfold jn
 cases h:jnB x y with
 | true=>rw[if_pos rfl];exact .leaf
 | false=>rw[if_neg (by simp)];exact .node hx hy h
theorem Tk.red{op:Int}{inn:Bool}{b:Sol}{path:List Pl}{x:Sol}{sb:Bool}(h:Tk op inn b path x sb):Red x:=by
 induction h with
 | leaf=>exact .leaf
 | one _ _ ih=>exact ih
 | two _ _ _ ih=>exact ih
 | deep=>exact .leaf
 | node _ _ _ _ _ _ iha ihb=>exact red_jn iha ihb
theorem Pt2.red{op:Int}{a b:Sol}{path:List Pl}{x:Sol}{sb:Bool}(h:Pt2 op a b path x sb):Red x:=by
 induction h with
 | leaf h=>exact h.red
 | node _ _ _ _ _ _ iha ihb=>exact red_jn iha ihb
theorem red_all{x:Sol}(h:Red x){v:Bool}:(∀Q i,Lf x Q i→i=v)→x=lfS v:=by
 induction h with
 | leaf=>intro h;rw[h [] _ .leaf]
 | node _ _ hj iha ihb =>
  intro h
  rw[iha fun Q i hl=>h _ i (.left hl),ihb fun Q i hl=>h _ i (.right hl)] at hj
  unfold jnB isLf lfS at hj;simp[Sol.kids,Sol.inn] at hj
theorem dp_jn{p:Pl}{x y:Sol}{d:Nat}(hx:Dp x d)(hy:Dp y d):Dp (jn p x y) (d+1):=by
 unfold jn
 split
 ·exact .leaf
 ·exact .node hx hy
theorem Tk.dp{op:Int}{inn:Bool}{b:Sol}{path:List Pl}{x:Sol}{sb:Bool}(h:Tk op inn b path x sb):∀{d},Dp b d→Dp x d∧(path.length+d≤24→sb=false):=by
 induction h with
 | leaf=>intro d _;exact⟨.leaf,fun _=>rfl⟩
 | one _ _ ih =>
  intro d hd
  cases hd with
  | node ha _=>obtain⟨h1,h2⟩:=ih ha;exact⟨h1.up (by omega),fun h=>h2 (by omega)⟩
 | two _ _ _ ih =>
  intro d hd
  cases hd with
  | node _ hb=>obtain⟨h1,h2⟩:=ih hb;exact⟨h1.up (by omega),fun h=>h2 (by omega)⟩
 | deep _ _ h24 =>
  intro d hd
  cases hd with
  | node _ _=>exact⟨.leaf,fun h=>by omega⟩
 | node _ _ _ _ _ _ iha ihb =>
  intro d hd
  cases hd with
  | node ha hb =>
   obtain⟨h1,h2⟩:=iha ha
   obtain⟨h3,h4⟩:=ihb hb
   refine⟨dp_jn h1 h3,fun h=>?_⟩
   simp only[List.length_append,List.length_singleton] at h2 h4
   rw[h2 (by omega),h4 (by omega)];rfl
theorem Pt2.dp{op:Int}{a b:Sol}{path:List Pl}{x:Sol}{sb:Bool}(h:Pt2 op a b path x sb):∀{d e},Dp a d→Dp b e→Dp x (d+e)∧(path.length+d+e≤24→sb=false):=by
 induction h with
 | leaf h =>
  intro d e _ hb
  obtain⟨h1,h2⟩:=h.dp hb
  exact⟨h1.up (by omega),fun h=>h2 (by omega)⟩
 | node _ _ _ _ _ _ iha ihb =>
  intro d e hd he
  cases hd with
  | @node _ _ _ _ d ha hb =>
   obtain⟨h1,h2⟩:=iha ha he
   obtain⟨h3,h4⟩:=ihb hb he
   have:=dp_jn (p:=‹Pl›) h1 h3
   refine⟨?_,fun h=>?_⟩
   ·rw[show d+1+e=d+e+1 by omega];exact dp_jn h1 h3
   ·simp only[List.length_append,List.length_singleton] at h2 h4
    rw[h2 (by omega),h4 (by omega)];rfl
end Evl.T
namespace Evl.T
open Go Evl
def pr (y:Sol)(sb:Bool):Sol×Bool:=if sb=false∧nod y≤300 then (y,true) else (lfS false,false)
theorem pr_ok{y:Sol}{sb:Bool}:(pr y sb).2=true↔sb=false∧nod y≤300:=by unfold pr;split <;> simp_all
theorem pr_yes{y:Sol}{sb:Bool}(h:(pr y sb).2=true):pr y sb=(y,true)∧sb=false∧nod y≤300:=by
 have:=pr_ok.1 h
 exact⟨if_pos this,this⟩
theorem putE{a b:Sol}(ha:Right a)(hb:Right b){op:Int}(ho:rIn op 1 4=true):∃y sb,Pt2 op a b [] y sb∧Ev fun n=>Dp_Put n a b op=some (pr y sb)∧Di_Put n a b op=some (pr y sb):=by
 obtain⟨x,ok,hB,nx,-,hpt,hE⟩:=putEq a b ha.1.bin.lens hb.1.bin.lens op
 obtain⟨y,sb,h1,h2,h3,h4⟩:=hpt ⟨ha,hb,ho⟩
 have e:pr y sb=(x,ok):=by
  unfold pr
  cases ok with
  | true=>rw[if_pos (h2.1 rfl),h3 rfl]
  | false=>rw[if_neg (fun h=>by have:=h2.2 h;cases this),h4 rfl]
 exact⟨y,sb,h1,by rw[e];exact hE⟩
theorem pr_right{op:Int}{a b y:Sol}{sb:Bool}(h:Pt2 op a b [] y sb):Right (pr y sb).1:=by
 unfold pr
 split
 ·rename_i hc;exact⟨h.rt,hc.2⟩
 ·exact⟨.leaf rfl,by rw[show nod (lfS false)=0 from nod_leaf _ _];omega⟩
end Evl.T
namespace Evl.T
open Go Evl
theorem vl_lf{L:List Pl}{s:Sol}{v:Bool}(h:Vl L s v):∀{l},Rt s l→∃Q,Lf s Q v:=by
 induction h with
 | leaf=>intro l _;exact⟨_,.leaf⟩
 | left _ _ ih =>
  intro l hr
  cases hr with
  | node _ _ _ _ ha _=>obtain⟨Q,h⟩:=ih ha;exact⟨_,.left h⟩
 | right _ _ ih =>
  intro l hr
  cases hr with
  | node _ _ _ _ _ hb=>obtain⟨Q,h⟩:=ih hb;exact⟨_,.right h⟩
theorem leaves'{s:Sol}(hr:Rt s []){S:List Pl}(hS:∀p∈S,Nz p){v:Bool}(h:∀L,Con L→(∀p∈S,p∈L∨flp p∈L)→∀u,Vl L s u→u=v){Q:List Pl}{i:Bool}(hl:Lf s Q i):i=v:=by
 obtain⟨ho,hz⟩:=Rt.lf hl hr .nil (by simp)
 rw[List.nil_append] at ho hz
 obtain⟨L,h1,h2,h3⟩:=con_ext (ho.con hz) S hS
 exact h L h2 h3 i (hl.vl h1)
def Sem (op:Int)(a b:Sol):Prop:=∀L,Con L→∀u v,Vl L a u→Vl L b v→lfB op u v=false
theorem sem_none{op:Int}{a b y:Sol}(ha:Rt a [])(hb:Rt b [])(h:Pt2 op a b [] y false):(¬∃Q,Lf y Q true)↔Sem op a b:=by
 constructor
 ·intro hn L hL u v hu hv
  cases he:lfB op u v with
  | false=>rfl
  | true =>
   have:=pt_vl hL h rfl (by simp) (by simp) hu hv
   rw[he] at this
   exact absurd (vl_lf this h.rt) hn
 ·rintro hs ⟨Q,hQ⟩
  obtain⟨S,s1,s2⟩:=ha.pls
  obtain⟨T,t1,t2⟩:=hb.pls
  have:=leaves' h.rt (S:=S++T) (fun p hp=>by
   rcases List.mem_append.1 hp with hp | hp
   ·exact s1 p hp
   ·exact t1 p hp) (v:=false) (fun L hL hd w hw=>by
   obtain⟨u,hu⟩:=(s2 L fun p hp=>hd p (by simp[hp])).vl
   obtain⟨v,hv⟩:=(t2 L fun p hp=>hd p (by simp[hp])).vl
   have:=pt_vl hL h rfl (by simp) (by simp) hu hv
   rw[hs L hL u v hu hv] at this
   exact(this.eq hL hw)) hQ
  cases this
theorem sem_leaf{op:Int}{a b y:Sol}(ha:Rt a [])(hb:Rt b [])(h:Pt2 op a b [] y false)(hs:Sem op a b):y=lfS false:=by
 refine red_all h.red fun Q i hl=>?_
 cases i with
 | false=>rfl
 | true=>exact absurd ⟨Q,hl⟩ ((sem_none ha hb h).2 hs)
theorem hStepI'(n:Nat)(self:Sol×Bool→Option Bool)(i:Bool)(p:Pl)(k:List Sol)(b:Bool):Di_Solid_has_b n self (.mk i p k,b)=frk ((k.length:Int)==0) (some (i==b)) ((lget k 0).bind fun v1=>(self (v1,b)).bind fun v2=>frk v2 (some true) ((lget k 1).bind fun v3=>(self (v3,b)).bind fun v4=>some v4)):=rfl
open Classical in
theorem iHas{s:Sol}{l:List Pl}(h:Rt s l)(b:Bool):E2 fun n m=>loopN (Di_Solid_has_b n) m (s,b)=some (decide (∃Q,Lf s Q b)):=by
 induction h with
 | @leaf i p _ _ =>
  have e:decide (∃Q,Lf (.mk i p []) Q b)=(i==b):=by
   rw[Bool.eq_iff_iff,decide_eq_true_iff,beq_iff_eq]
   exact⟨fun ⟨Q,h⟩=>by cases h;rfl,fun h=>by subst h;exact⟨_,.leaf⟩⟩
  rw[e]
  exact E2.suc (E2.of fun n m=>by rw[loop_suc,hStepI'];rfl)
 | @node p a c _ _ _ _ _ _ _ iha ihb =>
  have e:decide (∃Q,Lf (.mk false p [a,c]) Q b)=(decide (∃Q,Lf a Q b)||decide (∃Q,Lf c Q b)):=by
   rw[Bool.eq_iff_iff,Bool.or_eq_true,decide_eq_true_iff,decide_eq_true_iff,decide_eq_true_iff]
   constructor
   ·rintro⟨Q,h⟩
    cases h with
    | left h=>exact .inl ⟨_,h⟩
    | right h=>exact .inr ⟨_,h⟩
   ·rintro(⟨Q,h⟩ | ⟨Q,h⟩)
    ·exact⟨_,.left h⟩
    ·exact⟨_,.right h⟩
  rw[e]
  generalize decide (∃Q,Lf a Q b)=v at *
  generalize decide (∃Q,Lf c Q b)=w at *
  refine E2.suc ((iha.and ihb).mono fun n m ⟨h2,h4⟩=>?_)
  rw[loop_suc,hStepI',show ((([a,c]:List Sol).length:Int)==0)=false from rfl,frk_f]
  show ((some a).bind _)=_
  rw[oBs,h2,oBs]
  cases v
  ·rw[frk_f];show ((some c).bind _)=_;rw[oBs,h4];rfl
  ·rfl
open Classical in
theorem nothingE{a b:Sol}(ha:Right a)(hb:Right b){op:Int}(ho:rIn op 1 4=true){y:Sol}{sb:Bool}(h:Pt2 op a b [] y sb)(hE:Ev fun n=>Di_Put n a b op=some (pr y sb)) :
  Ev fun n=>Di_isNothing n a b op=some ((pr y sb).2&&decide (Sem op a b)):=by
 have hr:=pr_right h
 refine(hE.and (iHas hr.1 true).ev).mono fun n ⟨h1,h2⟩=>?_
 have h2':Di_Solid_has n (pr y sb).1 true=_:=h2
 unfold Di_isNothing
 rw[h1,oBs,h2',oBs]
 cases hk:(pr y sb).2 with
 | false=>rfl
 | true =>
  rw[frk_t,Bool.true_and]
  obtain⟨e1,e2,e3⟩:=pr_yes hk
  subst e2
  rw[e1]
  have:=sem_none ha.1 hb.1 h
  congr 1
  rw[Bool.eq_iff_iff,Bool.not_eq_true',decide_eq_false_iff_not,decide_eq_true_iff]
  exact this
open Classical in
theorem nothingT{a b:Sol}(ha:Right a)(hb:Right b){op:Int}(ho:rIn op 1 4=true){d e:Nat}(hd:Dp a d)(he:Dp b e)(hde:d+e≤24)(hs:Sem op a b):Ev fun n=>Di_isNothing n a b op=some true:=by
 obtain⟨y,sb,h,hE⟩:=putE ha hb ho
 have hsb:sb=false:=(h.dp hd he).2 (by simp;omega)
 subst hsb
 have hy:=sem_leaf ha.1 hb.1 h hs
 have:=nothingE ha hb ho h (hE.mono fun n h=>h.2)
 rw[decide_eq_true hs,pr_ok.2 ⟨rfl,by rw[hy,show nod (lfS false)=0 from nod_leaf _ _];omega⟩] at this
 exact this
end Evl.T
namespace Evl.T
open Go Evl
theorem big_small{l:List Int}(h:l.length≤1048576):Dlaws_big l=some false:=by unfold Dlaws_big;rw[dec_f (by omega)]
theorem big_big{l:List Int}(h:¬l.length≤1048576):Dlaws_big l=some true:=by unfold Dlaws_big;rw[dec_t (by omega)]
theorem lfB_one(a b:Bool):lfB 4 a b=!(a==b):=by cases a <;> cases b <;> rfl
end Evl.T
namespace Evl.T
open Go Evl
theorem newStep(n:Nat)(l:List Int)(rec0:(Int×Int)→Option Cur)(a b:Int):Dp_l1New_1 n l rec0 (a,b)=frk (decide (b<(l.length:Int))) (Dp_l1New_0 n rec0 l a b (decide (b<4000))) (some (l,0,a)):=rfl
theorem newLoop(l:List Int)(hl:l.length≤1048576):∀(k i:Nat) (a:Int),i+k=l.length→∃c,(∀n m,k<m→loopN (Dp_l1New_1 n l) m (a,(i:Int))=some c)∧CurOk c:=by
 intro k
 induction k with
 | zero =>
  intro i a h
  refine⟨(l,0,a),fun n m hm=>?_,by show 0≤(0:Int);omega,by show (0:Int)≤(l.length:Int);omega,hl⟩
  obtain⟨m,rfl⟩:∃j,m=j+1:=⟨m-1,by omega⟩
  rw[loop_suc,newStep,dec_f (by omega),frk_f]
 | succ k ih =>
  intro i a h
  by_cases h4:(i:Int)<4000
  ·have hg:=List.getElem?_eq_getElem (show i<l.length by omega)
   obtain⟨c,g1,g2⟩:=ih (i+1) (bAnd .i64 (w64 ((w64 ((w64 (a*137))+(w64 l[i])))+11)) 1073741823) (by omega)
   refine⟨c,fun n m hm=>?_,g2⟩
   obtain⟨m,rfl⟩:∃j,m=j+1:=⟨m-1,by omega⟩
   rw[loop_suc,newStep,dec_t (by omega),frk_t]
   unfold Dp_l1New_0
   rw[dec_t h4,frk_t,lget_nat,hg,oBs,w64_suc (by unfold big;omega)]
   exact g1 n m (by omega)
  ·refine⟨(l,0,a),fun n m hm=>?_,by show 0≤(0:Int);omega,by show (0:Int)≤(l.length:Int);omega,hl⟩
   obtain⟨m,rfl⟩:∃j,m=j+1:=⟨m-1,by omega⟩
   rw[loop_suc,newStep,dec_t (by omega),frk_t]
   unfold Dp_l1New_0
   rw[dec_f h4,frk_f]
theorem newOk{l:List Int}(hl:l.length≤1048576):∃c,(∀n,l.length<n→Dp_l1New n l=some c)∧CurOk c:=by
 obtain⟨c,g1,g2⟩:=newLoop l hl l.length 0 (w64 (142142+(l.length:Int))) (by omega)
 exact⟨c,fun n hn=>g1 n n hn,g2⟩
end Evl.T
namespace Evl.T
open Go Evl
theorem any_gt(l:List Pl)(f:Pl→Bool):((List.range' 0 l.length).any fun i=>f (gt l i))=l.any f:=by
 rw[Bool.eq_iff_iff,List.any_eq_true,List.any_eq_true]
 constructor
 ·rintro⟨i,hi,h⟩
  have:i<l.length:=by simpa using hi
  exact⟨_,gt_mem this,h⟩
 ·rintro⟨x,hx,h⟩
  obtain⟨i,hi,e⟩:=List.getElem_of_mem hx
  refine⟨i,by simpa using hi,?_⟩
  have:=gt_some hi
  rw[List.getElem?_eq_getElem hi] at this
  rw[←Option.some.inj this,e];exact h
theorem all_any(l:List Pl)(f:Pl→Bool):l.all f=!l.any fun x=>!f x:=by
 induction l with
 | nil=>rfl
 | cons x l ih=>simp only[List.all_cons,List.any_cons,ih,Bool.not_or,Bool.not_not]
theorem all_mem{l:List Pl}(h:l.all pOk=true):∀q∈l,pOk q=true:=List.all_eq_true.1 h
theorem sRightL(l:List Pl)(hb:l.length≤big):Ev fun n=>Dp_l6Right n l=some (l.all pOk&&decide ((l.length:Int)≤24)):=by
 refine(e_ge (l.length+502)).mono fun n hn=>?_
 have h:=search (F:=Dp_l6Right_0 n l) (len:=l.length) (b:=fun i=>!pOk (gt l i)) (hit:=some false) (miss:=some (decide ((l.length:Int)≤24))) hb ?_ ?_ l.length 0 n (by omega) (by omega)
 ·show loopN _ _ _=_
  rw[show (0:Int)=((0:Nat):Int) from rfl,h,any_gt l fun x=>!pOk x,all_any]
  cases l.any fun x=>!pOk x <;> rfl
 ·intro rec i hi
  unfold Dp_l6Right_0
  simp only[lt_dec hi,frk_t,lget_nat,gt_some hi,oBs,sPlaneOk n _ (by omega)]
  cases pOk (gt l i) <;> rfl
 ·intro rec
  unfold Dp_l6Right_0
  simp only[lt_self,frk_f]
def opB (l:List Pl):Bool:=!(List.range' 0 l.length).any fun i=>wth (l.take i) (gt l i)
theorem sOpenL(l:List Pl)(hl:∀q∈l,PB q)(hb:l.length≤big):Ev fun n=>Dp_l6Open n l=some (opB l):=by
 refine(e_ge (l.length+502)).mono fun n hn=>?_
 have e:opB l=!(List.range' 1 (l.length-1)).any fun i=>wth (l.take i) (gt l i):=by
  unfold opB
  cases l with
  | nil=>rfl
  | cons x l=>simp only[List.length_cons,List.range'_succ,List.any_cons,Nat.add_sub_cancel];rfl
 have hF:∀rec (i:Nat),i<l.length→Dp_l6Open_0 n l rec (i:Int)=cond (wth (l.take i) (gt l i)) (some false) (rec (w64 ((i:Int)+1))):=by
  intro rec i hi
  unfold Dp_l6Open_0
  simp only[lt_dec hi,frk_t,lget_nat,gt_some hi,oBs,lsl_take l i (by omega)]
  rw[sWith (l.take i) (gt l i) (fun q hq=>hl q (List.mem_of_mem_take hq)) (hl _ (gt_mem hi)) (by rw[List.length_take];omega) n (by rw[List.length_take];omega),oBs,frk_cond]
 have hE:∀rec,Dp_l6Open_0 n l rec (l.length:Int)=some true:=by
  intro rec
  unfold Dp_l6Open_0
  simp only[lt_self,frk_f]
 show loopN _ _ _=_
 cases hc:l with
 | nil =>
  obtain⟨m,rfl⟩:∃m,n=m+1:=⟨n-1,by omega⟩
  rw[loop_suc];rfl
 | cons x r =>
  rw[←hc]
  have hlen:l.length=r.length+1:=by rw[hc];rfl
  have h:=search (F:=Dp_l6Open_0 n l) (len:=l.length) (b:=fun i=>wth (l.take i) (gt l i)) (hit:=some false) (miss:=some true) hb hF hE (l.length-1) 1 n (by omega) (by omega)
  rw[show (1:Int)=((1:Nat):Int) from rfl,h,e]
  cases (List.range' 1 (l.length-1)).any fun i=>wth (l.take i) (gt l i) <;> rfl
theorem opn_of{l:List Pl}(h:opB l=true):Opn l:=by
 have key:∀k,k≤l.length→Opn (l.take k):=by
  intro k
  induction k with
  | zero=>intro _;exact .nil
  | succ k ih =>
   intro hk
   have e:l.take (k+1)=l.take k++[gt l k]:=by rw[List.take_add_one,gt_some (by omega)];rfl
   rw[e]
   refine .snoc (ih (by omega)) ?_
   unfold opB at h
   simp only[Bool.not_eq_true',List.any_eq_false] at h
   simpa using h k (by simp;omega)
 have:=key l.length (Nat.le_refl _)
 rwa [List.take_length] at this
theorem wth_mono{r l:List Pl}{p:Pl}(hs:r.Sublist l)(h:wth l p=false):wth r p=false:=by
 cases hr:wth r p with
 | false=>rfl
 | true =>
  have:wth l p=true:=by
   rw[wth_sub] at hr ⊢
   rcases hr with ⟨q,h1,h2⟩ | ⟨q,r,h1,h2⟩ | ⟨q,r,s,h1,h2⟩
   ·exact .inl ⟨q,h1.trans hs,h2⟩
   ·exact .inr (.inl ⟨q,r,h1.trans hs,h2⟩)
   ·exact .inr (.inr ⟨q,r,s,h1.trans hs,h2⟩)
  rw[h] at this;cases this
def cvK:List Pl→List Pl→List Pl
 | [],_=>[]
 | p::r,path=>if wth path (flp p) then cvK r path else p::cvK r (path++[p])
def cvN (p:Pl)(s:Sol):Sol:=.mk false p [s,lfS false]
def cvT (k:List Pl):Sol:=k.foldr cvN (lfS true)
def Cnd (path l:List Pl):Prop:=∀l1 p l2,l=l1++p::l2→∀s:List Pl,s.Sublist l1→wth (path++s) p=false
theorem Cnd.head{path l:List Pl}{p:Pl}(h:Cnd path (p::l)):wth path p=false:=by
 have:=h [] p l rfl [] (List.Sublist.refl _)
 simpa using this
theorem Cnd.tail{path l:List Pl}{p:Pl}(h:Cnd path (p::l)):Cnd path l:=fun l1 q l2 e s hs=>h (p::l1) q l2 (by rw[e];rfl) s (hs.cons p)
theorem Cnd.more{path l:List Pl}{p:Pl}(h:Cnd path (p::l)):Cnd (path++[p]) l:=fun l1 q l2 e s hs=>by
 have:=h (p::l1) q l2 (by rw[e];rfl) (p::s) (hs.cons_cons p)
 simpa using this
theorem cnd_of{l:List Pl}(h:Opn l):Cnd [] l:=fun l1 p l2 e s hs=>by
 obtain⟨l',h1,h2⟩:=h.last (r:=s) (p:=p) (by
  rw[e,show l1++p::l2=(l1++[p])++l2 by simp]
  exact(hs.append (List.Sublist.refl _)).trans (List.sublist_append_left _ _))
 exact wth_mono h1 h2
theorem cvT_rt:∀(l path:List Pl),Cnd path l→(∀q∈l,pOk q=true)→path.length+l.length≤24→Rt (cvT (cvK l path)) path:=by
 intro l
 induction l with
 | nil=>intro path _ _ _;exact .leaf rfl
 | cons p l ih =>
  intro path hc hp hl
  simp only[List.length_cons] at hl
  rw[cvK]
  cases hw:wth path (flp p) with
  | true=>rw[if_pos rfl];exact ih path hc.tail (fun q hq=>hp q (by simp[hq])) (by omega)
  | false =>
   rw[if_neg (by simp)]
   exact .node (hp p (by simp)) (by omega) hc.head hw (ih _ hc.more (fun q hq=>hp q (by simp[hq])) (by rw[List.length_append,List.length_singleton];omega)) (.leaf rfl)
theorem cvK_len:∀(l path:List Pl),(cvK l path).length≤l.length:=by
 intro l
 induction l with
 | nil=>intro path;exact Nat.le_refl _
 | cons p l ih =>
  intro path
  rw[cvK]
  split
  ·have:=ih path;rw[List.length_cons];omega
  ·have:=ih (path++[p]);rw[List.length_cons,List.length_cons];omega
theorem cvT_nod:∀k:List Pl,nod (cvT k)=k.length:=by
 intro k
 induction k with
 | nil=>exact nod_leaf _ _
 | cons p k ih =>
  show nod (.mk false p [cvT k,lfS false])=_
  rw[nod2,ih,show nod (lfS false)=0 from nod_leaf _ _,List.length_cons];omega
theorem cvT_right{l:List Pl}(ho:Opn l)(hp:∀q∈l,pOk q=true)(hl:l.length≤24):Right (cvT (cvK l [])):=by
 refine⟨cvT_rt l [] (cnd_of ho) hp (by simpa using hl),?_⟩
 rw[cvT_nod]
 have:=cvK_len l [];omega
theorem sCvStep(n:Nat)(self:List Pl×List Pl→Option Sol)(l path:List Pl)(rec:Int→Option Sol)(k:Nat)(p:Pl)(h1:k<l.length)(h2:l[k]?=some p):Dp_l9Convex_2 n self l path false 0 0 0 0 rec (k:Int) =
  ((Dp_l3Flip p).bind fun v1=>(Dp_l6With n path v1).bind fun v2=>frk (!v2) ((Dp_l6With n path p).bind fun v4=>frk (!v4) ((lsl l (w64 ((k:Int)+1)) (l.length:Int)).bind fun v6=>(Dp_l8Path path p).bind fun v8=>(self (v6,v8)).bind fun v9=>some (cvN p v9)) (rec (w64 ((k:Int)+1)))) (rec (w64 ((k:Int)+1)))):=by
 unfold Dp_l9Convex_2
 dsimp only
 rw[lt_dec h1,frk_t,lget_nat,h2,oBs]
 unfold Dp_l9Convex_0
 rw[lget_nat,h2]
 rfl
theorem sConvexIn:∀(r path:List Pl),Cnd path r→(∀q∈r,PB q)→(∀q∈path,PB q)→path.length+r.length≤24→E2 fun n m=>∀(l:List Pl) (k j:Nat),l.drop k=r→l.length≤24→r.length<j →
  loopN (Dp_l9Convex_2 n (loopN (Dp_l9Convex_b n) m) l path false 0 0 0 0) j (k:Int)=some (cvT (cvK r path)):=by
 intro r
 induction r with
 | nil =>
  intro path _ _ _ _
  refine E2.of fun n m l k j hr hl hj=>?_
  obtain⟨j,rfl⟩:∃i,j=i+1:=⟨j-1,by omega⟩
  have hk:l.length≤k:=List.drop_eq_nil_iff.1 hr
  have hd:decide ((k:Int)<(l.length:Int))=false:=decide_eq_false (by omega)
  rw[loop_suc]
  simp only[Dp_l9Convex_2,hd,frk_f];rfl
 | cons p r ih =>
  intro path hc hp hpa hlen
  simp only[List.length_cons] at hlen
  have hpb:PB p:=hp p (by simp)
  have hw0:∀n:Nat,40≤n→Dp_l6With n path (flp p)=some (wth path (flp p)):=fun n hn=>sWith path (flp p) hpa (flp_PB hpb) (by unfold big;omega) n (by omega)
  have hw1:∀n:Nat,40≤n→Dp_l6With n path p=some false:=fun n hn=>by rw[sWith path p hpa hpb (by unfold big;omega) n (by omega),hc.head]
  cases hw:wth path (flp p) with
  | true =>
   have i1:=ih path hc.tail (fun q hq=>hp q (by simp[hq])) hpa (by omega)
   refine(i1.and (e2_ge 40)).mono fun n m ⟨i1,hn,_⟩ l k j hr hl hj=>?_
   simp only[List.length_cons] at hj
   obtain⟨j,rfl⟩:∃i,j=i+1:=⟨j-1,by omega⟩
   obtain⟨h1,h2,h3,-⟩:=drop_get hr
   rw[loop_suc]
   rw[sCvStep n _ l path _ k p h1 h2,sFlip p hpb,oBs,hw0 n hn,oBs,hw,Bool.not_true,frk_f,w64_suc (show k<big by unfold big;omega),i1 l (k+1) j h3 hl (by omega)]
   rw[cvK,hw,if_pos rfl]
  | false =>
   have i1:=ih (path++[p]) hc.more (fun q hq=>hp q (by simp[hq])) (path_PB hpa hpb) (by rw[List.length_append,List.length_singleton];omega)
   refine E2.suc ((i1.and (e2_ge 40)).mono fun n m ⟨i1,hn,_⟩ l k j hr hl hj=>?_)
   simp only[List.length_cons] at hj
   obtain⟨j,rfl⟩:∃i,j=i+1:=⟨j-1,by omega⟩
   obtain⟨h1,h2,h3,-⟩:=drop_get hr
   have hsl:lsl l ((k+1:Nat):Int) (l.length:Int)=some r:=by
    unfold lsl
    rw[if_pos ⟨by omega,by omega,by omega⟩,Int.toNat_natCast,Int.toNat_natCast,h3,List.take_of_length_le (by rw[←h3,List.length_drop];omega)]
   rw[loop_suc]
   rw[sCvStep n _ l path _ k p h1 h2,sFlip p hpb,oBs,hw0 n hn,oBs,hw,Bool.not_false,frk_t,hw1 n hn,oBs,Bool.not_false,frk_t,w64_suc (show k<big by unfold big;omega),hsl,oBs,sPath path p (by omega),oBs]
   rw[loop_suc]
   have this:loopN (Dp_l9Convex_2 n (loopN (Dp_l9Convex_b n) m) r (path++[p]) false 0 0 0 0) n 0=_:=i1 r 0 n rfl (by omega) (by omega)
   show ((loopN (Dp_l9Convex_2 n (loopN (Dp_l9Convex_b n) m) r (path++[p]) false 0 0 0 0) n 0).bind _)=_
   rw[this,oBs,cvK,hw,if_neg (by simp)]
   rfl
theorem sConvexT{l:List Pl}(ho:Opn l)(hp:∀q∈l,PB q)(hl:l.length≤24):Ev fun n=>Dp_l9Convex n l []=some (cvT (cvK l [])):=by
 have:=sConvexIn l [] (cnd_of ho) hp (by simp) (by simpa using hl)
 have h2:E2 fun n m=>loopN (Dp_l9Convex_b n) m (l,[])=some (cvT (cvK l [])):=by
  refine E2.suc ((this.and (e2_ge 40)).mono fun n m ⟨h,hn,_⟩=>?_)
  rw[loop_suc]
  exact h l 0 n rfl hl (by omega)
 exact h2.ev
def cvR (l:List Pl):Sol×Int:=if !(l.all pOk&&decide ((l.length:Int)≤24)) then (lfS false,1) else if !opB l then (lfS false,2) else (cvT (cvK l []),0)
theorem sConvex(l:List Pl)(hb:l.length≤big):Ev fun n=>Dp_Convex n l=some (cvR l):=by
 unfold cvR
 have e1:=sRightL l hb
 cases hc:(l.all pOk&&decide ((l.length:Int)≤24)) with
 | false =>
  refine e1.mono fun n h1=>?_
  simp only[Dp_Convex,h1,hc,oBs,Bool.not_false,frk_t,if_true];rfl
 | true =>
  simp only[bAt,decide_eq_true_eq] at hc
  have hp:∀q∈l,PB q:=fun q hq=>pOk_PB (all_mem hc.1 q hq)
  have hc':(l.all pOk&&decide ((l.length:Int)≤24))=true:=by simp only[bAt,decide_eq_true_eq];exact hc
  have e2:=sOpenL l hp hb
  cases ho:opB l with
  | false =>
   refine(e1.and e2).mono fun n ⟨h1,h2⟩=>?_
   simp only[Dp_Convex,h1,h2,hc',ho,sLeaf,oBs,Bool.not_true,Bool.not_false,frk_t,frk_f,if_true];rfl
  | true =>
   have e3:=sConvexT (opn_of ho) hp (by omega)
   refine(e1.and (e2.and e3)).mono fun n ⟨h1,h2,h3⟩=>?_
   simp only[Dp_Convex,h1,h2,h3,hc',ho,oBs,Bool.not_true,frk_f];rfl
theorem lf_right(b:Bool):Right (lfS b):=⟨.leaf rfl,by rw[show nod (lfS b)=0 from nod_leaf _ _];omega⟩
theorem cvR_right(l:List Pl):Right (cvR l).1:=by
 unfold cvR
 split
 ·exact lf_right _
 ·rename_i h
  split
  ·exact lf_right _
  ·rename_i h2
   simp only[Bool.not_eq_true',Bool.not_eq_false,bAt,decide_eq_true_eq] at h h2
   exact cvT_right (opn_of h2) (all_mem h.1) (by omega)
end Evl.T
namespace Evl.T
open Go Evl
structure SpOk(q:Spot):Prop where
 w:1≤q.W∧q.W≤1000000000
 x:q.X.natAbs≤1000000000
 y:q.Y.natAbs≤1000000000
 z:q.Z.natAbs≤1000000000
 g:Nat.gcd (Nat.gcd (Nat.gcd q.X.natAbs q.Y.natAbs) q.Z.natAbs) q.W.natAbs=1
end Evl.T
namespace Evl.T
open Go Evl
theorem growLeaf(path:List Pl){k:Cur}(h:CurOk k) :
  ∃s k',(∀(n:Nat) (self:(Cur×List Pl×Int)→Option (Sol×Cur)),Dp_l8Grow_2 n self false 0 0 0 0 k.1 k.2.1 k.2.2=some (s,k'))∧Rt s path∧nod s=0∧(∀d,Dp s d)∧CurOk k':=by
 obtain⟨b,k1,e,h1⟩:=onceOk (c:=(k.1,k.2.1,k.2.2)) h (a:=2) (by omega) (by omega)
 refine⟨_,_,fun n self=>?_,.leaf (i:=b) (p:=⟨0,0,0,0⟩) rfl,nod_leaf _ _,fun _=>.leaf,h1⟩
 unfold Dp_l8Grow_2
 rw[e,oBs];rfl
theorem growStep(n:Nat)(self:(Cur×List Pl×Int)→Option (Sol×Cur))(path:List Pl)(t:Int)(rec0:(Int×Cur)→Option (Sol×Cur))(j:Int)(k:Cur) :
  Dp_l8Grow_3 n self path t false 0 0 0 0 rec0 (j,k)=frk (decide (j<3)) (Dp_l8Grow_0 n self rec0 path t false 0 0 0 0 j (decide (t>0)) k.1 k.2.1 k.2.2) (Dp_l8Grow_2 n self false 0 0 0 0 k.1 k.2.1 k.2.2):=rfl
theorem growOk:∀(d:Nat) (path:List Pl) (t:Int) (k:Cur),path.length+d≤24→(∀q∈path,PB q)→t≤d→-1000≤t→CurOk k →
  ∃s k',(∀n m,1000≤n→d<m→loopN (Dp_l8Grow_b n) m (k,path,t)=some (s,k'))∧Rt s path∧nod s+1≤2 ^ d∧Dp s d∧CurOk k':=by
 intro d
 induction d with
 | zero =>
  intro path t k hl hp ht ht2 hk
  obtain⟨s,k',e,hR,hN,hD,hk'⟩:=growLeaf path hk
  refine⟨s,k',fun n m hn hm=>?_,hR,by omega,hD _,hk'⟩
  obtain⟨m,rfl⟩:∃j,m=j+1:=⟨m-1,by omega⟩
  rw[loop_suc]
  show loopN (Dp_l8Grow_3 n (loopN (Dp_l8Grow_b n) m) path t false 0 0 0 0) n (0,k)=_
  have key:∀j,loopN (Dp_l8Grow_3 n (loopN (Dp_l8Grow_b n) m) path t false 0 0 0 0) (j+1) (0,k)=some (s,k'):=by
   intro j
   rw[loop_suc,growStep,dec_t (by omega),frk_t]
   unfold Dp_l8Grow_0
   rw[dec_f (by omega),frk_f]
   exact e n _
  have:=key (n-1)
  rwa [show n-1+1=n by omega] at this
 | succ d ih =>
  intro path t k hl hp ht ht2 hk
  have hpow:2 ^ (d+1)=2 ^ d+2 ^ d:=by rw[Nat.pow_succ];omega
  have h2:1≤2 ^ d:=Nat.one_le_two_pow
  have tries:∀(r:Nat) (k:Cur),r≤3→CurOk k→∃s k',(∀n m f,1000≤n→d<m→r<f→loopN (Dp_l8Grow_3 n (loopN (Dp_l8Grow_b n) m) path t false 0 0 0 0) f (((3-r:Nat):Int),k)=some (s,k'))∧Rt s path∧nod s+1≤2 ^ (d+1)∧Dp s (d+1)∧CurOk k':=by
   intro r
   induction r with
   | zero =>
    intro k _ hk
    obtain⟨s,k',e,hR,hN,hD,hk'⟩:=growLeaf path hk
    refine⟨s,k',fun n m f hn hm hf=>?_,hR,by omega,hD _,hk'⟩
    obtain⟨f,rfl⟩:∃j,f=j+1:=⟨f-1,by omega⟩
    rw[loop_suc,growStep,dec_f (by omega),frk_f];exact e n _
   | succ r ihr =>
    intro k hr hk
    have hw3:w64 (((3-(r+1):Nat):Int)+1)=((3-r:Nat):Int):=by rw[w64_id (by omega) (by omega)];omega
    by_cases ht0:t>0
    ·obtain⟨p,k1,e1,hpo,h1⟩:=drawOk (k:=(k.1,k.2.1,k.2.2)) hk
     have hpb:=pOk_PB hpo
     have again:∀(hW:wth path p=true∨(wth path p=false∧wth path (flp p)=true)),∃s k',(∀n m f,1000≤n→d<m→r+1<f→loopN (Dp_l8Grow_3 n (loopN (Dp_l8Grow_b n) m) path t false 0 0 0 0) f (((3-(r+1):Nat):Int),k)=some (s,k'))∧Rt s path∧nod s+1≤2 ^ (d+1)∧Dp s (d+1)∧CurOk k':=by
      intro hW
      obtain⟨s,k',g1,g2,g3,g5,g4⟩:=ihr k1 (by omega) h1
      refine⟨s,k',fun n m f hn hm hf=>?_,g2,g3,g5,g4⟩
      obtain⟨f,rfl⟩:∃j,f=j+1:=⟨f-1,by omega⟩
      have g:=g1 n m f hn hm (by omega)
      rw[loop_suc,growStep,dec_t (by omega),frk_t]
      unfold Dp_l8Grow_0
      rw[dec_t ht0,frk_t,hw3,e1 n hn,oBs]
      simp only[sWith path p hp hpb (by unfold big;omega) n (by omega),oBs]
      rcases hW with hw | ⟨hw,hw2⟩
      ·rw[hw,Bool.not_true,frk_f];exact g
      ·rw[hw,Bool.not_false,frk_t,sFlip p hpb,oBs,sWith path (flp p) hp (flp_PB hpb) (by unfold big;omega) n (by omega),oBs]
       unfold Dp_l8Grow_1
       rw[hw2,Bool.not_true,frk_f];rw[hw3];exact g
     cases hw:wth path p with
     | true=>exact again (.inl hw)
     | false =>
      cases hw2:wth path (flp p) with
      | true=>exact again (.inr ⟨hw,hw2⟩)
      | false =>
       obtain⟨v,k2,e2,hv,h2'⟩:=belowOk (c:=(k1.1,k1.2.1,k1.2.2)) h1 (a:=2) (by omega) (by omega)
       have ev:w64 (w64 (t-1)-v)=t-1-v:=by rw[w64_id (x:=t-1) (by omega) (by omega),w64_id (by omega) (by omega)]
       obtain⟨x,k3,e3,hRx,hNx,hDx,h3⟩:=ih (path++[p]) (t-1-v) k2 (by simp;omega) (path_PB hp hpb) (by omega) (by omega) h2'
       obtain⟨u,k4,e4,hu,h4⟩:=belowOk h3 (a:=2) (by omega) (by omega)
       have eu:w64 (w64 (t-1)-u)=t-1-u:=by rw[w64_id (x:=t-1) (by omega) (by omega),w64_id (by omega) (by omega)]
       obtain⟨y,k5,e5,hRy,hNy,hDy,h5⟩:=ih (path++[flp p]) (t-1-u) k4 (by simp;omega) (path_PB hp (flp_PB hpb)) (by omega) (by omega) h4
       refine⟨.mk false p [x,y],k5,fun n m f hn hm hf=>?_,.node hpo (by omega) hw hw2 hRx hRy,by rw[nod2];omega,.node hDx hDy,h5⟩
       obtain⟨f,rfl⟩:∃j,f=j+1:=⟨f-1,by omega⟩
       rw[loop_suc,growStep,dec_t (by omega),frk_t]
       unfold Dp_l8Grow_0
       rw[dec_t ht0,frk_t,e1 n hn,oBs]
       simp only[sWith path p hp hpb (by unfold big;omega) n (by omega),oBs]
       rw[hw,Bool.not_false,frk_t,sFlip p hpb,oBs,sWith path (flp p) hp (flp_PB hpb) (by unfold big;omega) n (by omega),oBs]
       unfold Dp_l8Grow_1
       rw[hw2,Bool.not_false,frk_t]
       simp only[pl_eq]
       rw[sPath path p (by omega),oBs,e2,oBs]
       simp only[ev,e3 n m hn hm,oBs,sFlip p hpb,sPath path (flp p) (show path.length≤1000 by omega),e4,eu,e5 n m hn hm]
       rfl
    ·obtain⟨s,k',e,hR,hN,hD,hk'⟩:=growLeaf path hk
     refine⟨s,k',fun n m f hn hm hf=>?_,hR,by omega,hD _,hk'⟩
     obtain⟨f,rfl⟩:∃j,f=j+1:=⟨f-1,by omega⟩
     rw[loop_suc,growStep,dec_t (by omega),frk_t]
     unfold Dp_l8Grow_0
     rw[dec_f ht0,frk_f];exact e n _
  obtain⟨s,k',g1,g2,g3,g5,g4⟩:=tries 3 k (by omega) hk
  refine⟨s,k',fun n m hn hm=>?_,g2,g3,g5,g4⟩
  obtain⟨m,rfl⟩:∃j,m=j+1:=⟨m-1,by omega⟩
  rw[loop_suc]
  exact g1 n m n hn (by omega) (by omega)
end Evl.T
namespace Evl.T
open Go Evl
theorem cellStep(n:Nat)(rec0:(Int×List Pl×Cur)→Option (List Pl×Cur))(t:Int)(l:List Pl)(k:Cur) :
  Dp_l6Cell_1 n rec0 (t,l,k)=frk (decide (t>0)) ((Dp_l3Draw n k).bind fun v3=>(Dp_l6With n l v3.1).bind fun v4=>frk (!v4) (chk (apB 32 (l.length+1)) (rec0 (w64 (t-1),(l++[v3.1]),v3.2.1,v3.2.2.1,v3.2.2.2))) (rec0 (w64 (t-1),l,v3.2.1,v3.2.2.1,v3.2.2.2))) (some (l,k)):=rfl
theorem ap32{n:Nat}(h:n≤1000000):apB 32 n=true:=by
 simp only[apB,bAt,decide_eq_true_eq];omega
theorem cellLoop{F:Nat→((Int×List Pl×Cur)→Option (List Pl×Cur))→(Int×List Pl×Cur)→Option (List Pl×Cur)}(hF:∀n rec0 t l k,F n rec0 (t,l,k)=Dp_l6Cell_1 n rec0 (t,l,k)) :
  ∀(j:Nat) (l:List Pl) (k:Cur),(∀q∈l,PB q)→l.length+j≤100→CurOk k→∃l' k',(∀n m,1000≤n→j<m→loopN (F n) m ((j:Int),l,k)=some (l',k'))∧l'.length≤l.length+j∧CurOk k':=by
 intro j
 induction j with
 | zero =>
  intro l k hl hlen hk
  refine⟨l,k,fun n m hn hm=>?_,by omega,hk⟩
  obtain⟨m,rfl⟩:∃j,m=j+1:=⟨m-1,by omega⟩
  rw[loop_suc,hF,cellStep,dec_f (by omega),frk_f]
 | succ j ih =>
  intro l k hl hlen hk
  obtain⟨p,k1,e1,hp,h1⟩:=drawOk hk
  have hpb:=pOk_PB hp
  have e:w64 (((j+1:Nat):Int)-1)=(j:Int):=by rw[w64_id (by omega) (by omega)];omega
  cases hw:wth l p with
  | true =>
   obtain⟨l',k',g1,g2,g3⟩:=ih l k1 hl (by omega) h1
   refine⟨l',k',fun n m hn hm=>?_,by omega,g3⟩
   obtain⟨m,rfl⟩:∃j,m=j+1:=⟨m-1,by omega⟩
   rw[loop_suc,hF,cellStep,dec_t (by omega),frk_t,e1 n hn,oBs]
   simp only[sWith l p hl hpb (by unfold big;omega) n (by omega),oBs,e,hw,Bool.not_true,frk_f]
   exact g1 n m hn (by omega)
  | false =>
   obtain⟨l',k',g1,g2,g3⟩:=ih (l++[p]) k1 (path_PB hl hpb) (by simp;omega) h1
   refine⟨l',k',fun n m hn hm=>?_,by simp at g2;omega,g3⟩
   obtain⟨m,rfl⟩:∃j,m=j+1:=⟨m-1,by omega⟩
   rw[loop_suc,hF,cellStep,dec_t (by omega),frk_t,e1 n hn,oBs]
   simp only[sWith l p hl hpb (by unfold big;omega) n (by omega),oBs,e,hw,Bool.not_false,frk_t]
   rw[chk_eq (ap32 (by omega))]
   exact g1 n m hn (by omega)
theorem cellOk{k:Cur}(hk:CurOk k){a:Int}(h1:1≤a)(h2:a≤10):∃l k',(∀n,1000≤n→Dp_l6Cell n k a=some (l,k'))∧(l.length:Int)≤5+a∧CurOk k':=by
 obtain⟨o,k1,e1,c1⟩:=onceOk hk (a:=4) (by omega) (by omega)
 cases o with
 | true =>
  obtain⟨v,k2,e2,hv,c2⟩:=belowOk (c:=(k1.1,k1.2.1,k1.2.2)) c1 (a:=a) h1 (by omega)
  obtain⟨j,rfl⟩:∃j:Nat,v=j:=⟨v.toNat,by omega⟩
  obtain⟨l',k',g1,g2,g3⟩:=cellLoop (F:=Dp_l6Cell_3) (fun _ _ _ _ _=>rfl) j [] k2 (by simp) (by simp;omega) c2
  refine⟨l',k',fun n hn=>?_,by simp at g2;omega,g3⟩
  unfold Dp_l6Cell Dp_l6Cell_2
  simp only[e1,oBs,Bool.not_true,frk_f,e2]
  exact g1 n n hn (by omega)
 | false =>
  obtain⟨u,k2,e2,hu,c2⟩:=belowOk c1 (a:=5) (by omega) (by omega)
  obtain⟨v,k3,e3,hv,c3⟩:=belowOk (c:=(k2.1,k2.2.1,k2.2.2)) c2 (a:=a) h1 (by omega)
  obtain⟨j,rfl⟩:∃j:Nat,v=j:=⟨v.toNat,by omega⟩
  have w1:w64 (1+u)=1+u:=w64_id (by omega) (by omega)
  have w2:w64 (1+u+1)=1+u+1:=w64_id (by omega) (by omega)
  have bb:∀{x y z t:Int},(-500≤x∧x≤500)→(-500≤y∧y≤500)→(-500≤z∧z≤500)→(-500≤t∧t≤500)→PB ⟨x,y,z,t⟩:=fun {x y z t} h1 h2 h3 h4=>⟨(B.of (by omega) (by omega):B 500 x),(B.of (by omega) (by omega):B 500 y),(B.of (by omega) (by omega):B 500 z),(B.of (by omega) (by omega):B 500 t)⟩
  obtain⟨l',k',g1,g2,g3⟩:=cellLoop (F:=Dp_l6Cell_1) (fun _ _ _ _ _=>rfl) j [⟨1,0,0,1+u⟩,⟨-1,0,0,1+u⟩,⟨0,1,0,1+u⟩,⟨0,-1,0,1+u+1⟩,⟨0,0,1,1+u⟩,⟨0,0,-1,1+u⟩] k3 (fun q hq=>by
   simp only[List.mem_cons,List.not_mem_nil,or_false] at hq
   rcases hq with rfl | rfl | rfl | rfl | rfl | rfl <;> exact bb (by omega) (by omega) (by omega) (by omega)) (by simp;omega) c3
  refine⟨l',k',fun n hn=>?_,by simp at g2;omega,g3⟩
  unfold Dp_l6Cell Dp_l6Cell_0
  simp only[e1,e2,oBs,Bool.not_false,frk_t,e3,w1,w2]
  exact g1 n n hn (by omega)
theorem cvT_dp:∀k:List Pl,Dp (cvT k) k.length
 | []=>.leaf
 | _::k=>.node (cvT_dp k) .leaf
theorem cvR_dp(l:List Pl):Dp (cvR l).1 l.length:=by
 unfold cvR
 split
 ·exact .leaf
 ·split
  ·exact .leaf
  ·exact(cvT_dp _).up (cvK_len l [])
end Evl.T
namespace Evl.T
open Go Evl
theorem gcd_bd{a b k:Nat}(ha:a≤k)(hb:b≤k):Nat.gcd a b≤k:=by
 by_cases h:b=0
 ·subst h;rw[Nat.gcd_zero_right];exact ha
 ·exact Nat.le_trans (Nat.gcd_le_right a (by omega)) hb
theorem qtOk'{a b:Int}(hb:b≠0)(ha:a.natAbs≤1000000000):qt .i64 a b=some (a.tdiv b):=by
 unfold qt
 rw[if_neg hb]
 have:(a.tdiv b).natAbs≤a.natAbs:=by rw[Int.natAbs_tdiv];exact Nat.div_le_self _ _
 have e:IntKind.i64.wrap (a.tdiv b)=a.tdiv b:=w64_id (by omega) (by omega)
 rw[e]
theorem spotOf{a b c d:Int}(ha:a.natAbs≤1000000000)(hb:b.natAbs≤1000000000)(hc:c.natAbs≤1000000000)(hd:d.natAbs≤1000000000)(h0:d≠0) :
  ∃q,(∀n,1000000001≤n→Dp_l5Spot n a b c d=some q)∧SpOk q:=by
 have u:∀{x:Int},x.natAbs≤1000000000→B 9223372036854775807 x:=fun h=>by unfold B;omega
 have b1:=gcd_bd ha hb
 have b2:=gcd_bd hc hd
 have hb3:=gcd_bd b1 b2
 have hG:Nat.gcd (Nat.gcd a.natAbs b.natAbs) (Nat.gcd c.natAbs d.natAbs)=g4 a b c d:=by unfold g4;rw[Nat.gcd_assoc (Nat.gcd a.natAbs b.natAbs)]
 rw[hG] at hb3
 have hp:0<g4 a b c d:=by
  unfold g4
  apply Nat.pos_of_ne_zero
  intro e
  have:=(Nat.gcd_eq_zero_iff.1 e).2
  omega
 have hgd:g4 a b c d ∣ Nat.gcd (Nat.gcd a.natAbs b.natAbs) c.natAbs:=Nat.gcd_dvd_left _ _
 have hdd:g4 a b c d ∣ d.natAbs:=Nat.gcd_dvd_right _ _
 have hcd:=Nat.dvd_trans hgd (Nat.gcd_dvd_right _ _)
 have hab:=Nat.dvd_trans hgd (Nat.gcd_dvd_left _ _)
 have had:=Nat.dvd_trans hab (Nat.gcd_dvd_left _ _)
 have hbd:=Nat.dvd_trans hab (Nat.gcd_dvd_right _ _)
 have fin:∀t:Int,t.natAbs=g4 a b c d→(0<d→0<t)→(d<0→t<0)→∃q,(∀n,Dp_l5Spot_0 n a b c d t 0 0 0 0=some q)∧SpOk q:=by
  intro t ht hs1 hs2
  have t0:t≠0:=by omega
  have na:∀x:Int,(x.tdiv t).natAbs=x.natAbs / g4 a b c d:=fun x=>by rw[Int.natAbs_tdiv,ht];rfl
  have le:∀{x:Int},x.natAbs≤1000000000→(x.tdiv t).natAbs≤1000000000:=fun {x} h=>by rw[na];exact Nat.le_trans (Nat.div_le_self _ _) h
  refine⟨⟨a.tdiv t,b.tdiv t,c.tdiv t,d.tdiv t⟩,fun n=>?_,⟨?_,le ha,le hb,le hc,?_⟩⟩
  ·unfold Dp_l5Spot_0
   rw[qtOk' t0 ha,oBs,qtOk' t0 hb,oBs,qtOk' t0 hc,oBs,qtOk' t0 hd,oBs]
  ·have h1:=le hd
   have hpos:0<(d.tdiv t).natAbs:=by rw[na];exact Nat.div_pos (Nat.le_of_dvd (by omega) hdd) hp
   have hnn:0≤d.tdiv t:=by
    rcases Int.lt_or_gt_of_ne h0 with h | h
    ·have:=hs2 h
     have e:d.tdiv t=(-d).tdiv (-t):=by rw[Int.neg_tdiv_neg]
     rw[e];exact Int.tdiv_nonneg (by omega) (by omega)
    ·have:=hs1 h;exact Int.tdiv_nonneg (by omega) (by omega)
   show 1≤d.tdiv t∧d.tdiv t≤1000000000
   omega
  ·show Nat.gcd (Nat.gcd (Nat.gcd (a.tdiv t).natAbs (b.tdiv t).natAbs) (c.tdiv t).natAbs) (d.tdiv t).natAbs=1
   rw[na,na,na,na,Nat.gcd_div had hbd]
   have q1:g4 a b c d ∣ Nat.gcd a.natAbs b.natAbs:=Nat.dvd_gcd had hbd
   rw[Nat.gcd_div q1 hcd,Nat.gcd_div hgd hdd]
   exact Nat.div_self hp
 have step:∀n,1000000001≤n→Dp_l5Spot n a b c d=frk (decide (d<0)) (Dp_l5Spot_0 n a b c d (w64 (0-((g4 a b c d:Nat):Int))) 0 0 0 0) (Dp_l5Spot_0 n a b c d ((g4 a b c d:Nat):Int) 0 0 0 0):=by
  intro n hn
  have g1:=sGcd n a b (u ha) (u hb) (by omega)
  have g2:=sGcd n c d (u hc) (u hd) (by omega)
  have g3:=sGcd n ((Nat.gcd a.natAbs b.natAbs:Nat):Int) ((Nat.gcd c.natAbs d.natAbs:Nat):Int) (by unfold B;omega) (by unfold B;omega) (by omega)
  simp only[Int.natAbs_natCast] at g3
  rw[hG] at g3
  unfold Dp_l5Spot
  rw[g1,oBs,g2,oBs,g3,oBs]
 by_cases hneg:d<0
 ·obtain⟨q,g1,g2⟩:=fin (0-((g4 a b c d:Nat):Int)) (by omega) (fun h=>by omega) (fun _=>by omega)
  refine⟨q,fun n hn=>?_,g2⟩
  rw[step n hn,dec_t hneg,frk_t,w64_id (by omega) (by omega)];exact g1 n
 ·obtain⟨q,g1,g2⟩:=fin ((g4 a b c d:Nat):Int) (by omega) (fun _=>by omega) (fun h=>absurd h hneg)
  refine⟨q,fun n hn=>?_,g2⟩
  rw[step n hn,dec_f hneg,frk_f];exact g1 n
theorem det3B{p q r:Pl}(hp:PB p)(hq:PB q)(hr:PB r):(det3 p q r).natAbs≤1000000000:=by
 obtain⟨a1,a2,a3,-⟩:=hp
 obtain⟨b1,b2,b3,-⟩:=hq
 obtain⟨c1,c2,c3,-⟩:=hr
 have h:B 750000000 (det3 p q r):=(((a1.mul ((b2.mul c3).sub (b3.mul c2))).add (a2.mul ((b3.mul c1).sub (b1.mul c3)))).add (a3.mul ((b1.mul c2).sub (b2.mul c1)))).up (by decide)
 unfold B at h;omega
theorem meetOk{p q r:Pl}(hp:PB p)(hq:PB q)(hr:PB r):∃s b,(∀n,1000000001≤n→Dp_l5Meet n p q r=some (s,b))∧(b=true→SpOk s):=by
 by_cases h0:det3 p q r=0
 ·refine⟨⟨0,0,0,0⟩,false,fun n hn=>?_,fun h=>by cases h⟩
  unfold Dp_l5Meet
  rw[sDet3 p q r hp hq hr,oBs,show (det3 p q r==0)=true by simpa using h0,frk_t]
 ·have nD:∀{x:Pl},PB x→B 500 (w64 (0-x.D)):=fun {x} h=>by
   have:=h.2.2.2
   rw[w64_B this.zsub (by decide)];exact this.zsub
  have z0:B 500 (0:Int):=B.of (by decide) (by decide)
  have A:∀{x:Pl},PB x→PB ⟨w64 (0-x.D),x.B,x.C,0⟩:=fun h=>⟨nD h,h.2.1,h.2.2.1,z0⟩
  have Bq:∀{x:Pl},PB x→PB ⟨x.A,w64 (0-x.D),x.C,0⟩:=fun h=>⟨h.1,nD h,h.2.2.1,z0⟩
  have C:∀{x:Pl},PB x→PB ⟨x.A,x.B,w64 (0-x.D),0⟩:=fun h=>⟨h.1,h.2.1,nD h,z0⟩
  obtain⟨s,e,hs⟩:=spotOf (det3B (A hp) (A hq) (A hr)) (det3B (Bq hp) (Bq hq) (Bq hr)) (det3B (C hp) (C hq) (C hr)) (det3B hp hq hr) h0
  refine⟨s,true,fun n hn=>?_,fun _=>hs⟩
  unfold Dp_l5Meet
  rw[sDet3 p q r hp hq hr,oBs,show (det3 p q r==0)=false by simpa using h0,frk_f]
  rw[sDet3 _ _ _ (A hp) (A hq) (A hr),oBs,sDet3 _ _ _ (Bq hp) (Bq hq) (Bq hr),oBs,sDet3 _ _ _ (C hp) (C hq) (C hr),oBs,e n hn,oBs]
theorem spotDraw0{k:Cur}(h:CurOk k):∃q k',(∀n,1000000001≤n→Dp_l5Draw_0 n 0 0 0 0 k.1 k.2.1 k.2.2=some (q,k'))∧SpOk q∧CurOk k':=by
 obtain⟨a,k1,e1,ha,h1⟩:=belowOk (c:=(k.1,k.2.1,k.2.2)) h (a:=21) (by omega) (by omega)
 obtain⟨b,k2,e2,hb,h2⟩:=belowOk h1 (a:=21) (by omega) (by omega)
 obtain⟨c,k3,e3,hc,h3⟩:=belowOk h2 (a:=21) (by omega) (by omega)
 obtain⟨d,k4,e4,hd,h4⟩:=intOk h3 (l:=[1,1,2,3,7]) (by simp) (by simp)
 have hd':1≤d∧d≤7:=by simp only[List.mem_cons,List.not_mem_nil,or_false] at hd;omega
 have w:∀{x:Int},0≤x∧x<21→w64 (x-10)=x-10:=fun h=>w64_id (by omega) (by omega)
 obtain⟨q,e5,hq⟩:=spotOf (a:=a-10) (b:=b-10) (c:=c-10) (d:=d) (by omega) (by omega) (by omega) (by omega) (by omega)
 refine⟨q,k4,fun n hn=>?_,hq,h4⟩
 unfold Dp_l5Draw_0
 simp only[e1,e2,e3,e4,oBs,w ha,w hb,w hc,e5 n hn]
theorem spotDraw{k:Cur}(h:CurOk k):∃q k',(∀n,1000000001≤n→Dp_l5Draw n k=some (q,k'))∧SpOk q∧CurOk k':=by
 obtain⟨o,k1,e1,h1⟩:=onceOk h (a:=3) (by omega) (by omega)
 cases o with
 | false =>
  obtain⟨q,k',g1,g2,g3⟩:=spotDraw0 h1
  refine⟨q,k',fun n hn=>?_,g2,g3⟩
  unfold Dp_l5Draw
  simp only[e1,oBs,frk_f,g1 n hn]
 | true =>
  obtain⟨p,k2,e2,hp,h2⟩:=drawOk h1
  obtain⟨q,k3,e3,hq,h3⟩:=drawOk h2
  obtain⟨r,k4,e4,hr,h4⟩:=drawOk h3
  obtain⟨s,b,e5,hs⟩:=meetOk (pOk_PB hp) (pOk_PB hq) (pOk_PB hr)
  cases b with
  | true =>
   refine⟨s,k4,fun n hn=>?_,hs rfl,h4⟩
   unfold Dp_l5Draw
   simp only[e1,e2 n (by omega),e3 n (by omega),e4 n (by omega),e5 n hn,oBs,frk_t]
  | false =>
   obtain⟨q',k',g1,g2,g3⟩:=spotDraw0 h4
   refine⟨q',k',fun n hn=>?_,g2,g3⟩
   unfold Dp_l5Draw
   simp only[e1,e2 n (by omega),e3 n (by omega),e4 n (by omega),e5 n hn,oBs,frk_t,frk_f,g1 n hn]
end Evl.T
namespace Evl.T
open Go Evl
theorem drawS(l:List Int)(hl:l.length≤1048576):∃s q,Right s∧Dp s 9∧SpOk q∧Ev fun n=>Dp_DrawSolid n l=some (s,q):=by
 obtain⟨k0,e0,c0⟩:=newOk hl
 obtain⟨v,k1,e1,hv,c1⟩:=belowOk c0 (a:=5) (by omega) (by omega)
 have w1:w64 (1+v)=1+v:=w64_id (by omega) (by omega)
 obtain⟨s,k2,e2,hR,hN,hD,c2⟩:=growOk 5 [] (1+v) k1 (by simp) (by simp) (by omega) (by omega) c1
 have e2':∀n,1000≤n→Dp_l8Grow n k1 [] (w64 (1+v))=some (s,k2):=fun n hn=>by rw[w1];exact e2 n n hn (by omega)
 obtain⟨o,k3,e3,c3⟩:=onceOk c2 (a:=3) (by omega) (by omega)
 have fin:∀(s:Sol) (k:Cur),Right s→CurOk k→∃q,SpOk q∧∀n,1000000001≤n→Dp_DrawSolid_0 n false 0 0 0 0 0 0 0 0 s.inn s.pl.A s.pl.B s.pl.C s.pl.D s.kids k.1 k.2.1 k.2.2=some (s,q):=by
  intro s k hs hk
  obtain⟨q,k',e,hq,-⟩:=spotDraw (k:=(k.1,k.2.1,k.2.2)) hk
  refine⟨q,hq,fun n hn=>?_⟩
  unfold Dp_DrawSolid_0
  rw[e n hn,oBs,sol_eq']
 have e5:Ev fun n=>1000000001≤n∧l.length<n:=⟨1000000001+l.length,fun n hn=>by omega⟩
 cases o with
 | false =>
  have hr:Right s:=⟨hR,by omega⟩
  obtain⟨q,hq,g⟩:=fin s k3 hr c3
  refine⟨s,q,hr,hD.up (by omega),hq,e5.mono fun n ⟨h1,h2⟩=>?_⟩
  unfold Dp_DrawSolid
  simp only[e0 n h2,e1,e2' n (by omega),e3,oBs,frk_f]
  exact g n h1
 | true =>
  obtain⟨c,k4,e4,hc,c4⟩:=cellOk c3 (a:=4) (by omega) (by omega)
  have hr:=cvR_right c
  obtain⟨q,hq,g⟩:=fin (cvR c).1 k4 hr c4
  refine⟨_,q,hr,(cvR_dp c).up (by omega),hq,(e5.and (sConvex c (by unfold big;omega))).mono fun n ⟨⟨h1,h2⟩,h3⟩=>?_⟩
  unfold Dp_DrawSolid
  simp only[e0 n h2,e1,e2' n (by omega),e3,e4 n (by omega),h3,oBs,frk_t]
  exact g n h1
end Evl.T
namespace Evl.T
open Go Evl
theorem ap64{k:Nat}(h:k≤1048576):apB 64 k=true:=by
 simp only[apB,bAt,decide_eq_true_eq];omega
theorem copyLoop{F:(Int×List Sol→Option Sol)→Int×List Sol→Option Sol}{self:Sol→Option Sol}{l:List Sol}{R:List Sol→Option Sol}(hl:l.length≤1048576)(hs:∀x∈l,self x=some x)
  (hF:∀rec (t:Int) (d:List Sol),F rec (t,d)=frk (decide (t<(l.length:Int))) ((lget l t).bind fun v0=>(self v0).bind fun v1=>chk (apB 64 (d.length+1)) (rec (w64 (t+1),d++[v1]))) (R d)) :
  ∀(r:List Sol) (k m:Nat),l.drop k=r→k≤l.length→r.length<m→loopN F m ((k:Int),l.take k)=R l:=by
 intro r
 induction r with
 | nil =>
  intro k m hr hk hm
  obtain⟨m,rfl⟩:∃j,m=j+1:=⟨m-1,by omega⟩
  have hk:k=l.length:=by have:=List.drop_eq_nil_iff.1 hr;omega
  rw[loop_suc,hF,hk,lt_self,frk_f,List.take_length]
 | cons x r ih =>
  intro k m hr hk hm
  simp only[List.length_cons] at hm
  obtain⟨m,rfl⟩:∃j,m=j+1:=⟨m-1,by omega⟩
  obtain⟨hkl,hx,hr',hmem⟩:=drop_get hr
  have ht:(l.take k).length=k:=by rw[List.length_take];omega
  rw[loop_suc,hF,lt_dec hkl,frk_t,lget_nat,hx,oBs,hs x hmem,oBs,chk_eq (ap64 (by rw[ht];omega)),w64_suc (by unfold big;omega)]
  have e:l.take k++[x]=l.take (k+1):=by rw[List.take_add_one,hx];simp
  rw[e]
  exact ih (k+1) m hr' (by omega) (by omega)
theorem sCopy:∀s,tot s≤1048576→E2 fun n m=>loopN (Dp_l8Copy_b n) m s=some s:=by
 refine sol_ind fun i p k ih hl=>?_
 rw[tot_mk] at hl
 have h1:=E2.all fun x hx=>ih x hx (by have:=tot_le hx;omega)
 have h2:E2 fun n _=>k.length<n:=⟨k.length+1,fun n hn _ _=>by omega⟩
 refine E2.suc ((h1.and h2).mono fun n m ⟨h1,h2⟩=>?_)
 rw[loop_suc]
 exact copyLoop (F:=Dp_l8Copy_0 n (loopN (Dp_l8Copy_b n) m) i p.A p.B p.C p.D k false 0 0 0 0 i p.A p.B p.C p.D) (l:=k) (R:=fun d=>some (.mk i p d)) (by omega) h1 (fun _ _ _=>rfl) k 0 n (by simp) (by omega) h2
theorem sCopyE{s:Sol}(h:tot s≤1048576):Ev fun n=>Dp_l8Copy n s=some s:=(sCopy s h).ev
end Evl.T
namespace Evl.T
open Go Evl
theorem iCopy:∀s,tot s≤1048576→E2 fun n m=>loopN (Di_copySolid_b n) m s=some s:=by
 refine sol_ind fun i p k ih hl=>?_
 rw[tot_mk] at hl
 have h1:=E2.all fun x hx=>ih x hx (by have:=tot_le hx;omega)
 have h2:E2 fun n _=>k.length<n:=⟨k.length+1,fun n hn _ _=>by omega⟩
 refine E2.suc ((h1.and h2).mono fun n m ⟨h1,h2⟩=>?_)
 rw[loop_suc]
 exact copyLoop (F:=Di_copySolid_0 n (loopN (Di_copySolid_b n) m) k (k.length:Int) false 0 0 0 0 i p.A p.B p.C p.D) (l:=k) (R:=fun d=>some (.mk i p d)) (by omega) h1 (fun _ _ _=>rfl) k 0 n (by simp) (by omega) h2
theorem iCopyE{s:Sol}(h:tot s≤1048576):Ev fun n=>Di_copySolid n s=some s:=(iCopy s h).ev
end Evl.T
namespace Evl.T
open Go Evl
inductive Tw:Sol→Prop
 | leaf {i p}:Tw (.mk i p [])
 | node {i p a b}:Tw a→Tw b→Tw (.mk i p [a,b])
theorem Tw.lens{s:Sol}(h:Tw s):Lens s:=by
 induction h with
 | leaf=>exact .mk (by simp[big]) (by simp)
 | node _ _ iha ihb =>
  refine .mk (by simp[big]) fun x hx=>?_
  simp only[List.mem_cons,List.not_mem_nil,or_false] at hx
  rcases hx with rfl | rfl
  ·exact iha
  ·exact ihb
theorem Tw.tot{s:Sol}(h:Tw s):Evl.T.tot s=2*nod s:=by
 induction h with
 | leaf=>rw[tot_mk,nod_leaf];simp[totL]
 | node _ _ iha ihb=>rw[tot_mk,nod2];simp only[totL,List.length_cons,List.length_nil,iha,ihb];omega
theorem Rt.tw{s:Sol}{l:List Pl}(h:Rt s l):Tw s:=by
 induction h with
 | leaf _=>exact .leaf
 | node _ _ _ _ _ _ iha ihb=>exact .node iha ihb
end Evl.T
namespace Evl.T
open Go Evl
inductive Mp(f:Pl→Pl):Sol→Sol→Prop
 | leaf {i p}:Mp f (.mk i p []) (.mk i ⟨0,0,0,0⟩ [])
 | node {i p a b x y}:Mp f a x→Mp f b y→Mp f (.mk i p [a,b]) (.mk false (f p) [x,y])
theorem Mp.out{f:Pl→Pl}{s x:Sol}(h:Mp f s x):Tw x∧nod x=nod s:=by
 induction h with
 | leaf=>exact⟨.leaf,by rw[nod_leaf,nod_leaf]⟩
 | node _ _ iha ihb=>exact⟨.node iha.1 ihb.1,by rw[nod2,nod2,iha.2,ihb.2]⟩
theorem Mp.exists{s:Sol}(h:Tw s)(f:Pl→Pl):∃x,Mp f s x:=by
 induction h with
 | leaf=>exact⟨_,.leaf⟩
 | node _ _ iha ihb=>obtain⟨x,hx⟩:=iha;obtain⟨y,hy⟩:=ihb;exact⟨_,.node hx hy⟩
end Evl.T
namespace Evl.T
open Go Evl
structure Aff(f:Pl→Pl)(G:Pl→Prop):Prop where
 fl:∀p,G p→G (flp p)∧f (flp p)=flp (f p)
 nz:∀p,G p→Nz (f p)
 gz:∀p,G p→Nz p
 ok:∀p,G p→pOk (f p)=true
 ct:∀c:List (Int×Pl),(∀x∈c,G x.2)→(Cert (c.map fun x=>(x.1,f x.2))↔Cert c)
theorem lift{f:Pl→Pl}{l:List Pl}:∀c:List (Int×Pl),(∀x∈c,x.2∈l.map f)→∃d:List (Int×Pl),c=d.map (fun x=>(x.1,f x.2))∧∀x∈d,x.2∈l:=by
 intro c
 induction c with
 | nil=>intro _;exact⟨[],rfl,by simp⟩
 | cons y c ih =>
  intro h
  obtain⟨d,e,hd⟩:=ih fun x hx=>h x (List.mem_cons_of_mem _ hx)
  obtain⟨p,hp,e2⟩:=List.mem_map.1 (h y List.mem_cons_self)
  refine⟨(y.1,p)::d,by rw[List.map_cons,←e,e2],fun x hx=>?_⟩
  rcases List.mem_cons.1 hx with rfl | hx
  ·exact hp
  ·exact hd x hx
theorem Aff.con{f:Pl→Pl}{G:Pl→Prop}(A:Aff f G){l:List Pl}(hl:∀p∈l,G p):Con (l.map f)↔Con l:=by
 constructor
 ·intro h c hc hm
  refine h _ ((A.ct c fun x hx=>hl _ (hm x hx)).2 hc) fun x hx=>?_
  obtain⟨y,hy,rfl⟩:=List.mem_map.1 hx
  exact List.mem_map.2 ⟨y.2,hm y hy,rfl⟩
 ·intro h c hc hm
  obtain⟨d,rfl,hd⟩:=lift c hm
  exact h d ((A.ct d fun x hx=>hl _ (hd x hx)).1 hc) hd
theorem Aff.nzs{f:Pl→Pl}{G:Pl→Prop}(A:Aff f G){l:List Pl}(hl:∀p∈l,G p):∀q∈l.map f,Nz q:=fun q hq=>by
 obtain⟨p,hp,rfl⟩:=List.mem_map.1 hq
 exact A.nz p (hl p hp)
theorem Aff.wth{f:Pl→Pl}{G:Pl→Prop}(A:Aff f G){l:List Pl}{p:Pl}(ho:Opn l)(ho':Opn (l.map f))(hl:∀q∈l,G q)(hp:G p):Evl.T.wth (l.map f) (f p)=Evl.T.wth l p:=by
 have h1:=wth_con ho' (A.nzs hl) (A.nz p hp)
 have h2:=wth_con ho (fun q hq=>A.gz q (hl q hq)) (A.gz p hp)
 have h3:=A.con (l:=p::l) (fun q hq=>by
  rcases List.mem_cons.1 hq with rfl | hq
  ·exact hp
  ·exact hl q hq)
 rw[List.map_cons] at h3
 rw[h3,←h2] at h1
 exact Bool.eq_iff_iff.2 h1
theorem mem_snoc{G:Pl→Prop}{l:List Pl}{p:Pl}(hl:∀q∈l,G q)(hp:G p):∀q∈l++[p],G q:=fun q hq=>by
 rcases List.mem_append.1 hq with hq | hq
 ·exact hl q hq
 ·rw[List.mem_singleton.1 hq];exact hp
theorem Aff.opn{f:Pl→Pl}{G:Pl→Prop}(A:Aff f G){l:List Pl}(h:Opn l):(∀q∈l,G q)→Opn (l.map f):=by
 induction h with
 | nil=>intro _;exact .nil
 | @snoc l p ho hw ih =>
  intro hl
  have hl':∀q∈l,G q:=fun q hq=>hl q (List.mem_append.2 (.inl hq))
  have hp:G p:=hl p (by simp)
  rw[List.map_append]
  exact .snoc (ih hl') (by rw[A.wth ho (ih hl') hl' hp];exact hw)
inductive Al(G:Pl→Prop):Sol→Prop
 | leaf {i p}:Al G (.mk i p [])
 | node {i p a b}:G p→Al G a→Al G b→Al G (.mk i p [a,b])
theorem Aff.rt{f:Pl→Pl}{G:Pl→Prop}(A:Aff f G){s:Sol}{path:List Pl}(h:Rt s path):∀{x:Sol},Mp f s x→Al G s→Opn path→(∀q∈path,G q)→Rt x (path.map f):=by
 induction h with
 | leaf _=>intro x hx _ _ _;cases hx;exact .leaf rfl
 | @node p a b path hp hl h1 h2 _ _ iha ihb =>
  intro x hx ha ho hg
  cases hx with
  | node m1 m2 =>
  cases ha with
  | node gp ga gb =>
  obtain⟨gf,ef⟩:=A.fl p gp
  have o:=A.opn ho hg
  have k1:=iha m1 ga (.snoc ho h1) (mem_snoc hg gp)
  have k2:=ihb m2 gb (.snoc ho h2) (mem_snoc hg gf)
  rw[List.map_append] at k1 k2
  refine .node (A.ok p gp) (by rw[List.length_map];exact hl) ?_ ?_ k1 ?_
  ·rw[A.wth ho o hg gp];exact h1
  ·rw[←ef,A.wth ho o hg gf];exact h2
  ·rw[←ef];exact k2
end Evl.T
namespace Evl.T
open Go Evl
def qtB (p:Pt):Bool:=rIn p.X (-1000000) 1000000&&(rIn p.Y (-1000000) 1000000&&rIn p.Z (-1000000) 1000000)
theorem iQtOk(p:Pt):Di_PtOk p=some (qtB p):=by
 unfold Di_PtOk qtB
 simp only[iIn,oBs]
 cases rIn p.X (-1000000) 1000000 <;> cases rIn p.Y (-1000000) 1000000 <;> rfl
theorem okFl{p:Pl}(h:pOk p=true):pOk (flp p)=true:=by
 have hp:=pOk_PB h
 unfold pOk at h ⊢
 revert h
 obtain⟨a,b,c,d⟩:=p
 obtain⟨h1,h2,h3,h4⟩:=hp
 unfold B at h1 h2 h3 h4
 simp only at h1 h2 h3 h4
 unfold flp
 simp only[Int.zero_sub,Int.natAbs_neg,bAt,Bool.or_eq_true,decide_eq_true_eq,bne_iff_ne,ne_eq,beq_iff_eq,rIn_iff,Int.neg_eq_zero]
 omega
theorem sm_map(g:Pl→Pl)(F:Pl→Int):∀c:List (Int×Pl),sm F (c.map fun x=>(x.1,g x.2))=sm (fun p=>F (g p)) c
 | []=>rfl
 | x::c=>by rw[List.map_cons,sm_cons,sm_cons,sm_map g F c]
theorem sm_eq{F F':Pl→Int}:∀{c:List (Int×Pl)},(∀x∈c,F x.2=F' x.2)→sm F c=sm F' c
 | [],_=>rfl
 | x::c,h=>by rw[sm_cons,sm_cons,h x List.mem_cons_self,sm_eq fun y hy=>h y (List.mem_cons_of_mem _ hy)]
end Evl.T
namespace Evl.T
open Go Evl
theorem sQtOk(p:Pt):Dp_PtOk p=some (qtB p):=by
 unfold Dp_PtOk qtB
 simp only[sIn,oBs]
 cases rIn p.X (-1000000) 1000000 <;> cases rIn p.Y (-1000000) 1000000 <;> rfl
def shD (p:Pl)(q:Pt):Int:=p.D-(p.A*q.X+p.B*q.Y+p.C*q.Z)
def shP (q:Pt)(p:Pl):Pl×Int :=
 if pOk p then if qtB q then if rIn (shD p q) (-500) 500 then (⟨p.A,p.B,p.C,shD p q⟩,0) else (⟨0,0,0,0⟩,2) else (⟨0,0,0,0⟩,1) else (⟨0,0,0,0⟩,1)
theorem shD_w{p:Pl}{q:Pt}(hp:PB p)(hq:qtB q=true):w64 (p.D-(w64 ((w64 ((w64 (p.A*q.X))+(w64 (p.B*q.Y))))+(w64 (p.C*q.Z)))))=shD p q∧B 1500000500 (shD p q):=by
 unfold qtB at hq
 simp only[bAt,rIn_iff] at hq
 obtain⟨h1,h2,h3⟩:=hq
 obtain⟨b1,b2,b3,b4⟩:=hp
 have c1:=b1.mul (B.of (a:=1000000) h1.1 h1.2)
 have c2:=b2.mul (B.of (a:=1000000) h2.1 h2.2)
 have c3:=b3.mul (B.of (a:=1000000) h3.1 h3.2)
 have c:B 1500000500 (shD p q):=(b4.sub ((c1.add c2).add c3)).up (by decide)
 refine⟨?_,c⟩
 rw[w64_B c1 (by decide),w64_B c2 (by decide),w64_B c3 (by decide),w64_B (c1.add c2) (by decide),w64_B ((c1.add c2).add c3) (by decide)]
 exact w64_B c (by decide)
theorem g4_shift{p:Pl}(h:pOk p=true)(q:Pt):g4 p.A p.B p.C (shD p q)=1:=by
 have hg:Nat.gcd (Nat.gcd p.A.natAbs p.B.natAbs) (Nat.gcd p.C.natAbs p.D.natAbs)=1:=by
  unfold pOk at h
  simp only[bAt,decide_eq_true_eq] at h
  exact h.2.2.2.2.2
 have hd:=Nat.gcd_dvd_left (Nat.gcd (Nat.gcd p.A.natAbs p.B.natAbs) p.C.natAbs) (shD p q).natAbs
 have hd4:=Nat.gcd_dvd_right (Nat.gcd (Nat.gcd p.A.natAbs p.B.natAbs) p.C.natAbs) (shD p q).natAbs
 have e:g4 p.A p.B p.C (shD p q)=Nat.gcd (Nat.gcd (Nat.gcd p.A.natAbs p.B.natAbs) p.C.natAbs) (shD p q).natAbs:=rfl
 rw[←e] at hd hd4
 have d12:=Nat.dvd_trans hd (Nat.gcd_dvd_left _ _)
 have d3:=Nat.dvd_trans hd (Nat.gcd_dvd_right _ _)
 have d1:=Nat.dvd_trans d12 (Nat.gcd_dvd_left _ _)
 have d2:=Nat.dvd_trans d12 (Nat.gcd_dvd_right _ _)
 have i1:=Int.ofNat_dvd_left.2 d1
 have i2:=Int.ofNat_dvd_left.2 d2
 have i3:=Int.ofNat_dvd_left.2 d3
 have i4:=Int.ofNat_dvd_left.2 hd4
 have i5:((g4 p.A p.B p.C (shD p q):Nat):Int) ∣ p.D:=by
  have:p.D=shD p q+(p.A*q.X+p.B*q.Y+p.C*q.Z):=by unfold shD;omega
  rw[this]
  exact Int.dvd_add i4 (Int.dvd_add (Int.dvd_add (Int.dvd_trans i1 (Int.dvd_mul_right _ _)) (Int.dvd_trans i2 (Int.dvd_mul_right _ _))) (Int.dvd_trans i3 (Int.dvd_mul_right _ _)))
 have d5:=Int.ofNat_dvd_left.1 i5
 have:=Nat.dvd_gcd (Nat.dvd_gcd d1 d2) (Nat.dvd_gcd d3 d5)
 rw[hg] at this
 exact Nat.dvd_one.1 this
theorem pq_one(x:Int):pq x 1=x:=by unfold pq;rw[Nat.div_one];split <;> omega
theorem sShifted(n:Nat)(p:Pl)(q:Pt)(hn:1500001000≤n):Dp_Shifted n p q=some (shP q p):=by
 unfold Dp_Shifted shP
 rw[sPlaneOk n p (by omega),oBs]
 cases hp:pOk p with
 | false=>rfl
 | true =>
  rw[Bool.not_true,frk_f,sQtOk,oBs]
  unfold Dp_Shifted_0
  cases hq:qtB q with
  | false=>rfl
  | true =>
   obtain⟨e,hB⟩:=shD_w (pOk_PB hp) hq
   have hB':=hB
   unfold B at hB'
   obtain⟨b1,b2,b3,b4⟩:=pOk_PB hp
   unfold B at b1 b2 b3 b4
   have h0:¬(p.A=0∧p.B=0∧p.C=0):=by
    unfold pOk at hp
    simp only[bAt,decide_eq_true_eq] at hp
    have:=hp.2.2.2.2.1;omega
   rw[Bool.not_true,frk_f,e,primOk n _ _ _ _ (by omega) (by omega) (by omega) (by omega) (by omega) (by omega) (by omega) (by omega) (by omega)]
   unfold prim
   rw[if_neg h0,g4_shift hp,pq_one,pq_one,pq_one,pq_one]
   have hr:rIn p.A (-500) 500=true∧rIn p.B (-500) 500=true∧rIn p.C (-500) 500=true:=by
    unfold pOk at hp
    simp only[bAt] at hp
    exact⟨hp.1,hp.2.1,hp.2.2.1⟩
   rw[hr.1,hr.2.1,hr.2.2,if_pos rfl,if_pos rfl]
   cases rIn (shD p q) (-500) 500 <;> rfl
theorem iShifted(n:Nat)(p:Pl)(q:Pt)(hn:502≤n):Di_Shifted n p q=some (shP q p):=by
 unfold Di_Shifted shP
 rw[iPlaneOk n p (by omega),oBs]
 cases hp:pOk p with
 | false=>rfl
 | true =>
  rw[Bool.not_true,frk_f,iQtOk,oBs]
  unfold Di_Shifted_0
  cases hq:qtB q with
  | false=>rfl
  | true =>
   obtain⟨e,hB⟩:=shD_w (pOk_PB hp) hq
   rw[Bool.not_true,frk_f,e,iCoef,oBs,if_pos rfl,if_pos rfl]
   cases rIn (shD p q) (-500) 500 <;> rfl
def shOk (q:Pt):Sol→Bool
 | .mk _ _ []=>true
 | .mk _ p [a,b]=>((shP q p).2==0)&&(shOk q a&&shOk q b)
 | _=>true
theorem sShiftT{q:Pt}{s x:Sol}(h:Mp (fun p=>(shP q p).1) s x):E2 fun n m=>loopN (Dp_l16Shift_b n) m (s,q)=some (x,shOk q s):=by
 induction h with
 | @leaf i p=>exact E2.suc (E2.of fun n m=>by rw[loop_suc];rfl)
 | @node i p a b x y _ _ iha ihb =>
  have h5:E2 fun n _=>1500001000≤n:=⟨1500001000,fun n hn _ _=>hn⟩
  refine E2.suc ((h5.and (iha.and ihb)).mono fun n m ⟨h0,h1,h2⟩=>?_)
  rw[loop_suc]
  have hl:Dp_l8Leaf (Sol.mk i p [a,b])=some false:=rfl
  have e:Dp_l16Shift_b n (loopN (Dp_l16Shift_b n) m) (Sol.mk i p [a,b],q)=(Dp_l8Leaf (Sol.mk i p [a,b])).bind fun v0=>frk v0 ((Dp_Leaf i).bind fun v1=>some (v1,true)) ((Dp_Shifted n p q).bind fun v2=>(lget [a,b] 0).bind fun v3=>(loopN (Dp_l16Shift_b n) m (v3,q)).bind fun v4=>(lget [a,b] 1).bind fun v5=>(loopN (Dp_l16Shift_b n) m (v5,q)).bind fun v6=>(Dp_l8Nodeo1o2 v2.1 v4.1 v6.1).bind fun v7=>frk (v2.2==0) (frk v4.2 (some (v7,v6.2)) (some (v7,false))) (some (v7,false))):=rfl
  rw[e,hl,oBs,frk_f,sShifted n p q h0,oBs,show lget [a,b] 0=some a from rfl,oBs,h1,oBs,show lget [a,b] 1=some b from rfl,oBs,h2,oBs]
  show frk ((shP q p).2==0) (frk (shOk q a) (some (Sol.mk false (shP q p).1 [x,y],shOk q b)) (some (Sol.mk false (shP q p).1 [x,y],false))) (some (Sol.mk false (shP q p).1 [x,y],false))=some (Sol.mk false (shP q p).1 [x,y],((shP q p).2==0)&&(shOk q a&&shOk q b))
  cases (shP q p).2==0 <;> cases shOk q a <;> rfl
theorem iShiftT{q:Pt}{s x:Sol}(h:Mp (fun p=>(shP q p).1) s x):E2 fun n m=>loopN (Di_movedfimpl_ShiftSolidLit1_b n) m (s,q)=some (x,shOk q s):=by
 induction h with
 | @leaf i p=>exact E2.suc (E2.of fun n m=>by rw[loop_suc];rfl)
 | @node i p a b x y _ _ iha ihb =>
  have h5:E2 fun n _=>1500001000≤n:=⟨1500001000,fun n hn _ _=>hn⟩
  refine E2.suc ((h5.and (iha.and ihb)).mono fun n m ⟨h0,h1,h2⟩=>?_)
  rw[loop_suc]
  have hl:Di_Solid_isLeaf (Sol.mk i p [a,b])=some false:=rfl
  have hs:Di_ShiftSolidLit1 n p q=some ((shP q p).1,(shP q p).2==0):=by
   unfold Di_ShiftSolidLit1;rw[iShifted n p q (by omega)];rfl
  have e:Di_movedfimpl_ShiftSolidLit1_b n (loopN (Di_movedfimpl_ShiftSolidLit1_b n) m) (Sol.mk i p [a,b],q)=(Di_Solid_isLeaf (Sol.mk i p [a,b])).bind fun v0=>frk v0 ((Di_Leaf i).bind fun v1=>some (v1,true)) ((Di_ShiftSolidLit1 n p q).bind fun v2=>(lget [a,b] 0).bind fun v3=>(loopN (Di_movedfimpl_ShiftSolidLit1_b n) m (v3,q)).bind fun v4=>(lget [a,b] 1).bind fun v5=>(loopN (Di_movedfimpl_ShiftSolidLit1_b n) m (v5,q)).bind fun v6=>(Di_nodeo1o2 v2.1 v4.1 v6.1).bind fun v7=>frk v2.2 (frk v4.2 (some (v7,v6.2)) (some (v7,false))) (some (v7,false))):=rfl
  rw[e,hl,oBs,frk_f,hs,oBs,show lget [a,b] 0=some a from rfl,oBs,h1,oBs,show lget [a,b] 1=some b from rfl,oBs,h2,oBs]
  show frk ((shP q p).2==0) (frk (shOk q a) (some (Sol.mk false (shP q p).1 [x,y],shOk q b)) (some (Sol.mk false (shP q p).1 [x,y],false))) (some (Sol.mk false (shP q p).1 [x,y],false))=some (Sol.mk false (shP q p).1 [x,y],((shP q p).2==0)&&(shOk q a&&shOk q b))
  cases (shP q p).2==0 <;> cases shOk q a <;> rfl
open Classical in
theorem shiftEq(s:Sol)(h:Lens s)(ht:tot s≤1048576)(q:Pt):∃x c,(c=0→Right s∧qtB q=true∧shOk q s=true∧Mp (fun p=>(shP q p).1) s x)∧Tw x∧tot x≤1048576∧Ev fun n=>Dp_ShiftSolid n s q=some (x,c)∧Di_ShiftSolid n s q=some (x,c):=by
 have e1:=sSolidOk s h;have e2:=iSolidOk s
 have hz:Tw (Sol.mk false (Pl.mk 0 0 0 0) []):=.leaf
 have tz:tot (Sol.mk false (Pl.mk 0 0 0 0) [])≤1048576:=by rw[tot_mk];decide
 by_cases hr:Right s
 ·cases hq:qtB q with
  | false =>
   refine⟨_,1,fun h=>absurd h (by decide),hz,tz,(e1.and e2).mono fun n ⟨h1,h2⟩=>⟨?_,?_⟩⟩
   ·unfold Dp_ShiftSolid
    rw[h1,decide_eq_true hr,oBs,Bool.not_true,frk_f,sQtOk,hq,oBs];rfl
   ·unfold Di_ShiftSolid
    rw[iQtOk,hq,oBs];rfl
  | true =>
   obtain⟨x,hx⟩:=Mp.exists hr.1.tw (fun p=>(shP q p).1)
   have hxt:=hx.out.1.tot
   have hn:=hr.2
   cases hk:shOk q s with
   | true =>
    refine⟨x,0,fun _=>⟨hr,rfl,rfl,hx⟩,hx.out.1,by rw[hxt,hx.out.2];omega,(e1.and (e2.and ((sShiftT hx).ev.and (iShiftT hx).ev))).mono fun n ⟨h1,h2,h3,h4⟩=>⟨?_,?_⟩⟩
    ·have h3':Dp_l16Shift n s q=some (x,shOk q s):=h3
     unfold Dp_ShiftSolid Dp_ShiftSolid_0
     rw[h1,decide_eq_true hr,oBs,Bool.not_true,frk_f,sQtOk,hq,oBs,Bool.not_true,frk_f,sol_eq',show Pt.mk q.X q.Y q.Z=q from rfl,h3',hk];rfl
    ·have h4':Di_movedfimpl_ShiftSolidLit1 n s q=some (x,shOk q s):=h4
     unfold Di_ShiftSolid Di_ShiftSolid_0
     rw[iQtOk,hq,oBs,Bool.not_true,frk_f,h2,decide_eq_true hr,oBs,Bool.not_true,frk_f,sol_eq',show Pt.mk q.X q.Y q.Z=q from rfl,h4',hk];rfl
   | false =>
    refine⟨_,3,fun h=>absurd h (by decide),hz,tz,(e1.and (e2.and ((sShiftT hx).ev.and (iShiftT hx).ev))).mono fun n ⟨h1,h2,h3,h4⟩=>⟨?_,?_⟩⟩
    ·have h3':Dp_l16Shift n s q=some (x,shOk q s):=h3
     unfold Dp_ShiftSolid Dp_ShiftSolid_0
     rw[h1,decide_eq_true hr,oBs,Bool.not_true,frk_f,sQtOk,hq,oBs,Bool.not_true,frk_f,sol_eq',show Pt.mk q.X q.Y q.Z=q from rfl,h3',hk];rfl
    ·have h4':Di_movedfimpl_ShiftSolidLit1 n s q=some (x,shOk q s):=h4
     unfold Di_ShiftSolid Di_ShiftSolid_0
     rw[iQtOk,hq,oBs,Bool.not_true,frk_f,h2,decide_eq_true hr,oBs,Bool.not_true,frk_f,sol_eq',show Pt.mk q.X q.Y q.Z=q from rfl,h4',hk];rfl
 ·refine⟨_,1,fun h=>absurd h (by decide),hz,tz,(e1.and e2).mono fun n ⟨h1,h2⟩=>⟨?_,?_⟩⟩
  ·unfold Dp_ShiftSolid
   rw[h1,decide_eq_false hr,oBs];rfl
  ·unfold Di_ShiftSolid Di_ShiftSolid_0
   rw[iQtOk,oBs]
   cases qtB q
   ·rfl
   ·rw[Bool.not_true,frk_f,h2,decide_eq_false hr];rfl
end Evl.T
namespace Evl.T
open Go Evl
def GS (q:Pt)(p:Pl):Prop:=pOk p=true∧rIn (shD p q) (-500) 500=true
theorem shD_fl(p:Pl)(q:Pt):shD (flp p) q=0-shD p q:=by unfold shD flp;simp only;grind
theorem shP_of{q:Pt}(hq:qtB q=true){p:Pl}(h:GS q p):shP q p=(⟨p.A,p.B,p.C,shD p q⟩,0):=by
 unfold shP
 rw[if_pos h.1,if_pos hq,if_pos h.2]
theorem sm_shD(q:Pt):∀c:List (Int×Pl),sm (fun p=>shD p q) c=sm Pl.D c-(sm Pl.A c*q.X+sm Pl.B c*q.Y+sm Pl.C c*q.Z)
 | []=>by simp[sm_nil]
 | x::c=>by
  rw[sm_cons,sm_cons,sm_cons,sm_cons,sm_cons,sm_shD q c]
  unfold shD
  grind
theorem affS{q:Pt}(hq:qtB q=true):Aff (fun p=>(shP q p).1) (GS q) where
 fl p h:=by
  have hf:GS q (flp p):=⟨okFl h.1,by rw[shD_fl];have:=rIn_iff.1 h.2;exact rIn_iff.2 (by omega)⟩
  refine⟨hf,?_⟩
  show (shP q (flp p)).1=flp (shP q p).1
  rw[shP_of hq h,shP_of hq hf,shD_fl];rfl
 nz p h:=by
  have:=pOk_Nz h.1
  show Nz (shP q p).1
  rw[shP_of hq h];exact this
 gz p h:=pOk_Nz h.1
 ok p h:=by
  show pOk (shP q p).1=true
  rw[shP_of hq h]
  have hg:=g4_shift h.1 q
  have h1:=h.1
  have h2:=rIn_iff.1 h.2
  unfold g4 at hg
  rw[Nat.gcd_assoc (Nat.gcd p.A.natAbs p.B.natAbs)] at hg
  unfold pOk at h1 ⊢
  simp only[bAt,decide_eq_true_eq] at h1 ⊢
  obtain⟨k1,k2,k3,k4,k5,k6⟩:=h1
  exact⟨k1,k2,k3,by have:=rIn_iff.1 k4;exact h.2,k5,hg⟩
 ct c hc:=by
  have eA:sm Pl.A (c.map fun x=>(x.1,(shP q x.2).1))=sm Pl.A c:=(sm_map (fun p=>(shP q p).1) Pl.A c).trans (sm_eq fun x hx=>by rw[shP_of hq (hc x hx)])
  have eB:sm Pl.B (c.map fun x=>(x.1,(shP q x.2).1))=sm Pl.B c:=(sm_map (fun p=>(shP q p).1) Pl.B c).trans (sm_eq fun x hx=>by rw[shP_of hq (hc x hx)])
  have eC:sm Pl.C (c.map fun x=>(x.1,(shP q x.2).1))=sm Pl.C c:=(sm_map (fun p=>(shP q p).1) Pl.C c).trans (sm_eq fun x hx=>by rw[shP_of hq (hc x hx)])
  have eD:sm Pl.D (c.map fun x=>(x.1,(shP q x.2).1))=sm (fun p=>shD p q) c:=(sm_map (fun p=>(shP q p).1) Pl.D c).trans (sm_eq fun x hx=>by rw[shP_of hq (hc x hx)])
  have eS:=sm_shD q c
  constructor
  ·rintro⟨k1,k2,k3,k4,k5,k6⟩
   rw[eA] at k2;rw[eB] at k3;rw[eC] at k4;rw[eD] at k5
   rw[k2,k3,k4] at eS
   refine⟨fun x hx=>k1 (x.1,(shP q x.2).1) (List.mem_map.2 ⟨x,hx,rfl⟩),k2,k3,k4,by omega,fun e=>k6 (by rw[e];rfl)⟩
  ·rintro⟨k1,k2,k3,k4,k5,k6⟩
   rw[k2,k3,k4] at eS
   refine⟨fun x hx=>?_,eA.trans k2,eB.trans k3,eC.trans k4,by rw[eD];omega,fun e=>k6 (List.map_eq_nil_iff.1 e)⟩
   obtain⟨y,hy,rfl⟩:=List.mem_map.1 hx
   exact k1 y hy
theorem shOk_al{q:Pt}(hq:qtB q=true){s:Sol}{path:List Pl}(h:Rt s path):shOk q s=true→Al (GS q) s:=by
 induction h with
 | leaf _=>intro _;exact .leaf
 | @node p a b path hp _ _ _ _ _ iha ihb =>
  intro hs
  have hs':((shP q p).2==0&&(shOk q a&&shOk q b))=true:=hs
  simp only[bAt,beq_iff_eq] at hs'
  refine .node ⟨hp,?_⟩ (iha hs'.2.1) (ihb hs'.2.2)
  cases hr:rIn (shD p q) (-500) 500 with
  | true=>rfl
  | false =>
   have e:=hs'.1
   unfold shP at e
   rw[if_pos hp,if_pos hq,hr] at e
   exact absurd (show (2:Int)=0 from e) (by decide)
theorem shiftR{s:Sol}{q:Pt}(hr:Right s)(hq:qtB q=true)(hs:shOk q s=true){x:Sol}(hx:Mp (fun p=>(shP q p).1) s x):Right x:=by
 have:=(affS hq).rt hr.1 hx (shOk_al hq hr.1 hs) .nil (by simp)
 exact⟨this,by rw[hx.out.2];exact hr.2⟩
end Evl.T
namespace Evl.T
open Go Evl
theorem iNodesStep(n:Nat)(self:Sol→Option Int)(i:Bool)(p:Pl)(k:List Sol):Di_Solid_nodes_b n self (.mk i p k)=frk ((k.length:Int)==0) (some 0) ((lget k 0).bind fun v1=>(self v1).bind fun v2=>(lget k 1).bind fun v3=>(self v3).bind fun v4=>some (w64 ((w64 (1+v2))+v4))):=rfl
theorem iNodes{s:Sol}{path:List Pl}(h:Rt s path):nod s≤1000000→E2 fun n m=>loopN (Di_Solid_nodes_b n) m s=some ((nod s:Nat):Int):=by
 induction h with
 | @leaf i p path hz=>intro _;exact E2.suc (E2.of fun n m=>by rw[loop_suc,iNodesStep,nod_leaf];rfl)
 | @node p a b path h1 h2 h3 h4 _ _ iha ihb =>
  intro hn
  rw[nod2] at hn
  refine E2.suc (((iha (by omega)).and (ihb (by omega))).mono fun n m ⟨h1,h2⟩=>?_)
  rw[loop_suc,iNodesStep,show ((([a,b]:List Sol).length:Int)==0)=false from rfl,frk_f]
  show ((some a).bind _)=_
  rw[oBs,h1,oBs]
  show ((some b).bind _)=_
  rw[oBs,h2,oBs,w64_id (x:=1+((nod a:Nat):Int)) (by omega) (by omega),w64_id (by omega) (by omega),nod2]
  congr 1;omega
end Evl.T
namespace Evl.T
open Go Evl
theorem sSameStep(n:Nat)(self:Sol×Sol→Option Bool)(i j:Bool)(p q:Pl)(k l:List Sol):Dp_SameTree_b n self (.mk i p k,.mk j q l) =
  frk (!(i==j)) (some false) (frk (!(plEq p q)) (some false) (frk ((k.length:Int) != (l.length:Int)) (some false) (loopN (Dp_SameTree_1 n self i p.A p.B p.C p.D k j q.A q.B q.C q.D l) n 0))):=rfl
open Classical in
theorem sSame:∀a,Lens a→E2 fun n m=>∀b,loopN (Dp_SameTree_b n) m (a,b)=some (decide (a=b)):=by
 refine sol_ind fun i p k ih hl=>?_
 cases hl with
 | mk hk hx =>
  have h1:=E2.all fun x hxm=>ih x hxm (hx x hxm)
  have h2:E2 fun n _=>k.length<n:=⟨k.length+1,fun n hn _ _=>by omega⟩
  refine E2.suc ((h1.and h2).mono fun n m ⟨h1,h2⟩ b=>?_)
  obtain⟨j,q,l⟩:=b
  rw[loop_suc,sSameStep]
  by_cases e1:i=j
  ·subst e1
   rw[beq_self_eq_true,Bool.not_true,frk_f]
   by_cases e2:p=q
   ·subst e2
    rw[(plEq_iff p p).2 rfl,Bool.not_true,frk_f]
    by_cases e3:k.length=l.length
    ·rw[show ((k.length:Int) != (l.length:Int))=false by simp[e3],frk_f,kidsLoop _ (Dp_SameTree_1 n (loopN (Dp_SameTree_b n) m) i p.A p.B p.C p.D k i p.A p.B p.C p.D l) k l hk e3 h1 (fun _ _=>rfl) n h2]
     simp
    ·rw[show ((k.length:Int) != (l.length:Int))=true by simp;omega,frk_t]
     have:k≠l:=fun e=>e3 (by rw[e])
     simp[this]
   ·rw[plEq_no e2,Bool.not_false,frk_t];simp[e2]
  ·rw[show (i==j)=false by simp[e1],Bool.not_false,frk_t];simp[e1]
theorem sTidyStep(n:Nat)(self:Sol→Option Sol)(i:Bool)(p:Pl)(k:List Sol):Dp_l12Tidy_b n self (.mk i p k)=frk ((k.length:Int)==0) (some (.mk i ⟨0,0,0,0⟩ [])) ((lget k 0).bind fun v2=>(self v2).bind fun v3=>(lget k 1).bind fun v4=>(self v4).bind fun v5=>(loopN (Dp_SameTree_b n) n (v3,v5)).bind fun v6=>frk v6 (some v3) (some (.mk false p [v3,v5]))):=rfl
theorem iTidyStep(n:Nat)(self:Sol→Option Sol)(i:Bool)(p:Pl)(k:List Sol):Di_tidy_b n self (.mk i p k)=frk ((k.length:Int)==0) (some (.mk i ⟨0,0,0,0⟩ [])) ((lget k 0).bind fun v2=>(self v2).bind fun v3=>(lget k 1).bind fun v4=>(self v4).bind fun v5=>(loopN (Di_SameTree_b n) n (v3,v5)).bind fun v6=>frk v6 (some v3) (some (.mk false p [v3,v5]))):=rfl
inductive Td:Sol→Sol→Prop
 | leaf {i p}:Td (.mk i p []) (lfS i)
 | same {i p a b t}:Td a t→Td b t→Td (.mk i p [a,b]) t
 | diff {i p a b ta tb}:Td a ta→Td b tb→ta≠tb→Td (.mk i p [a,b]) (.mk false p [ta,tb])
open Classical in
theorem tidyT{s:Sol}{path:List Pl}(h:Rt s path):∃t,Td s t∧Rt t path∧nod t≤nod s∧(E2 fun n m=>loopN (Dp_l12Tidy_b n) m s=some t)∧E2 fun n m=>loopN (Di_tidy_b n) m s=some t:=by
 induction h with
 | @leaf i p path hz =>
  refine⟨.mk i ⟨0,0,0,0⟩ [],.leaf,.leaf rfl,by rw[nod_leaf,nod_leaf];omega,E2.suc (E2.of fun n m=>?_),E2.suc (E2.of fun n m=>?_)⟩
  ·rw[loop_suc,sTidyStep];rfl
  ·rw[loop_suc,iTidyStep];rfl
 | @node p a b path h1 h2 h3 h4 _ _ iha ihb =>
  obtain⟨ta,da,ra,na,sa,ia⟩:=iha
  obtain⟨tb,db,rb,nb,sb,ib⟩:=ihb
  have ss:=(sSame ta ra.lens).ev.e2
  have is:=(iSame ta ra.lens).ev.e2
  have S:E2 fun n m=>loopN (Dp_l12Tidy_b n) (m+1) (.mk false p [a,b])=if ta=tb then some ta else some (.mk false p [ta,tb]):=(sa.and (sb.and ss)).mono fun n m ⟨sa,sb,ss⟩=>by
   rw[loop_suc,sTidyStep,show ((([a,b]:List Sol).length:Int)==0)=false from rfl,frk_f]
   show ((some a).bind _)=_
   rw[oBs,sa,oBs]
   show ((some b).bind _)=_
   rw[oBs,sb,oBs,ss tb,oBs]
   by_cases e:ta=tb
   ·rw[if_pos e,decide_eq_true e,frk_t]
   ·rw[if_neg e,decide_eq_false e,frk_f]
  have I:E2 fun n m=>loopN (Di_tidy_b n) (m+1) (.mk false p [a,b])=if ta=tb then some ta else some (.mk false p [ta,tb]):=(ia.and (ib.and is)).mono fun n m ⟨sa,sb,ss⟩=>by
   rw[loop_suc,iTidyStep,show ((([a,b]:List Sol).length:Int)==0)=false from rfl,frk_f]
   show ((some a).bind _)=_
   rw[oBs,sa,oBs]
   show ((some b).bind _)=_
   rw[oBs,sb,oBs,ss tb,oBs]
   by_cases e:ta=tb
   ·rw[if_pos e,decide_eq_true e,frk_t]
   ·rw[if_neg e,decide_eq_false e,frk_f]
  by_cases e:ta=tb
  ·refine⟨ta,.same da (e ▸ db),by simpa using ra.less path [] p rfl,by rw[nod2];omega,E2.suc (S.mono fun n m h=>by rw[h,if_pos e]),E2.suc (I.mono fun n m h=>by rw[h,if_pos e])⟩
  ·exact⟨_,.diff da db e,.node h1 h2 h3 h4 ra rb,by rw[nod2,nod2];omega,E2.suc (S.mono fun n m h=>by rw[h,if_neg e]),E2.suc (I.mono fun n m h=>by rw[h,if_neg e])⟩
theorem Td.vl{s t:Sol}(h:Td s t){L:List Pl}:∀{v},Vl L s v→Vl L t v:=by
 induction h with
 | leaf=>intro v hv;cases hv;exact .leaf
 | same _ _ iha ihb =>
  intro v hv
  cases hv with
  | left _ hv=>exact iha hv
  | right _ hv=>exact ihb hv
 | diff _ _ _ iha ihb =>
  intro v hv
  cases hv with
  | left hp hv=>exact .left hp (iha hv)
  | right hp hv=>exact .right hp (ihb hv)
theorem Td.dp{s t:Sol}(h:Td s t):∀{d},Dp s d→Dp t d:=by
 induction h with
 | leaf=>intro d _;exact .leaf
 | same _ _ iha _ =>
  intro d hd
  cases hd with
  | node ha _=>exact(iha ha).up (by omega)
 | diff _ _ _ iha ihb =>
  intro d hd
  cases hd with
  | node ha hb=>exact .node (iha ha) (ihb hb)
end Evl.T
namespace Evl.T
open Go Evl
inductive Mg(op:Int):Sol→Sol→Prop
 | leaf {i p}:Mg op (.mk i p []) (lfS (lfB op i i))
 | node {i p a b x y}:Mg op a x→Mg op b y→Mg op (.mk i p [a,b]) (jn p x y)
theorem tks_leaf{op:Int}{inn j:Bool}{p:Pl}{P:List Pl}{x:Sol}{sb:Bool}(h:Tk op inn (.mk j p []) P x sb):x=lfS (lfB op inn j)∧sb=false:=by
 cases h;exact⟨rfl,rfl⟩
theorem tk_self{op:Int}{inn:Bool}{P:List Pl}(ho:Opn P)(hz:∀q∈P,Nz q){s:Sol}{Q:List Pl}{i:Bool}(h:Lf s Q i):(∀q∈Q,q∈P)→∀{x:Sol} {sb:Bool},Tk op inn s P x sb→x=lfS (lfB op inn i)∧sb=false:=by
 induction h with
 | leaf=>intro _ x sb ht;exact tks_leaf ht
 | @left p a b Q i _ ih =>
  intro hq x sb ht
  have hp:=hq p (by simp)
  have h1:=wth_flp (hz p hp) hp
  cases ht with
  | one _ ht=>exact ih (fun q h=>hq q (by simp[h])) ht
  | two h _ _=>rw[h1] at h;cases h
  | deep _ h _=>rw[h1] at h;cases h
  | node _ _ _ h _ _=>rw[h1] at h;cases h
 | @right p a b Q i _ ih =>
  intro hq x sb ht
  have hp:=hq (flp p) (by simp)
  have h1:=wth_flp (hz _ hp) hp
  rw[flp_flp] at h1
  have h2:=wth_in ho hz hp
  cases ht with
  | one h _=>rw[h2] at h;cases h
  | two _ _ ht=>exact ih (fun q h=>hq q (by simp[h])) ht
  | deep h _ _=>rw[h1] at h;cases h
  | node _ _ h _ _ _=>rw[h1] at h;cases h
theorem pt_self{op:Int}{s0:Sol}{s c' y:Sol}{P:List Pl}{sb:Bool}(h:Pt2 op s c' P y sb):c'=s0→Opn P→(∀q∈P,Nz q)→(∀Q i,Lf s Q i→Lf s0 (P++Q) i)→Mg op s y∧sb=false:=by
 induction h with
 | @leaf i p b path x sb ht =>
  intro e ho hz hL
  subst e
  have hl:=hL [] i .leaf
  rw[List.append_nil] at hl
  obtain⟨h1,h2⟩:=tk_self ho hz hl (fun q h=>h) ht
  exact⟨by rw[h1];exact .leaf,h2⟩
 | @node p a b c' path x1 b1 x2 b2 hp hl h3 h5 _ _ iha ihb =>
  intro e ho hz hL
  have hz1:∀q∈path++[p],Nz q:=fun q hq=>by
   rcases List.mem_append.1 hq with hq | hq
   ·exact hz q hq
   ·rw[List.mem_singleton.1 hq];exact pOk_Nz hp
  have hz2:∀q∈path++[flp p],Nz q:=fun q hq=>by
   rcases List.mem_append.1 hq with hq | hq
   ·exact hz q hq
   ·rw[List.mem_singleton.1 hq];exact Nz_flp (pOk_Nz hp)
  obtain⟨e1,f1⟩:=iha e (.snoc ho h3) hz1 fun Q i h=>by rw[List.append_assoc];exact hL _ _ (.left h)
  obtain⟨e2,f2⟩:=ihb e (.snoc ho h5) hz2 fun Q i h=>by rw[List.append_assoc];exact hL _ _ (.right h)
  subst f1;subst f2
  exact⟨.node e1 e2,rfl⟩
theorem putSelf{op:Int}{s y:Sol}{sb:Bool}(h:Pt2 op s s [] y sb):Mg op s y∧sb=false:=pt_self h rfl .nil (by simp) fun Q i h=>h
theorem Mg.bin{op:Int}{s y:Sol}(h:Mg op s y):Bin y:=by
 induction h with
 | leaf=>exact .leaf
 | node _ _ iha ihb=>exact bin_jn iha ihb
theorem Mg.nod{op:Int}{s y:Sol}(h:Mg op s y):Evl.T.nod y≤Evl.T.nod s:=by
 induction h with
 | leaf=>rw[show Evl.T.nod (lfS _)=0 from nod_leaf _ _];exact Nat.zero_le _
 | node ha hb iha ihb =>
  rw[nod_jn ha.bin hb.bin,nod2]
  split <;> omega
theorem Mg.one{op:Int}{v:Bool}(hv:∀i,lfB op i i=v){s y:Sol}(h:Mg op s y):y=lfS v:=by
 induction h with
 | leaf=>rw[hv]
 | node _ _ iha ihb =>
  subst iha;subst ihb
  unfold jn
  have:jnB (lfS v) (lfS v)=true:=by unfold jnB isLf lfS;simp[Sol.kids,Sol.inn]
  rw[if_pos this];rfl
theorem lf_inv{x:Sol}(hb:Bin x)(h:isLf x=true){L:List Pl}{v:Bool}(hv:Vl L x v):v=x.inn:=by
 cases hb with
 | leaf=>cases hv;rfl
 | node _ _=>simp[isLf,Sol.kids] at h
theorem Mg.vl{op:Int}{s y:Sol}(h:Mg op s y){L:List Pl}:∀{v},Vl L s v→Vl L y (lfB op v v):=by
 induction h with
 | leaf=>intro v hv;cases hv;exact .leaf
 | @node i p a b x y ha hb iha ihb =>
  intro v hv
  unfold jn
  split
  ·rename_i hj
   unfold jnB at hj
   simp only[bAt,beq_iff_eq] at hj
   have e:lfB op v v=x.inn:=by
    cases hv with
    | left _ hv=>exact lf_inv ha.bin hj.1 (iha hv)
    | right _ hv=>rw[hj.2.2];exact lf_inv hb.bin hj.2.1 (ihb hv)
   rw[e];exact .leaf
  ·cases hv with
   | left hp hv=>exact .left hp (iha hv)
   | right hp hv=>exact .right hp (ihb hv)
theorem Mg.dp{op:Int}{s y:Sol}(h:Mg op s y):∀{d},Dp s d→Dp y d:=by
 induction h with
 | leaf=>intro d _;exact .leaf
 | node _ _ iha ihb =>
  intro d hd
  cases hd with
  | node ha hb =>
   unfold jn
   split
   ·exact .leaf
   ·exact .node (iha ha) (ihb hb)
end Evl.T
namespace Evl.T
open Go Evl
def zs:Sol:=.mk false ⟨0,0,0,0⟩ []
abbrev S8:=Sol×Sol×Sol×Sol×Sol×Sol×Sol×Sol
abbrev B8:=Bool×Bool×Bool×Bool×Bool×Bool×Bool×Bool
theorem zs_right:Right zs:=⟨.leaf rfl,by unfold zs;rw[nod_leaf];omega⟩
open Classical in
theorem none_iff(s:Sol):Dp_l20None s=some (decide (s=zs)):=by
 obtain⟨i,p,k⟩:=s
 unfold zs
 show frk (!i) (frk (plEq p ⟨0,0,0,0⟩) (some ((k.length:Int)==0)) (some false)) (some false)=_
 cases i with
 | true=>rw[Bool.not_true,frk_f];simp
 | false =>
  rw[Bool.not_false,frk_t]
  by_cases hp:p=⟨0,0,0,0⟩
  ·subst hp
   rw[(plEq_iff _ _).2 rfl,frk_t]
   cases k with
   | nil=>simp
   | cons x k =>
    have:((((x::k):List Sol).length:Int)==0)=false:=by simp;omega
    rw[this];simp
  ·rw[plEq_no hp,frk_f];simp[hp]
def stI (ok z h:Bool)(rest:Option Bool):Option Bool:=frk (!ok) (some false) (frk (!h) (frk (!z) (some false) rest) rest)
def stS (ok z h:Bool)(rest:Option Bool):Option Bool:=frk h (frk (!ok) (some false) (frk (!h) (frk (!z) (some false) rest) rest)) (frk (!h) (frk (!z) (some false) rest) rest)
theorem stI_eq(ok z h:Bool)(rest:Option Bool):stI ok z h rest=frk (ok&&(h||z)) rest (some false):=by
 cases ok <;> cases z <;> cases h <;> rfl
theorem stS_eq(ok z h:Bool)(rest:Option Bool)(hz:z=true→ok=true):stS ok z h rest=frk (ok&&(h||z)) rest (some false):=by
 cases ok <;> cases z <;> cases h <;> first | rfl | (have:=hz rfl;cases this)
theorem frk_congr{b:Bool}{x y z:Option Bool}(h:b=true→x=y):frk b x z=frk b y z:=by
 cases b
 ·rfl
 ·exact h rfl
open Classical in
theorem iNodesR(s:Sol):Ev fun n=>Right s→Di_Solid_nodes n s=some ((nod s:Nat):Int):=by
 by_cases h:Right s
 ·exact((iNodes h.1 (by have:=h.2;omega)).ev).mono fun n e _=>e
 ·exact Ev.of fun n h'=>absurd h' h
open Classical in
noncomputable def rt(s:Sol):Bool:=decide (Right s)
open Classical in
noncomputable def isz(s:Sol):Bool:=decide (s=zs)
theorem rt_iff{s:Sol}:rt s=true↔Right s:=by unfold rt;simp
theorem isz_rt{s:Sol}(h:isz s=true):rt s=true:=by
 unfold isz at h;simp only[decide_eq_true_eq] at h;subst h;exact rt_iff.2 zs_right
theorem none_eq(s:Sol):Dp_l20None s=some (isz s):=none_iff s
def Desk8(d:S8×B8):Prop:=Lens d.1.1∧Lens d.1.2.1∧Lens d.1.2.2.1∧Lens d.1.2.2.2.1∧Lens d.1.2.2.2.2.1∧Lens d.1.2.2.2.2.2.1∧Lens d.1.2.2.2.2.2.2.1∧Lens d.1.2.2.2.2.2.2.2
structure DF(n:Nat)(d:S8×B8):Prop where
 sok1:Dp_SolidOk n d.1.1=some (rt d.1.1)
 iok1:Di_SolidOk n d.1.1=some (rt d.1.1)
 cn1:Dp_l8Count n d.1.1 301=some (cnv (nod d.1.1) 301)
 nd1:Right d.1.1→Di_Solid_nodes n d.1.1=some ((nod d.1.1:Nat):Int)
 sm1:Di_SameTree n d.1.1 zs=some (isz d.1.1)
 sok2:Dp_SolidOk n d.1.2.1=some (rt d.1.2.1)
 iok2:Di_SolidOk n d.1.2.1=some (rt d.1.2.1)
 cn2:Dp_l8Count n d.1.2.1 301=some (cnv (nod d.1.2.1) 301)
 nd2:Right d.1.2.1→Di_Solid_nodes n d.1.2.1=some ((nod d.1.2.1:Nat):Int)
 sm2:Di_SameTree n d.1.2.1 zs=some (isz d.1.2.1)
 sok3:Dp_SolidOk n d.1.2.2.1=some (rt d.1.2.2.1)
 iok3:Di_SolidOk n d.1.2.2.1=some (rt d.1.2.2.1)
 cn3:Dp_l8Count n d.1.2.2.1 301=some (cnv (nod d.1.2.2.1) 301)
 nd3:Right d.1.2.2.1→Di_Solid_nodes n d.1.2.2.1=some ((nod d.1.2.2.1:Nat):Int)
 sm3:Di_SameTree n d.1.2.2.1 zs=some (isz d.1.2.2.1)
 sok4:Dp_SolidOk n d.1.2.2.2.1=some (rt d.1.2.2.2.1)
 iok4:Di_SolidOk n d.1.2.2.2.1=some (rt d.1.2.2.2.1)
 cn4:Dp_l8Count n d.1.2.2.2.1 301=some (cnv (nod d.1.2.2.2.1) 301)
 nd4:Right d.1.2.2.2.1→Di_Solid_nodes n d.1.2.2.2.1=some ((nod d.1.2.2.2.1:Nat):Int)
 sm4:Di_SameTree n d.1.2.2.2.1 zs=some (isz d.1.2.2.2.1)
 sok5:Dp_SolidOk n d.1.2.2.2.2.1=some (rt d.1.2.2.2.2.1)
 iok5:Di_SolidOk n d.1.2.2.2.2.1=some (rt d.1.2.2.2.2.1)
 cn5:Dp_l8Count n d.1.2.2.2.2.1 301=some (cnv (nod d.1.2.2.2.2.1) 301)
 nd5:Right d.1.2.2.2.2.1→Di_Solid_nodes n d.1.2.2.2.2.1=some ((nod d.1.2.2.2.2.1:Nat):Int)
 sm5:Di_SameTree n d.1.2.2.2.2.1 zs=some (isz d.1.2.2.2.2.1)
 sok6:Dp_SolidOk n d.1.2.2.2.2.2.1=some (rt d.1.2.2.2.2.2.1)
 iok6:Di_SolidOk n d.1.2.2.2.2.2.1=some (rt d.1.2.2.2.2.2.1)
 cn6:Dp_l8Count n d.1.2.2.2.2.2.1 301=some (cnv (nod d.1.2.2.2.2.2.1) 301)
 nd6:Right d.1.2.2.2.2.2.1→Di_Solid_nodes n d.1.2.2.2.2.2.1=some ((nod d.1.2.2.2.2.2.1:Nat):Int)
 sm6:Di_SameTree n d.1.2.2.2.2.2.1 zs=some (isz d.1.2.2.2.2.2.1)
 sok7:Dp_SolidOk n d.1.2.2.2.2.2.2.1=some (rt d.1.2.2.2.2.2.2.1)
 iok7:Di_SolidOk n d.1.2.2.2.2.2.2.1=some (rt d.1.2.2.2.2.2.2.1)
 cn7:Dp_l8Count n d.1.2.2.2.2.2.2.1 301=some (cnv (nod d.1.2.2.2.2.2.2.1) 301)
 nd7:Right d.1.2.2.2.2.2.2.1→Di_Solid_nodes n d.1.2.2.2.2.2.2.1=some ((nod d.1.2.2.2.2.2.2.1:Nat):Int)
 sm7:Di_SameTree n d.1.2.2.2.2.2.2.1 zs=some (isz d.1.2.2.2.2.2.2.1)
 sok8:Dp_SolidOk n d.1.2.2.2.2.2.2.2=some (rt d.1.2.2.2.2.2.2.2)
 iok8:Di_SolidOk n d.1.2.2.2.2.2.2.2=some (rt d.1.2.2.2.2.2.2.2)
 cn8:Dp_l8Count n d.1.2.2.2.2.2.2.2 301=some (cnv (nod d.1.2.2.2.2.2.2.2) 301)
 nd8:Right d.1.2.2.2.2.2.2.2→Di_Solid_nodes n d.1.2.2.2.2.2.2.2=some ((nod d.1.2.2.2.2.2.2.2:Nat):Int)
 sm8:Di_SameTree n d.1.2.2.2.2.2.2.2 zs=some (isz d.1.2.2.2.2.2.2.2)
theorem DF.ev(d:S8×B8)(h:Desk8 d):Ev fun n=>DF n d:=by
 obtain⟨h1,h2,h3,h4,h5,h6,h7,h8⟩:=h
 have q1:=((sSolidOk _ h1).and ((iSolidOk d.1.1).and ((cnt _ h1).and ((iNodesR d.1.1).and ((iSame _ h1).ev)))))
 have q2:=((sSolidOk _ h2).and ((iSolidOk d.1.2.1).and ((cnt _ h2).and ((iNodesR d.1.2.1).and ((iSame _ h2).ev)))))
 have q3:=((sSolidOk _ h3).and ((iSolidOk d.1.2.2.1).and ((cnt _ h3).and ((iNodesR d.1.2.2.1).and ((iSame _ h3).ev)))))
 have q4:=((sSolidOk _ h4).and ((iSolidOk d.1.2.2.2.1).and ((cnt _ h4).and ((iNodesR d.1.2.2.2.1).and ((iSame _ h4).ev)))))
 have q5:=((sSolidOk _ h5).and ((iSolidOk d.1.2.2.2.2.1).and ((cnt _ h5).and ((iNodesR d.1.2.2.2.2.1).and ((iSame _ h5).ev)))))
 have q6:=((sSolidOk _ h6).and ((iSolidOk d.1.2.2.2.2.2.1).and ((cnt _ h6).and ((iNodesR d.1.2.2.2.2.2.1).and ((iSame _ h6).ev)))))
 have q7:=((sSolidOk _ h7).and ((iSolidOk d.1.2.2.2.2.2.2.1).and ((cnt _ h7).and ((iNodesR d.1.2.2.2.2.2.2.1).and ((iSame _ h7).ev)))))
 have q8:=((sSolidOk _ h8).and ((iSolidOk d.1.2.2.2.2.2.2.2).and ((cnt _ h8).and ((iNodesR d.1.2.2.2.2.2.2.2).and ((iSame _ h8).ev)))))
 refine(q1.and (q2.and (q3.and (q4.and (q5.and (q6.and (q7.and (q8)))))))).mono fun n ⟨e1,e2,e3,e4,e5,e6,e7,e8⟩=>?_
 exact⟨e1.1,e1.2.1,e1.2.2.1,e1.2.2.2.1,e1.2.2.2.2 zs,e2.1,e2.2.1,e2.2.2.1,e2.2.2.2.1,e2.2.2.2.2 zs,e3.1,e3.2.1,e3.2.2.1,e3.2.2.2.1,e3.2.2.2.2 zs,e4.1,e4.2.1,e4.2.2.1,e4.2.2.2.1,e4.2.2.2.2 zs,e5.1,e5.2.1,e5.2.2.1,e5.2.2.2.1,e5.2.2.2.2 zs,e6.1,e6.2.1,e6.2.2.1,e6.2.2.2.1,e6.2.2.2.2 zs,e7.1,e7.2.1,e7.2.2.1,e7.2.2.2.1,e7.2.2.2.2 zs,e8.1,e8.2.1,e8.2.2.1,e8.2.2.2.1,e8.2.2.2.2 zs⟩
theorem iChain{n:Nat}{d:S8×B8}(F:DF n d):Di_DeskOk n d=frk (rt d.1.1&&(d.2.1||isz d.1.1)) (frk (rt d.1.2.1&&(d.2.2.1||isz d.1.2.1)) (frk (rt d.1.2.2.1&&(d.2.2.2.1||isz d.1.2.2.1)) (frk (rt d.1.2.2.2.1&&(d.2.2.2.2.1||isz d.1.2.2.2.1)) (frk (rt d.1.2.2.2.2.1&&(d.2.2.2.2.2.1||isz d.1.2.2.2.2.1)) (frk (rt d.1.2.2.2.2.2.1&&(d.2.2.2.2.2.2.1||isz d.1.2.2.2.2.2.1)) (frk (rt d.1.2.2.2.2.2.2.1&&(d.2.2.2.2.2.2.2.1||isz d.1.2.2.2.2.2.2.1)) (frk (rt d.1.2.2.2.2.2.2.2&&(d.2.2.2.2.2.2.2.2||isz d.1.2.2.2.2.2.2.2)) ((Di_Desk_held n d).bind fun v=>some (decide (v≤900))) (some false)) (some false)) (some false)) (some false)) (some false)) (some false)) (some false)) (some false):=by
 have e8:Di_DeskOk_9 n d=frk (rt d.1.2.2.2.2.2.2.2&&(d.2.2.2.2.2.2.2.2||isz d.1.2.2.2.2.2.2.2)) (Di_DeskOk_8 n d) (some false):=by
  rw[←stI_eq]
  unfold Di_DeskOk_9
  show (Di_SolidOk n d.1.2.2.2.2.2.2.2).bind _=_
  rw[F.iok8,oBs]
  show frk _ _ (frk _ ((Di_SameTree n d.1.2.2.2.2.2.2.2 zs).bind _) _)=_
  rw[F.sm8,oBs]
  rfl
 have e7:Di_DeskOk_10 n d=frk (rt d.1.2.2.2.2.2.2.1&&(d.2.2.2.2.2.2.2.1||isz d.1.2.2.2.2.2.2.1)) (Di_DeskOk_9 n d) (some false):=by
  rw[←stI_eq]
  unfold Di_DeskOk_10
  show (Di_SolidOk n d.1.2.2.2.2.2.2.1).bind _=_
  rw[F.iok7,oBs]
  show frk _ _ (frk _ ((Di_SameTree n d.1.2.2.2.2.2.2.1 zs).bind _) _)=_
  rw[F.sm7,oBs]
  rfl
 have e6:Di_DeskOk_11 n d=frk (rt d.1.2.2.2.2.2.1&&(d.2.2.2.2.2.2.1||isz d.1.2.2.2.2.2.1)) (Di_DeskOk_10 n d) (some false):=by
  rw[←stI_eq]
  unfold Di_DeskOk_11
  show (Di_SolidOk n d.1.2.2.2.2.2.1).bind _=_
  rw[F.iok6,oBs]
  show frk _ _ (frk _ ((Di_SameTree n d.1.2.2.2.2.2.1 zs).bind _) _)=_
  rw[F.sm6,oBs]
  rfl
 have e5:Di_DeskOk_12 n d=frk (rt d.1.2.2.2.2.1&&(d.2.2.2.2.2.1||isz d.1.2.2.2.2.1)) (Di_DeskOk_11 n d) (some false):=by
  rw[←stI_eq]
  unfold Di_DeskOk_12
  show (Di_SolidOk n d.1.2.2.2.2.1).bind _=_
  rw[F.iok5,oBs]
  show frk _ _ (frk _ ((Di_SameTree n d.1.2.2.2.2.1 zs).bind _) _)=_
  rw[F.sm5,oBs]
  rfl
 have e4:Di_DeskOk_13 n d=frk (rt d.1.2.2.2.1&&(d.2.2.2.2.1||isz d.1.2.2.2.1)) (Di_DeskOk_12 n d) (some false):=by
  rw[←stI_eq]
  unfold Di_DeskOk_13
  show (Di_SolidOk n d.1.2.2.2.1).bind _=_
  rw[F.iok4,oBs]
  show frk _ _ (frk _ ((Di_SameTree n d.1.2.2.2.1 zs).bind _) _)=_
  rw[F.sm4,oBs]
  rfl
 have e3:Di_DeskOk_14 n d=frk (rt d.1.2.2.1&&(d.2.2.2.1||isz d.1.2.2.1)) (Di_DeskOk_13 n d) (some false):=by
  rw[←stI_eq]
  unfold Di_DeskOk_14
  show (Di_SolidOk n d.1.2.2.1).bind _=_
  rw[F.iok3,oBs]
  show frk _ _ (frk _ ((Di_SameTree n d.1.2.2.1 zs).bind _) _)=_
  rw[F.sm3,oBs]
  rfl
 have e2:Di_DeskOk_15 n d=frk (rt d.1.2.1&&(d.2.2.1||isz d.1.2.1)) (Di_DeskOk_14 n d) (some false):=by
  rw[←stI_eq]
  unfold Di_DeskOk_15
  show (Di_SolidOk n d.1.2.1).bind _=_
  rw[F.iok2,oBs]
  show frk _ _ (frk _ ((Di_SameTree n d.1.2.1 zs).bind _) _)=_
  rw[F.sm2,oBs]
  rfl
 have e1:Di_DeskOk n d=frk (rt d.1.1&&(d.2.1||isz d.1.1)) (Di_DeskOk_15 n d) (some false):=by
  rw[←stI_eq]
  unfold Di_DeskOk
  show (Di_SolidOk n d.1.1).bind _=_
  rw[F.iok1,oBs]
  show frk _ _ (frk _ ((Di_SameTree n d.1.1 zs).bind _) _)=_
  rw[F.sm1,oBs]
  rfl
 rw[e1,e2,e3,e4,e5,e6,e7,e8]
 rfl
theorem sChain{n:Nat}{d:S8×B8}(F:DF n d):Dp_DeskOk n d=frk (rt d.1.1&&(d.2.1||isz d.1.1)) (frk (rt d.1.2.1&&(d.2.2.1||isz d.1.2.1)) (frk (rt d.1.2.2.1&&(d.2.2.2.1||isz d.1.2.2.1)) (frk (rt d.1.2.2.2.1&&(d.2.2.2.2.1||isz d.1.2.2.2.1)) (frk (rt d.1.2.2.2.2.1&&(d.2.2.2.2.2.1||isz d.1.2.2.2.2.1)) (frk (rt d.1.2.2.2.2.2.1&&(d.2.2.2.2.2.2.1||isz d.1.2.2.2.2.2.1)) (frk (rt d.1.2.2.2.2.2.2.1&&(d.2.2.2.2.2.2.2.1||isz d.1.2.2.2.2.2.2.1)) (frk (rt d.1.2.2.2.2.2.2.2&&(d.2.2.2.2.2.2.2.2||isz d.1.2.2.2.2.2.2.2)) (some (decide ((w64 ((w64 ((w64 ((w64 ((w64 ((w64 ((w64 ((w64 (0+cnv (nod d.1.1) 301))+cnv (nod d.1.2.1) 301))+cnv (nod d.1.2.2.1) 301))+cnv (nod d.1.2.2.2.1) 301))+cnv (nod d.1.2.2.2.2.1) 301))+cnv (nod d.1.2.2.2.2.2.1) 301))+cnv (nod d.1.2.2.2.2.2.2.1) 301))+cnv (nod d.1.2.2.2.2.2.2.2) 301))≤900))) (some false)) (some false)) (some false)) (some false)) (some false)) (some false)) (some false)) (some false):=by
 have e9:Dp_DeskOk_8 n (w64 ((w64 ((w64 ((w64 ((w64 ((w64 ((w64 (0+cnv (nod d.1.1) 301))+cnv (nod d.1.2.1) 301))+cnv (nod d.1.2.2.1) 301))+cnv (nod d.1.2.2.2.1) 301))+cnv (nod d.1.2.2.2.2.1) 301))+cnv (nod d.1.2.2.2.2.2.1) 301))+cnv (nod d.1.2.2.2.2.2.2.1) 301)) d=some (decide ((w64 ((w64 ((w64 ((w64 ((w64 ((w64 ((w64 ((w64 (0+cnv (nod d.1.1) 301))+cnv (nod d.1.2.1) 301))+cnv (nod d.1.2.2.1) 301))+cnv (nod d.1.2.2.2.1) 301))+cnv (nod d.1.2.2.2.2.1) 301))+cnv (nod d.1.2.2.2.2.2.1) 301))+cnv (nod d.1.2.2.2.2.2.2.1) 301))+cnv (nod d.1.2.2.2.2.2.2.2) 301))≤900)):=by
  unfold Dp_DeskOk_8
  rw[F.cn8,oBs]
 have e8:Dp_DeskOk_9 n (w64 ((w64 ((w64 ((w64 ((w64 ((w64 (0+cnv (nod d.1.1) 301))+cnv (nod d.1.2.1) 301))+cnv (nod d.1.2.2.1) 301))+cnv (nod d.1.2.2.2.1) 301))+cnv (nod d.1.2.2.2.2.1) 301))+cnv (nod d.1.2.2.2.2.2.1) 301)) d=frk (rt d.1.2.2.2.2.2.2.2&&(d.2.2.2.2.2.2.2.2||isz d.1.2.2.2.2.2.2.2)) (Dp_DeskOk_8 n (w64 ((w64 ((w64 ((w64 ((w64 ((w64 ((w64 (0+cnv (nod d.1.1) 301))+cnv (nod d.1.2.1) 301))+cnv (nod d.1.2.2.1) 301))+cnv (nod d.1.2.2.2.1) 301))+cnv (nod d.1.2.2.2.2.1) 301))+cnv (nod d.1.2.2.2.2.2.1) 301))+cnv (nod d.1.2.2.2.2.2.2.1) 301)) d) (some false):=by
  rw[←stS_eq _ _ _ _ isz_rt]
  unfold Dp_DeskOk_9
  rw[F.cn7,oBs]
  rw[F.sok8,none_eq]
  simp only[oBs]
  rfl
 have e7:Dp_DeskOk_10 n (w64 ((w64 ((w64 ((w64 ((w64 (0+cnv (nod d.1.1) 301))+cnv (nod d.1.2.1) 301))+cnv (nod d.1.2.2.1) 301))+cnv (nod d.1.2.2.2.1) 301))+cnv (nod d.1.2.2.2.2.1) 301)) d=frk (rt d.1.2.2.2.2.2.2.1&&(d.2.2.2.2.2.2.2.1||isz d.1.2.2.2.2.2.2.1)) (Dp_DeskOk_9 n (w64 ((w64 ((w64 ((w64 ((w64 ((w64 (0+cnv (nod d.1.1) 301))+cnv (nod d.1.2.1) 301))+cnv (nod d.1.2.2.1) 301))+cnv (nod d.1.2.2.2.1) 301))+cnv (nod d.1.2.2.2.2.1) 301))+cnv (nod d.1.2.2.2.2.2.1) 301)) d) (some false):=by
  rw[←stS_eq _ _ _ _ isz_rt]
  unfold Dp_DeskOk_10
  rw[F.cn6,oBs]
  rw[F.sok7,none_eq]
  simp only[oBs]
  rfl
 have e6:Dp_DeskOk_11 n (w64 ((w64 ((w64 ((w64 (0+cnv (nod d.1.1) 301))+cnv (nod d.1.2.1) 301))+cnv (nod d.1.2.2.1) 301))+cnv (nod d.1.2.2.2.1) 301)) d=frk (rt d.1.2.2.2.2.2.1&&(d.2.2.2.2.2.2.1||isz d.1.2.2.2.2.2.1)) (Dp_DeskOk_10 n (w64 ((w64 ((w64 ((w64 ((w64 (0+cnv (nod d.1.1) 301))+cnv (nod d.1.2.1) 301))+cnv (nod d.1.2.2.1) 301))+cnv (nod d.1.2.2.2.1) 301))+cnv (nod d.1.2.2.2.2.1) 301)) d) (some false):=by
  rw[←stS_eq _ _ _ _ isz_rt]
  unfold Dp_DeskOk_11
  rw[F.cn5,oBs]
  rw[F.sok6,none_eq]
  simp only[oBs]
  rfl
 have e5:Dp_DeskOk_12 n (w64 ((w64 ((w64 (0+cnv (nod d.1.1) 301))+cnv (nod d.1.2.1) 301))+cnv (nod d.1.2.2.1) 301)) d=frk (rt d.1.2.2.2.2.1&&(d.2.2.2.2.2.1||isz d.1.2.2.2.2.1)) (Dp_DeskOk_11 n (w64 ((w64 ((w64 ((w64 (0+cnv (nod d.1.1) 301))+cnv (nod d.1.2.1) 301))+cnv (nod d.1.2.2.1) 301))+cnv (nod d.1.2.2.2.1) 301)) d) (some false):=by
  rw[←stS_eq _ _ _ _ isz_rt]
  unfold Dp_DeskOk_12
  rw[F.cn4,oBs]
  rw[F.sok5,none_eq]
  simp only[oBs]
  rfl
 have e4:Dp_DeskOk_13 n (w64 ((w64 (0+cnv (nod d.1.1) 301))+cnv (nod d.1.2.1) 301)) d=frk (rt d.1.2.2.2.1&&(d.2.2.2.2.1||isz d.1.2.2.2.1)) (Dp_DeskOk_12 n (w64 ((w64 ((w64 (0+cnv (nod d.1.1) 301))+cnv (nod d.1.2.1) 301))+cnv (nod d.1.2.2.1) 301)) d) (some false):=by
  rw[←stS_eq _ _ _ _ isz_rt]
  unfold Dp_DeskOk_13
  rw[F.cn3,oBs]
  rw[F.sok4,none_eq]
  simp only[oBs]
  rfl
 have e3:Dp_DeskOk_14 n (w64 (0+cnv (nod d.1.1) 301)) d=frk (rt d.1.2.2.1&&(d.2.2.2.1||isz d.1.2.2.1)) (Dp_DeskOk_13 n (w64 ((w64 (0+cnv (nod d.1.1) 301))+cnv (nod d.1.2.1) 301)) d) (some false):=by
  rw[←stS_eq _ _ _ _ isz_rt]
  unfold Dp_DeskOk_14
  rw[F.cn2,oBs]
  rw[F.sok3,none_eq]
  simp only[oBs]
  rfl
 have e2:Dp_DeskOk_15 n d=frk (rt d.1.2.1&&(d.2.2.1||isz d.1.2.1)) (Dp_DeskOk_14 n (w64 (0+cnv (nod d.1.1) 301)) d) (some false):=by
  rw[←stS_eq _ _ _ _ isz_rt]
  unfold Dp_DeskOk_15
  rw[F.cn1,oBs]
  rw[F.sok2,none_eq]
  simp only[oBs]
  rfl
 have e1:Dp_DeskOk n d=frk (rt d.1.1&&(d.2.1||isz d.1.1)) (Dp_DeskOk_15 n d) (some false):=by
  rw[←stS_eq _ _ _ _ isz_rt]
  unfold Dp_DeskOk
  rw[F.sok1,none_eq]
  simp only[oBs]
  rfl
 rw[e1,e2,e3,e4,e5,e6,e7,e8,e9]
theorem deskHeldOk{n:Nat}{d:S8×B8}(F:DF n d)(h1:Right d.1.1)(h2:Right d.1.2.1)(h3:Right d.1.2.2.1)(h4:Right d.1.2.2.2.1)(h5:Right d.1.2.2.2.2.1)(h6:Right d.1.2.2.2.2.2.1)(h7:Right d.1.2.2.2.2.2.2.1)(h8:Right d.1.2.2.2.2.2.2.2):Di_Desk_held n d=some (w64 ((w64 ((w64 ((w64 ((w64 ((w64 ((w64 ((w64 (0+cnv (nod d.1.1) 301))+cnv (nod d.1.2.1) 301))+cnv (nod d.1.2.2.1) 301))+cnv (nod d.1.2.2.2.1) 301))+cnv (nod d.1.2.2.2.2.1) 301))+cnv (nod d.1.2.2.2.2.2.1) 301))+cnv (nod d.1.2.2.2.2.2.2.1) 301))+cnv (nod d.1.2.2.2.2.2.2.2) 301)):=by
 unfold Di_Desk_held
 rw[F.nd1 h1,oBs,F.nd2 h2,oBs,F.nd3 h3,oBs,F.nd4 h4,oBs,F.nd5 h5,oBs,F.nd6 h6,oBs,F.nd7 h7,oBs,F.nd8 h8,oBs]
 have c1:=h1.2
 have c2:=h2.2
 have c3:=h3.2
 have c4:=h4.2
 have c5:=h5.2
 have c6:=h6.2
 have c7:=h7.2
 have c8:=h8.2
 rw[cnv_yes (t:=nod d.1.1) (left:=301) (by omega),cnv_yes (t:=nod d.1.2.1) (left:=301) (by omega),cnv_yes (t:=nod d.1.2.2.1) (left:=301) (by omega),cnv_yes (t:=nod d.1.2.2.2.1) (left:=301) (by omega),cnv_yes (t:=nod d.1.2.2.2.2.1) (left:=301) (by omega),cnv_yes (t:=nod d.1.2.2.2.2.2.1) (left:=301) (by omega),cnv_yes (t:=nod d.1.2.2.2.2.2.2.1) (left:=301) (by omega),cnv_yes (t:=nod d.1.2.2.2.2.2.2.2) (left:=301) (by omega)]
theorem good{s:Sol}{h:Bool}(g:(rt s&&(h||isz s))=true):Right s:=by
 simp only[bAt] at g;exact rt_iff.1 g.1
theorem deskEq{n:Nat}{d:S8×B8}(F:DF n d):Di_DeskOk n d=Dp_DeskOk n d:=by
 rw[iChain F,sChain F]
 refine frk_congr fun g1=>frk_congr fun g2=>frk_congr fun g3=>frk_congr fun g4=>frk_congr fun g5=>frk_congr fun g6=>frk_congr fun g7=>frk_congr fun g8=>?_
 rw[deskHeldOk F (good g1) (good g2) (good g3) (good g4) (good g5) (good g6) (good g7) (good g8),oBs]
end Evl.T
namespace Evl.T
open Go Evl
abbrev Dsk:=S8×B8
def TotD (d:Dsk):Prop:=tot d.1.1≤1048576∧tot d.1.2.1≤1048576∧tot d.1.2.2.1≤1048576∧tot d.1.2.2.2.1≤1048576∧tot d.1.2.2.2.2.1≤1048576∧tot d.1.2.2.2.2.2.1≤1048576∧tot d.1.2.2.2.2.2.2.1≤1048576∧tot d.1.2.2.2.2.2.2.2≤1048576
def LenD (d:Dsk):Prop:=Lens d.1.1∧Lens d.1.2.1∧Lens d.1.2.2.1∧Lens d.1.2.2.2.1∧Lens d.1.2.2.2.2.1∧Lens d.1.2.2.2.2.2.1∧Lens d.1.2.2.2.2.2.2.1∧Lens d.1.2.2.2.2.2.2.2
theorem sCopyD{d:Dsk}(t:TotD d):Ev fun n=>Dp_l20Copy n d=some d:=by
 obtain⟨t1,t2,t3,t4,t5,t6,t7,t8⟩:=t
 refine((sCopyE t1).and ( (sCopyE t2).and ( (sCopyE t3).and ( (sCopyE t4).and ( (sCopyE t5).and ( (sCopyE t6).and ( (sCopyE t7).and (sCopyE t8)))))))).mono fun n ⟨e1,e2,e3,e4,e5,e6,e7,e8⟩=>?_
 unfold Dp_l20Copy
 rw[e1,oBs,e2,oBs,e3,oBs,e4,oBs,e5,oBs,e6,oBs,e7,oBs,e8,oBs]
theorem iCopyD{d:Dsk}(t:TotD d):Ev fun n=>Di_copyDesk n d=some d:=by
 obtain⟨t1,t2,t3,t4,t5,t6,t7,t8⟩:=t
 refine((iCopyE t1).and ( (iCopyE t2).and ( (iCopyE t3).and ( (iCopyE t4).and ( (iCopyE t5).and ( (iCopyE t6).and ( (iCopyE t7).and (iCopyE t8)))))))).mono fun n ⟨e1,e2,e3,e4,e5,e6,e7,e8⟩=>?_
 unfold Di_copyDesk
 rw[e1,oBs,e2,oBs,e3,oBs,e4,oBs,e5,oBs,e6,oBs,e7,oBs,e8,oBs]
def isPl (i:Int):Bool:=rIn i 0 7
theorem sPlace(i:Int):Dp_l20At i=some (isPl i):=by unfold Dp_l20At;rw[sIn];rfl
theorem iPlace(i:Int):Di_isPlace i=some (isPl i):=by unfold Di_isPlace;rw[iIn];rfl
theorem isPl_cases{i:Int}(h:isPl i=true):i=0∨i=1∨i=2∨i=3∨i=4∨i=5∨i=6∨i=7:=by have:=rIn_iff.1 h;omega
def putD (d:Dsk)(i:Int)(s:Sol)(b:Bool):Dsk :=
 if i=0 then ((s,d.1.2.1,d.1.2.2.1,d.1.2.2.2.1,d.1.2.2.2.2.1,d.1.2.2.2.2.2.1,d.1.2.2.2.2.2.2.1,d.1.2.2.2.2.2.2.2),(b,d.2.2.1,d.2.2.2.1,d.2.2.2.2.1,d.2.2.2.2.2.1,d.2.2.2.2.2.2.1,d.2.2.2.2.2.2.2.1,d.2.2.2.2.2.2.2.2)) else if i=1 then ((d.1.1,s,d.1.2.2.1,d.1.2.2.2.1,d.1.2.2.2.2.1,d.1.2.2.2.2.2.1,d.1.2.2.2.2.2.2.1,d.1.2.2.2.2.2.2.2),(d.2.1,b,d.2.2.2.1,d.2.2.2.2.1,d.2.2.2.2.2.1,d.2.2.2.2.2.2.1,d.2.2.2.2.2.2.2.1,d.2.2.2.2.2.2.2.2)) else if i=2 then ((d.1.1,d.1.2.1,s,d.1.2.2.2.1,d.1.2.2.2.2.1,d.1.2.2.2.2.2.1,d.1.2.2.2.2.2.2.1,d.1.2.2.2.2.2.2.2),(d.2.1,d.2.2.1,b,d.2.2.2.2.1,d.2.2.2.2.2.1,d.2.2.2.2.2.2.1,d.2.2.2.2.2.2.2.1,d.2.2.2.2.2.2.2.2)) else if i=3 then ((d.1.1,d.1.2.1,d.1.2.2.1,s,d.1.2.2.2.2.1,d.1.2.2.2.2.2.1,d.1.2.2.2.2.2.2.1,d.1.2.2.2.2.2.2.2),(d.2.1,d.2.2.1,d.2.2.2.1,b,d.2.2.2.2.2.1,d.2.2.2.2.2.2.1,d.2.2.2.2.2.2.2.1,d.2.2.2.2.2.2.2.2)) else if i=4 then ((d.1.1,d.1.2.1,d.1.2.2.1,d.1.2.2.2.1,s,d.1.2.2.2.2.2.1,d.1.2.2.2.2.2.2.1,d.1.2.2.2.2.2.2.2),(d.2.1,d.2.2.1,d.2.2.2.1,d.2.2.2.2.1,b,d.2.2.2.2.2.2.1,d.2.2.2.2.2.2.2.1,d.2.2.2.2.2.2.2.2)) else if i=5 then ((d.1.1,d.1.2.1,d.1.2.2.1,d.1.2.2.2.1,d.1.2.2.2.2.1,s,d.1.2.2.2.2.2.2.1,d.1.2.2.2.2.2.2.2),(d.2.1,d.2.2.1,d.2.2.2.1,d.2.2.2.2.1,d.2.2.2.2.2.1,b,d.2.2.2.2.2.2.2.1,d.2.2.2.2.2.2.2.2)) else if i=6 then ((d.1.1,d.1.2.1,d.1.2.2.1,d.1.2.2.2.1,d.1.2.2.2.2.1,d.1.2.2.2.2.2.1,s,d.1.2.2.2.2.2.2.2),(d.2.1,d.2.2.1,d.2.2.2.1,d.2.2.2.2.1,d.2.2.2.2.2.1,d.2.2.2.2.2.2.1,b,d.2.2.2.2.2.2.2.2)) else if i=7 then ((d.1.1,d.1.2.1,d.1.2.2.1,d.1.2.2.2.1,d.1.2.2.2.2.1,d.1.2.2.2.2.2.1,d.1.2.2.2.2.2.2.1,s),(d.2.1,d.2.2.1,d.2.2.2.1,d.2.2.2.2.1,d.2.2.2.2.2.1,d.2.2.2.2.2.2.1,d.2.2.2.2.2.2.2.1,b)) else d
def heldAtD(d:Dsk)(i:Int):Bool:=if i=0 then d.2.1 else if i=1 then d.2.2.1 else if i=2 then d.2.2.2.1 else if i=3 then d.2.2.2.2.1 else if i=4 then d.2.2.2.2.2.1 else if i=5 then d.2.2.2.2.2.2.1 else if i=6 then d.2.2.2.2.2.2.2.1 else if i=7 then d.2.2.2.2.2.2.2.2 else false
theorem LenD.put{d:Dsk}(h:LenD d)(i:Int){s:Sol}(hs:Lens s)(b:Bool):LenD (putD d i s b):=by
 obtain⟨h1,h2,h3,h4,h5,h6,h7,h8⟩:=h
 unfold putD
 by_cases c0:i=0
 ·rw[if_pos c0];exact⟨hs,h2,h3,h4,h5,h6,h7,h8⟩
 rw[if_neg c0]
 by_cases c1:i=1
 ·rw[if_pos c1];exact⟨h1,hs,h3,h4,h5,h6,h7,h8⟩
 rw[if_neg c1]
 by_cases c2:i=2
 ·rw[if_pos c2];exact⟨h1,h2,hs,h4,h5,h6,h7,h8⟩
 rw[if_neg c2]
 by_cases c3:i=3
 ·rw[if_pos c3];exact⟨h1,h2,h3,hs,h5,h6,h7,h8⟩
 rw[if_neg c3]
 by_cases c4:i=4
 ·rw[if_pos c4];exact⟨h1,h2,h3,h4,hs,h6,h7,h8⟩
 rw[if_neg c4]
 by_cases c5:i=5
 ·rw[if_pos c5];exact⟨h1,h2,h3,h4,h5,hs,h7,h8⟩
 rw[if_neg c5]
 by_cases c6:i=6
 ·rw[if_pos c6];exact⟨h1,h2,h3,h4,h5,h6,hs,h8⟩
 rw[if_neg c6]
 by_cases c7:i=7
 ·rw[if_pos c7];exact⟨h1,h2,h3,h4,h5,h6,h7,hs⟩
 rw[if_neg c7]
 exact⟨h1,h2,h3,h4,h5,h6,h7,h8⟩
def GD (d:Dsk):Prop:=((rt d.1.1&&(d.2.1||isz d.1.1))=true)∧((rt d.1.2.1&&(d.2.2.1||isz d.1.2.1))=true)∧((rt d.1.2.2.1&&(d.2.2.2.1||isz d.1.2.2.1))=true)∧((rt d.1.2.2.2.1&&(d.2.2.2.2.1||isz d.1.2.2.2.1))=true)∧((rt d.1.2.2.2.2.1&&(d.2.2.2.2.2.1||isz d.1.2.2.2.2.1))=true)∧((rt d.1.2.2.2.2.2.1&&(d.2.2.2.2.2.2.1||isz d.1.2.2.2.2.2.1))=true)∧((rt d.1.2.2.2.2.2.2.1&&(d.2.2.2.2.2.2.2.1||isz d.1.2.2.2.2.2.2.1))=true)∧((rt d.1.2.2.2.2.2.2.2&&(d.2.2.2.2.2.2.2.2||isz d.1.2.2.2.2.2.2.2))=true)
def hsD (d:Dsk):Int:=w64 ((w64 ((w64 ((w64 ((w64 ((w64 ((w64 ((w64 (0+cnv (nod d.1.1) 301))+cnv (nod d.1.2.1) 301))+cnv (nod d.1.2.2.1) 301))+cnv (nod d.1.2.2.2.1) 301))+cnv (nod d.1.2.2.2.2.1) 301))+cnv (nod d.1.2.2.2.2.2.1) 301))+cnv (nod d.1.2.2.2.2.2.2.1) 301))+cnv (nod d.1.2.2.2.2.2.2.2) 301)
theorem deskChain{n:Nat}{d:Dsk}(F:DF n d):Dp_DeskOk n d=frk (rt d.1.1&&(d.2.1||isz d.1.1)) (frk (rt d.1.2.1&&(d.2.2.1||isz d.1.2.1)) (frk (rt d.1.2.2.1&&(d.2.2.2.1||isz d.1.2.2.1)) (frk (rt d.1.2.2.2.1&&(d.2.2.2.2.1||isz d.1.2.2.2.1)) (frk (rt d.1.2.2.2.2.1&&(d.2.2.2.2.2.1||isz d.1.2.2.2.2.1)) (frk (rt d.1.2.2.2.2.2.1&&(d.2.2.2.2.2.2.1||isz d.1.2.2.2.2.2.1)) (frk (rt d.1.2.2.2.2.2.2.1&&(d.2.2.2.2.2.2.2.1||isz d.1.2.2.2.2.2.2.1)) (frk (rt d.1.2.2.2.2.2.2.2&&(d.2.2.2.2.2.2.2.2||isz d.1.2.2.2.2.2.2.2)) (some (decide (hsD d≤900))) (some false)) (some false)) (some false)) (some false)) (some false)) (some false)) (some false)) (some false):=sChain F
theorem GD.ok{n:Nat}{d:Dsk}(F:DF n d)(g:GD d):Dp_DeskOk n d=some (decide (hsD d≤900))∧Di_Desk_held n d=some (hsD d):=by
 obtain⟨g0,g1,g2,g3,g4,g5,g6,g7⟩:=g
 refine⟨?_,deskHeldOk F (good g0) (good g1) (good g2) (good g3) (good g4) (good g5) (good g6) (good g7)⟩
 rw[deskChain F,g0,frk_t,g1,frk_t,g2,frk_t,g3,frk_t,g4,frk_t,g5,frk_t,g6,frk_t,g7,frk_t]
theorem GD.put{d:Dsk}(h:GD d)(i:Int){s:Sol}(hs:Right s):GD (putD d i s true):=by
 obtain⟨h1,h2,h3,h4,h5,h6,h7,h8⟩:=h
 have hg:(rt s&&(true||isz s))=true:=by rw[rt_iff.2 hs];rfl
 unfold putD
 by_cases c0:i=0
 ·rw[if_pos c0];exact⟨hg,h2,h3,h4,h5,h6,h7,h8⟩
 rw[if_neg c0]
 by_cases c1:i=1
 ·rw[if_pos c1];exact⟨h1,hg,h3,h4,h5,h6,h7,h8⟩
 rw[if_neg c1]
 by_cases c2:i=2
 ·rw[if_pos c2];exact⟨h1,h2,hg,h4,h5,h6,h7,h8⟩
 rw[if_neg c2]
 by_cases c3:i=3
 ·rw[if_pos c3];exact⟨h1,h2,h3,hg,h5,h6,h7,h8⟩
 rw[if_neg c3]
 by_cases c4:i=4
 ·rw[if_pos c4];exact⟨h1,h2,h3,h4,hg,h6,h7,h8⟩
 rw[if_neg c4]
 by_cases c5:i=5
 ·rw[if_pos c5];exact⟨h1,h2,h3,h4,h5,hg,h7,h8⟩
 rw[if_neg c5]
 by_cases c6:i=6
 ·rw[if_pos c6];exact⟨h1,h2,h3,h4,h5,h6,hg,h8⟩
 rw[if_neg c6]
 by_cases c7:i=7
 ·rw[if_pos c7];exact⟨h1,h2,h3,h4,h5,h6,h7,hg⟩
 rw[if_neg c7]
 exact⟨h1,h2,h3,h4,h5,h6,h7,h8⟩
end Evl.T
namespace Evl.T
open Go Evl
def slotD(d:Dsk)(i:Int):Sol:=if i=0 then d.1.1 else if i=1 then d.1.2.1 else if i=2 then d.1.2.2.1 else if i=3 then d.1.2.2.2.1 else if i=4 then d.1.2.2.2.2.1 else if i=5 then d.1.2.2.2.2.2.1 else if i=6 then d.1.2.2.2.2.2.2.1 else d.1.2.2.2.2.2.2.2
theorem good_rt{s:Sol}{b:Bool}(h:(rt s&&b)=true):Right s:=rt_iff.1 (Bool.and_eq_true_iff.1 h).1
theorem GD.slot{d:Dsk}(g:GD d)(i:Int):Right (slotD d i):=by
 obtain⟨h0,h1,h2,h3,h4,h5,h6,h7⟩:=g
 unfold slotD
 split
 ·exact good_rt h0
 ·split
  ·exact good_rt h1
  ·split
   ·exact good_rt h2
   ·split
    ·exact good_rt h3
    ·split
     ·exact good_rt h4
     ·split
      ·exact good_rt h5
      ·split
       ·exact good_rt h6
       ·exact good_rt h7
theorem ksStep{n:Nat}{d:Dsk}{s:Sol}{i:Int}(hp:isPl i=true)(hc:Dp_l20Copy n d=some d)(hs:Dp_l8Copy n s=some s) :
  Dp_l20Keeps n d i s=(Dp_DeskOk n (putD d i s true)).bind fun v2=>frk (!v2) ((Dp_l20Copy n d).bind fun v3=>some (v3,3)) (some (putD d i s true,0)):=by
 unfold Dp_l20Keeps
 rw[hc,oBs,hs,oBs]
 unfold Dp_l20Keeps_0
 rw[hc]
 obtain⟨⟨⟨i0,p0,k0⟩,⟨i1,p1,k1⟩,⟨i2,p2,k2⟩,⟨i3,p3,k3⟩,⟨i4,p4,k4⟩,⟨i5,p5,k5⟩,⟨i6,p6,k6⟩,⟨i7,p7,k7⟩⟩,b0,b1,b2,b3,b4,b5,b6,b7⟩:=d
 obtain⟨i8,p8,k8⟩:=s
 rcases isPl_cases hp with rfl | rfl | rfl | rfl | rfl | rfl | rfl | rfl <;> rfl
theorem kiStep{n:Nat}{d:Dsk}{s:Sol}{i:Int}(hp:isPl i=true)(hc:Di_copyDesk n d=some d)(hs:Di_copySolid n s=some s) :
  Di_keep n d i s=(Di_Desk_held n (putD d i s true)).bind fun v2=>frk (decide (v2>900)) ((Di_copyDesk n d).bind fun v3=>some (v3,3)) (some (putD d i s true,0)):=by
 unfold Di_keep
 rw[hc,oBs,hs,oBs]
 unfold Di_keep_0
 rw[hc]
 obtain⟨⟨⟨i0,p0,k0⟩,⟨i1,p1,k1⟩,⟨i2,p2,k2⟩,⟨i3,p3,k3⟩,⟨i4,p4,k4⟩,⟨i5,p5,k5⟩,⟨i6,p6,k6⟩,⟨i7,p7,k7⟩⟩,b0,b1,b2,b3,b4,b5,b6,b7⟩:=d
 obtain⟨i8,p8,k8⟩:=s
 rcases isPl_cases hp with rfl | rfl | rfl | rfl | rfl | rfl | rfl | rfl <;> rfl
theorem GD.len{d:Dsk}(g:GD d):LenD d:=by
 obtain⟨h0,h1,h2,h3,h4,h5,h6,h7⟩:=g
 exact⟨(good_rt h0).1.tw.lens,(good_rt h1).1.tw.lens,(good_rt h2).1.tw.lens,(good_rt h3).1.tw.lens,(good_rt h4).1.tw.lens,(good_rt h5).1.tw.lens,(good_rt h6).1.tw.lens,(good_rt h7).1.tw.lens⟩
theorem rt_tot{t:Sol}(hr:Right t):tot t≤1048576:=by have:=hr.1.tw.tot;have:=hr.2;omega
theorem GD.tot{d:Dsk}(g:GD d):TotD d:=by
 obtain⟨h0,h1,h2,h3,h4,h5,h6,h7⟩:=g
 exact⟨rt_tot (good_rt h0),rt_tot (good_rt h1),rt_tot (good_rt h2),rt_tot (good_rt h3),rt_tot (good_rt h4),rt_tot (good_rt h5),rt_tot (good_rt h6),rt_tot (good_rt h7)⟩
def kp (d:Dsk)(i:Int)(t:Sol):Dsk×Int:=if hsD (putD d i t true)≤900 then (putD d i t true,0) else (d,3)
theorem keepEv{d:Dsk}(g:GD d){i:Int}(hp:isPl i=true){t:Sol}(hr:Right t):Ev fun n =>
  Dp_l20Keeps n d i t=some (kp d i t)∧Di_keep n d i t=some (kp d i t):=by
 have tl:=hr.1.tw.lens
 have tt:=rt_tot hr
 have g':=g.put i hr
 refine((sCopyD g.tot).and ((iCopyD g.tot).and ((sCopyE tt).and ((iCopyE tt).and (DF.ev (putD d i t true) (g.len.put i tl true)))))).mono fun n ⟨c1,c2,k1,k2,F⟩=>?_
 obtain⟨q1,q2⟩:=GD.ok F g'
 unfold kp
 by_cases h9:hsD (putD d i t true)≤900
 ·rw[if_pos h9,ksStep hp c1 k1,kiStep hp c2 k2,q1,q2,oBs,oBs,decide_eq_true h9,decide_eq_false (by omega)]
  exact⟨rfl,rfl⟩
 ·rw[if_neg h9,ksStep hp c1 k1,kiStep hp c2 k2,q1,q2,oBs,oBs,decide_eq_false h9,decide_eq_true (by omega),c1,c2]
  exact⟨rfl,rfl⟩
structure DK(d:Dsk):Prop where
 g:GD d
 h:hsD d≤900
theorem deskEv{d:Dsk}(k:DK d):Ev fun n=>Dp_DeskOk n d=some true∧Di_DeskOk n d=some true :=
 (DF.ev d k.g.len).mono fun n F=>by
  have q:=(GD.ok F k.g).1
  rw[decide_eq_true k.h] at q
  exact⟨q,by rw[deskEq F];exact q⟩
theorem DK.kp{d:Dsk}(k:DK d){i:Int}{t:Sol}(hr:Right t):DK (Evl.T.kp d i t).1:=by
 unfold Evl.T.kp
 split
 ·rename_i h9;exact⟨k.g.put i hr,h9⟩
 ·exact k
theorem DK.cps{d:Dsk}(k:DK d):Ev fun n=>(Dp_DeskOk n d=some true∧Di_DeskOk n d=some true)∧Dp_l20Copy n d=some d∧Di_copyDesk n d=some d:=(deskEv k).and ((sCopyD k.g.tot).and (iCopyD k.g.tot))
end Evl.T
namespace Evl.T
open Go Evl
set_option maxHeartbeats 1000000 in
theorem sMix1{n:Nat}{d:Dsk}{i a b op:Int}(ha:isPl a=true)(hb:isPl b=true):Dp_Mix_1 n i a b op false d=frk (!heldAtD d a) ((Dp_l20Copy n d).bind fun v=>some (v,2)) (frk (!heldAtD d b) ((Dp_l20Copy n d).bind fun v=>some (v,2)) ((Dp_Put n (slotD d a) (slotD d b) op).bind fun v=>Dp_Mix_3 n i (!v.2) d v.1.inn v.1.pl.A v.1.pl.B v.1.pl.C v.1.pl.D v.1.kids)):=by
 rcases isPl_cases ha with rfl | rfl | rfl | rfl | rfl | rfl | rfl | rfl <;> rcases isPl_cases hb with rfl | rfl | rfl | rfl | rfl | rfl | rfl | rfl <;> rfl
set_option maxHeartbeats 1000000 in
theorem iMix1{n:Nat}{d:Dsk}{i a b op:Int}(ha:isPl a=true)(hb:isPl b=true):Di_Mix_1 n i a b op false d=frk (!heldAtD d a) ((Di_copyDesk n d).bind fun v=>some (v,2)) (frk (!heldAtD d b) ((Di_copyDesk n d).bind fun v=>some (v,2)) ((Di_put n (slotD d a) (slotD d b) op).bind fun v=>Di_Mix_3 n i (!v.2) d v.1.inn v.1.pl.A v.1.pl.B v.1.pl.C v.1.pl.D v.1.kids)):=by
 rcases isPl_cases ha with rfl | rfl | rfl | rfl | rfl | rfl | rfl | rfl <;> rcases isPl_cases hb with rfl | rfl | rfl | rfl | rfl | rfl | rfl | rfl <;> rfl
theorem iOpB(x:Int):Di_isOp x=some (rIn x 1 4):=by unfold Di_isOp;rw[iIn];rfl
theorem mixHit{d:Dsk}(k:DK d){i a b op:Int}(hi:isPl i=true)(ha:isPl a=true)(hb:isPl b=true)(ho:rIn op 1 4=true)(hha:heldAtD d a=true)(hhb:heldAtD d b=true) :
  ∃y sb,Pt2 op (slotD d a) (slotD d b) [] y sb∧(¬(sb=false∧nod y≤300)→Ev fun n=>Dp_Mix n d i a b op=some (d,3)∧Di_Mix n d i a b op=some (d,3)) ∧
   (sb=false∧nod y≤300→∃t,Td y t∧Right t∧nod t≤nod y∧Ev fun n=>Dp_Mix n d i a b op=some (kp d i t)∧Di_Mix n d i a b op=some (kp d i t)):=by
 have E:=k.cps
 have go:∀n,Dp_DeskOk n d=some true→Di_DeskOk n d=some true→Dp_Mix n d i a b op=Dp_Mix_1 n i a b op false d∧Di_Mix n d i a b op=Di_Mix_1 n i a b op false d:=by
  intro n h1 h2
  unfold Dp_Mix Di_Mix
  rw[h1,h2]
  simp only[sPlace,iPlace,sIn,iOpB,hi,ha,hb,ho,oBs,Bool.not_true,frk_f]
  exact⟨trivial,trivial⟩
 have ra:=k.g.slot a
 have rb:=k.g.slot b
 obtain⟨z,ok,hB,hz,-,hy,hE⟩:=putEqS (slotD d a) (slotD d b) ra.1.tw.lens rb.1.tw.lens op
 obtain⟨y,sb,hy1,hy2,hy3,hy4⟩:=hy ⟨ra,rb,ho⟩
 refine⟨y,sb,hy1,fun hn=>?_,fun hn=>?_⟩
 ·have:ok=false:=by
   cases ok with
   | false=>rfl
   | true=>exact absurd (hy2.1 rfl) hn
  subst this
  refine(E.and hE).mono fun n ⟨⟨⟨h1,h2⟩,c1,c2⟩,f1,f2⟩=>?_
  obtain⟨q1,q2⟩:=go n h1 h2
  rw[q1,q2,sMix1 ha hb,iMix1 ha hb,hha,hhb,Bool.not_true,frk_f,frk_f,frk_f,frk_f,f1,f2 ⟨ra,rb,ho⟩,oBs,oBs]
  unfold Dp_Mix_3 Di_Mix_3
  rw[Bool.not_false,frk_t,frk_t,c1,c2];exact⟨rfl,rfl⟩
 ·have:ok=true:=hy2.2 hn
  subst this
  obtain rfl:=hy3 rfl
  obtain⟨t,t0,t1,t2,t3,t4⟩:=tidyT hy1.rt
  have hrt:Right t:=⟨t1,Nat.le_trans t2 hz⟩
  refine⟨t,t0,hrt,t2,(E.and (hE.and ((keepEv k.g hi hrt).and (t3.ev.and t4.ev)))).mono fun n ⟨⟨⟨h1,h2⟩,c1,c2⟩,⟨f1,f2⟩,⟨k1,k2⟩,f6,f7⟩=>?_⟩
  obtain⟨q1,q2⟩:=go n h1 h2
  have f6':Dp_l12Tidy n z=some t:=f6
  have f7':Di_tidy n z=some t:=f7
  rw[q1,q2,sMix1 ha hb,iMix1 ha hb,hha,hhb,Bool.not_true,frk_f,frk_f,frk_f,frk_f,f1,f2 ⟨ra,rb,ho⟩,oBs,oBs]
  unfold Dp_Mix_3 Di_Mix_3
  rw[Bool.not_true,frk_f,frk_f]
  simp only[sol_eq',f6',f7',k1,k2,oBs]
  exact⟨trivial,trivial⟩
theorem mixAll{d:Dsk}(k:DK d)(i a b op:Int):∃r:Dsk×Int,DK r.1∧Ev fun n=>Dp_Mix n d i a b op=some r:=by
 have E:=k.cps
 by_cases hok:isPl i=true∧isPl a=true∧isPl b=true∧rIn op 1 4=true
 ·obtain⟨hi,ha,hb,ho⟩:=hok
  have go:∀n,Dp_DeskOk n d=some true→Dp_Mix n d i a b op=Dp_Mix_1 n i a b op false d:=by
   intro n h1
   unfold Dp_Mix
   rw[h1]
   simp only[sPlace,sIn,hi,ha,hb,ho,oBs,Bool.not_true,frk_f]
  cases hha:heldAtD d a with
  | false =>
   refine⟨(d,2),k,E.mono fun n ⟨⟨h1,h2⟩,c1,c2⟩=>?_⟩
   rw[go n h1,sMix1 ha hb,hha,Bool.not_false,frk_t]
   rw[c1];rfl
  | true =>
   cases hhb:heldAtD d b with
   | false =>
    refine⟨(d,2),k,E.mono fun n ⟨⟨h1,h2⟩,c1,c2⟩=>?_⟩
    rw[go n h1,sMix1 ha hb,hha,hhb,Bool.not_false,Bool.not_true,frk_f,frk_t]
    rw[c1];rfl
   | true =>
    obtain⟨y,sb,-,h1,h2⟩:=mixHit k hi ha hb ho hha hhb
    by_cases hn:sb=false∧nod y≤300
    ·obtain⟨t,-,hr,-,hE⟩:=h2 hn
     exact⟨_,k.kp hr,hE.mono fun n h=>h.1⟩
    ·exact⟨_,k,(h1 hn).mono fun n h=>h.1⟩
 ·refine⟨(d,1),k,E.mono fun n ⟨⟨h1,h2⟩,c1,c2⟩=>?_⟩
  unfold Dp_Mix Dp_Mix_0
  rw[h1,c1]
  simp only[sPlace,sIn,oBs]
  cases hi:isPl i with
  | false=>rfl
  | true =>
   cases ha:isPl a with
   | false=>rfl
   | true =>
    cases hb:isPl b with
    | false=>rfl
    | true =>
     cases ho:rIn op 1 4 with
     | true=>exact absurd ⟨hi,ha,hb,ho⟩ hok
     | false =>
      simp only[Bool.not_true,Bool.not_false,frk_f]
      unfold Dp_Mix_1
      rw[c1];rfl
end Evl.T
namespace Evl.T
open Go Evl
set_option maxHeartbeats 1000000 in
theorem sMove1{n:Nat}{d:Dsk}{i a:Int}{x y z:Int}(ha:isPl a=true):Dp_Move_1 n i a false d x y z=frk (!heldAtD d a) ((Dp_l20Copy n d).bind fun v=>some (v,2)) ((Dp_ShiftSolid n (slotD d a) ⟨x,y,z⟩).bind fun v=>Dp_Move_3 n i (v.2 != 0) d v.1.inn v.1.pl.A v.1.pl.B v.1.pl.C v.1.pl.D v.1.kids):=by
 rcases isPl_cases ha with rfl | rfl | rfl | rfl | rfl | rfl | rfl | rfl <;> rfl
set_option maxHeartbeats 1000000 in
theorem iMove1{n:Nat}{d:Dsk}{i a:Int}{x y z:Int}(ha:isPl a=true):Di_Move_1 n i a false d x y z=frk (!heldAtD d a) ((Di_copyDesk n d).bind fun v=>some (v,2)) ((Di_ShiftSolid n (slotD d a) ⟨x,y,z⟩).bind fun v=>Di_Move_3 n i (v.2 != 0) d v.1.inn v.1.pl.A v.1.pl.B v.1.pl.C v.1.pl.D v.1.kids):=by
 rcases isPl_cases ha with rfl | rfl | rfl | rfl | rfl | rfl | rfl | rfl <;> rfl
theorem moveGo{d:Dsk}{i a:Int}{q:Pt}(hi:isPl i=true)(ha:isPl a=true)(hq:qtB q=true):∀n,Dp_DeskOk n d=some true→Di_DeskOk n d=some true→Dp_Move n d i a q=Dp_Move_1 n i a false d q.X q.Y q.Z∧Di_Move n d i a q=Di_Move_1 n i a false d q.X q.Y q.Z:=by
 intro n h1 h2
 unfold Dp_Move Di_Move
 rw[h1,h2]
 simp only[sPlace,iPlace,sQtOk,iQtOk,hi,ha,hq,oBs,Bool.not_true,frk_f]
 exact⟨trivial,trivial⟩
theorem moveHit{d:Dsk}(k:DK d){i a:Int}{q:Pt}(hi:isPl i=true)(ha:isPl a=true)(hq:qtB q=true)(hha:heldAtD d a=true){x:Sol}(hr:Right x)(hE:Ev fun n=>Di_ShiftSolid n (slotD d a) q=some (x,0)) :
  Ev fun n=>Di_Move n d i a q=some (kp d i x):=by
 refine(k.cps.and (hE.and (keepEv k.g hi hr))).mono fun n ⟨⟨⟨h1,h2⟩,c1,c2⟩,f2,k1,k2⟩=>?_
 rw[(moveGo hi ha hq n h1 h2).2,iMove1 ha,hha,Bool.not_true,frk_f,show Pt.mk q.X q.Y q.Z=q from rfl,f2,oBs]
 unfold Di_Move_3
 rw[show (((x,0):Sol×Int).2 != 0)=false from rfl,frk_f]
 simp only[sol_eq',k2,oBs]
theorem moveAll{d:Dsk}(k:DK d)(i a:Int)(q:Pt):∃r:Dsk×Int,DK r.1∧Ev fun n=>Dp_Move n d i a q=some r:=by
 have E:=k.cps
 by_cases hok:isPl i=true∧isPl a=true∧qtB q=true
 ·obtain⟨hi,ha,hq⟩:=hok
  cases hha:heldAtD d a with
  | false =>
   refine⟨(d,2),k,E.mono fun n ⟨⟨h1,h2⟩,c1,c2⟩=>?_⟩
   rw[(moveGo hi ha hq n h1 h2).1,sMove1 ha,hha,Bool.not_false,frk_t,c1];rfl
  | true =>
   have ra:=k.g.slot a
   obtain⟨x,c,hc,hx,tx,hE⟩:=shiftEq (slotD d a) ra.1.tw.lens (rt_tot ra) q
   by_cases h0:c=0
   ·obtain⟨-,-,k3,k4⟩:=hc h0
    have hrt:=shiftR ra hq k3 k4
    refine⟨_,k.kp (i:=i) hrt,(E.and (hE.and (keepEv k.g hi hrt))).mono fun n ⟨⟨⟨h1,h2⟩,c1,c2⟩,⟨f1,f2⟩,k1,k2⟩=>?_⟩
    rw[(moveGo hi ha hq n h1 h2).1,sMove1 ha,hha,Bool.not_true,frk_f,show Pt.mk q.X q.Y q.Z=q from rfl,f1,oBs]
    unfold Dp_Move_3
    rw[show ((x,c).2 != 0)=false by simpa using h0,frk_f]
    simp only[sol_eq',k1,oBs]
   ·refine⟨(d,3),k,(E.and hE).mono fun n ⟨⟨⟨h1,h2⟩,c1,c2⟩,f1,f2⟩=>?_⟩
    rw[(moveGo hi ha hq n h1 h2).1,sMove1 ha,hha,Bool.not_true,frk_f,show Pt.mk q.X q.Y q.Z=q from rfl,f1,oBs]
    unfold Dp_Move_3
    rw[show ((x,c).2 != 0)=true by simpa using h0,frk_t,c1];rfl
 ·refine⟨(d,1),k,E.mono fun n ⟨⟨h1,h2⟩,c1,c2⟩=>?_⟩
  unfold Dp_Move Dp_Move_0
  rw[h1,c1]
  simp only[sPlace,sQtOk,oBs]
  cases hi:isPl i with
  | false=>rfl
  | true =>
   cases ha:isPl a with
   | false=>rfl
   | true =>
    cases hq:qtB q with
    | true=>exact absurd ⟨hi,ha,hq⟩ hok
    | false =>
     simp only[Bool.not_true,Bool.not_false,frk_f]
     unfold Dp_Move_1
     rw[c1];rfl
open Classical in
theorem keepAll{d:Dsk}(k:DK d)(i:Int){s:Sol}(hr:Right s):Ev fun n=>Dp_Keep n d i s=some (if isPl i=true then kp d i s else (d,1))∧Di_Keep n d i s=some (if isPl i=true then kp d i s else (d,1)):=by
 have o:isPl i=true→Ev fun n=>Dp_l20Keeps n d i s=some (kp d i s)∧Di_keep n d i s=some (kp d i s):=fun h=>keepEv k.g h hr
 have o':Ev fun n=>isPl i=true→Dp_l20Keeps n d i s=some (kp d i s)∧Di_keep n d i s=some (kp d i s):=by
  by_cases h:isPl i=true
  ·exact(o h).mono fun n h _=>h
  ·exact Ev.of fun n h'=>absurd h' h
 refine(k.cps.and ((sSolidOk s hr.1.tw.lens).and ((iSolidOk s).and o'))).mono fun n ⟨⟨⟨h1,h2⟩,c1,c2⟩,o1,o2,o3⟩=>?_
 unfold Dp_Keep Di_Keep Dp_Keep_0 Di_Keep_0 Dp_Keep_1 Di_Keep_1
 rw[h1,h2,c1,c2,sPlace,iPlace,o1,o2,decide_eq_true hr]
 simp only[oBs,sol_eq']
 cases hp:isPl i with
 | false=>exact⟨rfl,rfl⟩
 | true =>
  obtain⟨k1,k2⟩:=o3 hp
  simp only[Bool.not_true,frk_f,k1,k2,oBs,if_true]
  exact⟨trivial,trivial⟩
theorem dropNo{d:Dsk}(k:DK d){i:Int}(hp:isPl i=true)(hh:heldAtD d i=false):Ev fun n=>Dp_Drop n d i=some (d,2)∧Di_Drop n d i=some (d,2):=by
 refine k.cps.mono fun n ⟨⟨h1,h2⟩,c1,c2⟩=>⟨?_,?_⟩
 ·unfold Dp_Drop
  rw[c1,oBs,h1,oBs,Bool.not_true,frk_f,sPlace,hp,oBs,Bool.not_true]
  obtain⟨⟨⟨i0,p0,k0⟩,⟨i1,p1,k1⟩,⟨i2,p2,k2⟩,⟨i3,p3,k3⟩,⟨i4,p4,k4⟩,⟨i5,p5,k5⟩,⟨i6,p6,k6⟩,⟨i7,p7,k7⟩⟩,b0,b1,b2,b3,b4,b5,b6,b7⟩:=d
  rcases isPl_cases hp with rfl | rfl | rfl | rfl | rfl | rfl | rfl | rfl <;> (cases hh;rfl)
 ·unfold Di_Drop
  rw[c2,oBs,iPlace,hp,oBs,Bool.not_true,frk_f,h2,oBs,Bool.not_true]
  obtain⟨⟨⟨i0,p0,k0⟩,⟨i1,p1,k1⟩,⟨i2,p2,k2⟩,⟨i3,p3,k3⟩,⟨i4,p4,k4⟩,⟨i5,p5,k5⟩,⟨i6,p6,k6⟩,⟨i7,p7,k7⟩⟩,b0,b1,b2,b3,b4,b5,b6,b7⟩:=d
  rcases isPl_cases hp with rfl | rfl | rfl | rfl | rfl | rfl | rfl | rfl <;> (cases hh;rfl)
theorem isz_zs:isz zs=true:=by unfold isz;simp
theorem GD.drop{d:Dsk}(h:GD d)(i:Int):GD (putD d i zs false):=by
 obtain⟨h1,h2,h3,h4,h5,h6,h7,h8⟩:=h
 have hg:(rt zs&&(false||isz zs))=true:=by rw[rt_iff.2 zs_right,isz_zs];rfl
 unfold putD
 by_cases c0:i=0
 ·rw[if_pos c0];exact⟨hg,h2,h3,h4,h5,h6,h7,h8⟩
 rw[if_neg c0]
 by_cases c1:i=1
 ·rw[if_pos c1];exact⟨h1,hg,h3,h4,h5,h6,h7,h8⟩
 rw[if_neg c1]
 by_cases c2:i=2
 ·rw[if_pos c2];exact⟨h1,h2,hg,h4,h5,h6,h7,h8⟩
 rw[if_neg c2]
 by_cases c3:i=3
 ·rw[if_pos c3];exact⟨h1,h2,h3,hg,h5,h6,h7,h8⟩
 rw[if_neg c3]
 by_cases c4:i=4
 ·rw[if_pos c4];exact⟨h1,h2,h3,h4,hg,h6,h7,h8⟩
 rw[if_neg c4]
 by_cases c5:i=5
 ·rw[if_pos c5];exact⟨h1,h2,h3,h4,h5,hg,h7,h8⟩
 rw[if_neg c5]
 by_cases c6:i=6
 ·rw[if_pos c6];exact⟨h1,h2,h3,h4,h5,h6,hg,h8⟩
 rw[if_neg c6]
 by_cases c7:i=7
 ·rw[if_pos c7];exact⟨h1,h2,h3,h4,h5,h6,h7,hg⟩
 rw[if_neg c7]
 exact⟨h1,h2,h3,h4,h5,h6,h7,h8⟩
def hN (d:Dsk):Nat:=nod d.1.1+nod d.1.2.1+nod d.1.2.2.1+nod d.1.2.2.2.1+nod d.1.2.2.2.2.1+nod d.1.2.2.2.2.2.1+nod d.1.2.2.2.2.2.2.1+nod d.1.2.2.2.2.2.2.2
theorem GD.hN{d:Dsk}(g:GD d):hsD d=(Evl.T.hN d:Nat):=by
 obtain⟨h0,h1,h2,h3,h4,h5,h6,h7⟩:=g
 have c1:=(good_rt h0).2
 have c2:=(good_rt h1).2
 have c3:=(good_rt h2).2
 have c4:=(good_rt h3).2
 have c5:=(good_rt h4).2
 have c6:=(good_rt h5).2
 have c7:=(good_rt h6).2
 have c8:=(good_rt h7).2
 unfold hsD Evl.T.hN
 rw[cnv_yes (t:=nod d.1.1) (left:=301) (by omega),cnv_yes (t:=nod d.1.2.1) (left:=301) (by omega),cnv_yes (t:=nod d.1.2.2.1) (left:=301) (by omega),cnv_yes (t:=nod d.1.2.2.2.1) (left:=301) (by omega),cnv_yes (t:=nod d.1.2.2.2.2.1) (left:=301) (by omega),cnv_yes (t:=nod d.1.2.2.2.2.2.1) (left:=301) (by omega),cnv_yes (t:=nod d.1.2.2.2.2.2.2.1) (left:=301) (by omega),cnv_yes (t:=nod d.1.2.2.2.2.2.2.2) (left:=301) (by omega)]
 generalize nod d.1.1=a at *
 generalize nod d.1.2.1=b at *
 generalize nod d.1.2.2.1=c at *
 generalize nod d.1.2.2.2.1=e at *
 generalize nod d.1.2.2.2.2.1=f at *
 generalize nod d.1.2.2.2.2.2.1=g at *
 generalize nod d.1.2.2.2.2.2.2.1=x at *
 generalize nod d.1.2.2.2.2.2.2.2=y at *
 have e0:w64 (0+(a:Int))=(a:Int):=by rw[w64_id (by omega) (by omega)];omega
 have e1:w64 ((a:Int)+(b:Int))=(a:Int)+(b:Int):=by rw[w64_id (by omega) (by omega)]
 have e2:w64 ((a:Int)+(b:Int)+(c:Int))=(a:Int)+(b:Int)+(c:Int):=by rw[w64_id (by omega) (by omega)]
 have e3:w64 ((a:Int)+(b:Int)+(c:Int)+(e:Int))=(a:Int)+(b:Int)+(c:Int)+(e:Int):=by rw[w64_id (by omega) (by omega)]
 have e4:w64 ((a:Int)+(b:Int)+(c:Int)+(e:Int)+(f:Int))=(a:Int)+(b:Int)+(c:Int)+(e:Int)+(f:Int):=by rw[w64_id (by omega) (by omega)]
 have e5:w64 ((a:Int)+(b:Int)+(c:Int)+(e:Int)+(f:Int)+(g:Int))=(a:Int)+(b:Int)+(c:Int)+(e:Int)+(f:Int)+(g:Int):=by rw[w64_id (by omega) (by omega)]
 have e6:w64 ((a:Int)+(b:Int)+(c:Int)+(e:Int)+(f:Int)+(g:Int)+(x:Int))=(a:Int)+(b:Int)+(c:Int)+(e:Int)+(f:Int)+(g:Int)+(x:Int):=by rw[w64_id (by omega) (by omega)]
 have e7:w64 ((a:Int)+(b:Int)+(c:Int)+(e:Int)+(f:Int)+(g:Int)+(x:Int)+(y:Int))=(a:Int)+(b:Int)+(c:Int)+(e:Int)+(f:Int)+(g:Int)+(x:Int)+(y:Int):=by rw[w64_id (by omega) (by omega)]
 rw[e0,e1,e2,e3,e4,e5,e6,e7]
 omega
theorem hN_put(d:Dsk){i:Int}(hp:isPl i=true)(t:Sol)(b:Bool):hN (putD d i t b)+nod (slotD d i)=hN d+nod t:=by
 obtain⟨⟨s0,s1,s2,s3,s4,s5,s6,s7⟩,b0,b1,b2,b3,b4,b5,b6,b7⟩:=d
 rcases isPl_cases hp with rfl | rfl | rfl | rfl | rfl | rfl | rfl | rfl <;> (simp[hN,putD,slotD];try omega)
theorem slot_put(d:Dsk){i:Int}(hp:isPl i=true)(t:Sol)(b:Bool):slotD (putD d i t b) i=t:=by
 rcases isPl_cases hp with rfl | rfl | rfl | rfl | rfl | rfl | rfl | rfl <;> rfl
theorem held_put(d:Dsk){i:Int}(hp:isPl i=true)(t:Sol)(b:Bool):heldAtD (putD d i t b) i=b:=by
 rcases isPl_cases hp with rfl | rfl | rfl | rfl | rfl | rfl | rfl | rfl <;> rfl
theorem put_put(d:Dsk){i:Int}(hp:isPl i=true)(t u:Sol)(b c:Bool):putD (putD d i t b) i u c=putD d i u c:=by
 rcases isPl_cases hp with rfl | rfl | rfl | rfl | rfl | rfl | rfl | rfl <;> rfl
theorem nod_zs:nod zs=0:=nod_leaf _ _
theorem DK.drop{d:Dsk}(k:DK d){i:Int}(hp:isPl i=true):DK (putD d i zs false):=by
 have g:=k.g.drop i
 refine⟨g,?_⟩
 have h1:=k.g.hN
 have h2:=g.hN
 have h3:=hN_put d hp zs false
 rw[nod_zs] at h3
 have:=k.h
 omega
theorem dropHit{d:Dsk}(k:DK d){i:Int}(hp:isPl i=true)(hh:heldAtD d i=true):Ev fun n=>Dp_Drop n d i=some (putD d i zs false,0)∧Di_Drop n d i=some (putD d i zs false,0):=by
 refine k.cps.mono fun n ⟨⟨h1,h2⟩,c1,c2⟩=>⟨?_,?_⟩
 ·unfold Dp_Drop
  rw[c1,oBs,h1,oBs,Bool.not_true,frk_f,sPlace,hp,oBs,Bool.not_true]
  obtain⟨⟨⟨i0,p0,k0⟩,⟨i1,p1,k1⟩,⟨i2,p2,k2⟩,⟨i3,p3,k3⟩,⟨i4,p4,k4⟩,⟨i5,p5,k5⟩,⟨i6,p6,k6⟩,⟨i7,p7,k7⟩⟩,b0,b1,b2,b3,b4,b5,b6,b7⟩:=d
  rcases isPl_cases hp with rfl | rfl | rfl | rfl | rfl | rfl | rfl | rfl <;> (cases hh;rfl)
 ·unfold Di_Drop
  rw[c2,oBs,iPlace,hp,oBs,Bool.not_true,frk_f,h2,oBs,Bool.not_true]
  obtain⟨⟨⟨i0,p0,k0⟩,⟨i1,p1,k1⟩,⟨i2,p2,k2⟩,⟨i3,p3,k3⟩,⟨i4,p4,k4⟩,⟨i5,p5,k5⟩,⟨i6,p6,k6⟩,⟨i7,p7,k7⟩⟩,b0,b1,b2,b3,b4,b5,b6,b7⟩:=d
  rcases isPl_cases hp with rfl | rfl | rfl | rfl | rfl | rfl | rfl | rfl <;> (cases hh;rfl)
theorem dropAll{d:Dsk}(k:DK d)(i:Int):∃r:Dsk×Int,DK r.1∧Ev fun n=>Dp_Drop n d i=some r:=by
 cases hp:isPl i with
 | false =>
  refine⟨(d,1),k,k.cps.mono fun n ⟨⟨h1,h2⟩,c1,c2⟩=>?_⟩
  unfold Dp_Drop
  rw[c1,oBs,h1,oBs,Bool.not_true,frk_f,sPlace,hp,oBs]
  obtain⟨⟨⟨i0,p0,k0⟩,⟨i1,p1,k1⟩,⟨i2,p2,k2⟩,⟨i3,p3,k3⟩,⟨i4,p4,k4⟩,⟨i5,p5,k5⟩,⟨i6,p6,k6⟩,⟨i7,p7,k7⟩⟩,b0,b1,b2,b3,b4,b5,b6,b7⟩:=d
  rfl
 | true =>
  cases hh:heldAtD d i with
  | false=>exact⟨(d,2),k,(dropNo k hp hh).mono fun n h=>h.1⟩
  | true=>exact⟨_,k.drop hp,(dropHit k hp hh).mono fun n h=>h.1⟩
theorem heldE{d:Dsk}(k:DK d):Ev fun n=>Di_Held n d=some (hsD d) :=
 ((deskEv k).and (DF.ev d k.g.len)).mono fun n ⟨h,F⟩=>by
  unfold Di_Held
  rw[h.2,oBs,Bool.not_true,frk_f,(GD.ok F k.g).2];rfl
end Evl.T
namespace Evl.T
open Go Evl
noncomputable def dF(n:Nat):((Int×Dsk×List Int×Int×Int)→Option (Dsk×List Int×Int×Int))→(Int×Dsk×List Int×Int×Int)→Option (Dsk×List Int×Int×Int):=Dp_l20Draw_0 n false 0 0 0 0 false 0 0 0 0 false 0 0 0 0 false 0 0 0 0 false 0 0 0 0 false 0 0 0 0 false 0 0 0 0 false 0 0 0 0 false false false false false false false false
theorem dStep(n:Nat)(rec0:(Int×Dsk×Cur)→Option (Dsk×Cur))(t:Int)(d:Dsk)(c:Cur):dF n rec0 (t,d,c)=frk (decide (t>0)) ((Dp_l1Below c 4).bind fun v1=>(Dp_l1Below v1.2 5).bind fun v2=>frk (v2.1==0) ((Dp_Drop n d v1.1).bind fun v3=>rec0 (w64 (t-1),v3.1,v2.2)) (frk (v2.1==1) ((Dp_l1Below v2.2 4).bind fun v4=>(Dp_l1Below v4.2 4).bind fun v5=>(Dp_l1Below v5.2 4).bind fun v6=>(Dp_Mix n d v1.1 v4.1 v5.1 (w64 (1+v6.1))).bind fun v7=>rec0 (w64 (t-1),v7.1,v6.2)) (frk (v2.1==2) ((Dp_l1Below v2.2 4).bind fun v8=>(Dp_l1Below v8.2 5).bind fun v9=>(Dp_Move n d v1.1 v8.1 (Pt.mk (w64 (v9.1-2)) 0 0)).bind fun v10=>rec0 (w64 (t-1),v10.1,v9.2)) ((Dp_l8Grow n v2.2 [] 2).bind fun v11=>(Dp_Keep n d v1.1 v11.1).bind fun v12=>rec0 (w64 (t-1),v12.1,v11.2))))) (some (d,c)):=by
 obtain⟨a,b,e⟩:=c;rfl
theorem deskLoop:∀(k:Nat) (d:Dsk) (c:Cur),k≤100→DK d→CurOk c→∃r:Dsk×Cur,DK r.1∧E2 fun n m=>loopN (dF n) m ((k:Int),d,c)=some r:=by
 intro k
 induction k with
 | zero =>
  intro d c _ hd _
  exact⟨(d,c),hd,E2.suc (E2.of fun n m=>by rw[loop_suc,dStep];rfl)⟩
 | succ k ih =>
  intro d c hk hd hc
  obtain⟨v1,c1,e1,h1,k1⟩:=belowOk hc (a:=4) (by omega) (by omega)
  obtain⟨v2,c2,e2,h2,k2⟩:=belowOk k1 (a:=5) (by omega) (by omega)
  have w:w64 (((k+1:Nat):Int)-1)=(k:Int):=by rw[w64_id (by omega) (by omega)];omega
  have st:∀n m,loopN (dF n) (m+1) (((k+1:Nat):Int),d,c)=frk (v2==0) ((Dp_Drop n d v1).bind fun v3=>loopN (dF n) m ((k:Int),v3.1,c2)) (frk (v2==1) ((Dp_l1Below c2 4).bind fun v4=>(Dp_l1Below v4.2 4).bind fun v5=>(Dp_l1Below v5.2 4).bind fun v6=>(Dp_Mix n d v1 v4.1 v5.1 (w64 (1+v6.1))).bind fun v7=>loopN (dF n) m ((k:Int),v7.1,v6.2)) (frk (v2==2) ((Dp_l1Below c2 4).bind fun v8=>(Dp_l1Below v8.2 5).bind fun v9=>(Dp_Move n d v1 v8.1 (Pt.mk (w64 (v9.1-2)) 0 0)).bind fun v10=>loopN (dF n) m ((k:Int),v10.1,v9.2)) ((Dp_l8Grow n c2 [] 2).bind fun v11=>(Dp_Keep n d v1 v11.1).bind fun v12=>loopN (dF n) m ((k:Int),v12.1,v11.2)))):=by
   intro n m
   rw[loop_suc,dStep,dec_t (by omega),frk_t,e1,oBs,e2,oBs,w]
  by_cases g0:v2=0
  ·obtain⟨r,hr,E⟩:=dropAll hd v1
   obtain⟨x,hx,E'⟩:=ih r.1 c2 (by omega) hr k2
   refine⟨x,hx,E2.suc ((E.e2.and E').mono fun n m ⟨a,b⟩=>?_)⟩
   rw[st,show (v2==0)=true by simpa using g0,frk_t,a,oBs];exact b
  ·by_cases g1:v2=1
   ·obtain⟨v4,c4,e4,h4,k4⟩:=belowOk k2 (a:=4) (by omega) (by omega)
    obtain⟨v5,c5,e5,h5,k5⟩:=belowOk k4 (a:=4) (by omega) (by omega)
    obtain⟨v6,c6,e6,h6,k6⟩:=belowOk k5 (a:=4) (by omega) (by omega)
    obtain⟨r,hr,E⟩:=mixAll hd v1 v4 v5 (w64 (1+v6))
    obtain⟨x,hx,E'⟩:=ih r.1 c6 (by omega) hr k6
    refine⟨x,hx,E2.suc ((E.e2.and E').mono fun n m ⟨a,b⟩=>?_)⟩
    rw[st,show (v2==0)=false by simpa using g0,frk_f,show (v2==1)=true by simpa using g1,frk_t,e4,oBs,e5,oBs,e6,oBs,a,oBs];exact b
   ·by_cases g2:v2=2
    ·obtain⟨v4,c4,e4,h4,k4⟩:=belowOk k2 (a:=4) (by omega) (by omega)
     obtain⟨v5,c5,e5,h5,k5⟩:=belowOk k4 (a:=5) (by omega) (by omega)
     obtain⟨r,hr,E⟩:=moveAll hd v1 v4 (Pt.mk (w64 (v5-2)) 0 0)
     obtain⟨x,hx,E'⟩:=ih r.1 c5 (by omega) hr k5
     refine⟨x,hx,E2.suc ((E.e2.and E').mono fun n m ⟨a,b⟩=>?_)⟩
     rw[st,show (v2==0)=false by simpa using g0,frk_f,show (v2==1)=false by simpa using g1,frk_f,show (v2==2)=true by simpa using g2,frk_t,e4,oBs,e5,oBs,a,oBs];exact b
    ·obtain⟨s,c4,e4,hR,hN,-,k4⟩:=growOk 2 [] 2 c2 (by simp) (by simp) (by omega) (by omega) k2
     have e4':∀n,1000≤n→Dp_l8Grow n c2 [] 2=some (s,c4):=fun n hn=>e4 n n hn (by omega)
     have hr:Right s:=⟨hR,by omega⟩
     have E:=keepAll hd v1 hr
     have hd':DK (if isPl v1=true then kp d v1 s else (d,1)).1:=by
      split
      ·exact hd.kp hr
      ·exact hd
     obtain⟨x,hx,E'⟩:=ih _ c4 (by omega) hd' k4
     refine⟨x,hx,E2.suc ((E.e2.and (E'.and (e2_ge 1000))).mono fun n m ⟨a,b,hn,_⟩=>?_)⟩
     rw[st,show (v2==0)=false by simpa using g0,frk_f,show (v2==1)=false by simpa using g1,frk_f,show (v2==2)=false by simpa using g2,frk_f,e4' n hn,oBs,a.1,oBs];exact b
def dz:Dsk:=((zs,zs,zs,zs,zs,zs,zs,zs),(false,false,false,false,false,false,false,false))
theorem dz_ok:DK dz:=by
 have hg:(rt zs&&(false||isz zs))=true:=by rw[rt_iff.2 zs_right,isz_zs];rfl
 have g:GD dz:=⟨hg,hg,hg,hg,hg,hg,hg,hg⟩
 refine⟨g,?_⟩
 rw[g.hN]
 show ((nod zs+nod zs+nod zs+nod zs+nod zs+nod zs+nod zs+nod zs:Nat):Int)≤900
 rw[nod_zs];decide
theorem sizeOk(l:List Int)(hl:l.length≤1048576):∃v,Dp_l1Size l 8=some v∧3≤v∧v≤8:=by
 have h1:Int.tdiv (l.length:Int) 12=((l.length / 12:Nat):Int):=by
  rw[Int.tdiv_eq_ediv_of_nonneg (by omega)];omega
 have w1:w64 (Int.tdiv (l.length:Int) 12)=((l.length / 12:Nat):Int):=by rw[h1];exact w64_id (by omega) (by omega)
 have w2:w64 (3+((l.length / 12:Nat):Int))=3+((l.length / 12:Nat):Int):=w64_id (by omega) (by omega)
 unfold Dp_l1Size
 rw[w1,w2]
 by_cases h:(3+((l.length / 12:Nat):Int))>8
 ·rw[dec_t h,frk_t];exact⟨8,rfl,by omega,by omega⟩
 ·rw[dec_f h,frk_f];exact⟨_,rfl,by omega,by omega⟩
theorem drawDesk(l:List Int)(hl:l.length≤1048576):∃d,DK d∧Ev fun n=>Dp_DrawDesk n l=some d:=by
 obtain⟨c,e0,c0⟩:=newOk hl
 obtain⟨v,e1,h1,h2⟩:=sizeOk l hl
 obtain⟨u,c2,e2,h3,c3⟩:=belowOk c0 (a:=v) (by omega) (by omega)
 obtain⟨r,hr,E⟩:=deskLoop u.toNat dz c2 (by omega) dz_ok c3
 refine⟨r.1,hr,(E.ev.and (e_ge (l.length+1))).mono fun n ⟨h,hn⟩=>?_⟩
 rw[Int.toNat_of_nonneg h3.1] at h
 unfold Dp_DrawDesk Dp_l20Draw
 rw[e0 n (by omega),oBs,e1,oBs,e2,oBs]
 have h':loopN (dF n) n (u,dz,c2.1,c2.2.1,c2.2.2)=some r:=h
 show ((loopN (dF n) n (u,dz,c2.1,c2.2.1,c2.2.2)).bind _)=_
 rw[h'];rfl
end Evl.T
namespace Evl.T
open Go Evl
def p0:Pt:=⟨0,0,0⟩
theorem shP0{p:Pl}(h:pOk p=true):shP p0 p=(p,0):=by
 have e:shD p p0=p.D:=by
  show p.D-(p.A*0+p.B*0+p.C*0)=p.D
  omega
 have g:GS p0 p:=⟨h,by rw[e];have hd:p.D.natAbs≤500:=(pOk_PB h).2.2.2;exact rIn_iff.2 (by omega)⟩
 rw[shP_of rfl g,e]
theorem mp0{s:Sol}{l:List Pl}(h:Rt s l):Mp (fun p=>(shP p0 p).1) s s∧shOk p0 s=true:=by
 induction h with
 | @leaf i p path hz =>
  have e:p=⟨0,0,0,0⟩:=by
   unfold zPl at hz
   simp only[Bool.and_true,bAt,beq_iff_eq] at hz
   cases p;simp_all
  subst e
  exact⟨.leaf,rfl⟩
 | @node p a b path hp _ _ _ _ _ iha ihb =>
  have e:=shP0 hp
  refine⟨?_,?_⟩
  ·have:=Mp.node (i:=false) (p:=p) iha.1 ihb.1
   simp only[e] at this;exact this
  ·show (((shP p0 p).2==0)&&(shOk p0 a&&shOk p0 b))=true
   rw[e,iha.2,ihb.2];rfl
open Classical in
theorem iSR0{s:Sol}(hr:Right s):Ev fun n=>Di_ShiftSolid n s p0=some (s,0):=by
 obtain⟨hx,hk⟩:=mp0 hr.1
 refine((iSolidOk s).and (iShiftT hx).ev).mono fun n ⟨h2,h4⟩=>?_
 have h4':Di_movedfimpl_ShiftSolidLit1 n s p0=some (s,shOk p0 s):=h4
 unfold Di_ShiftSolid Di_ShiftSolid_0
 rw[iQtOk,show qtB p0=true from rfl,oBs,Bool.not_true,frk_f,h2,decide_eq_true hr,oBs,Bool.not_true,frk_f,sol_eq',show Pt.mk p0.X p0.Y p0.Z=p0 from rfl,h4',hk];rfl
theorem atE2(l:List Int):∃v,Dlaws_at l 2=some v:=by
 unfold Dlaws_at
 by_cases h:2<l.length
 ·have:=lget_nat (l:=l) (k:=2)
  rw[dec_t (by omega),frk_t,show (2:Int)=((2:Nat):Int) from rfl,lget_nat,List.getElem?_eq_getElem h,oBs];exact⟨_,rfl⟩
 ·rw[dec_f (by omega),frk_f];exact⟨_,rfl⟩
theorem fin8{n:Nat}{m d:Dsk}{s:Sol}{i:Int}(hp:isPl i=true):Dlaws_FnDesk_0 n i (m,0) false d s.inn s.pl.A s.pl.B s.pl.C s.pl.D s.kids =
  (Di_Mix n m i i i 1).bind fun v10=>(Di_Mix n m i i i 3).bind fun v11=>(Di_Drop n m i).bind fun v12=>(Di_Drop n v12.1 i).bind fun v13=>(Di_Move n m i i p0).bind fun v14=>frk (heldAtD m i) ((Di_SameTree n (slotD m i) s).bind fun v15=>frk v15 (frk (v10.2==0) ((Di_Same n (slotD v10.1 i) s).bind fun v16=>frk v16 (frk (v11.2==0) ((Di_Nothing n (slotD v11.1 i)).bind fun v17=>frk v17 (frk (v12.2==0) (frk (!heldAtD v12.1 i) (frk (v13.2==2) (frk (v14.2==0) ((Di_SameTree n (slotD v14.1 i) s).bind fun v18=>frk v18 ((Di_Held n v12.1).bind fun v19=>(Di_NodesOf n s).bind fun v20=>(Di_Held n m).bind fun v21=>some ((w64 (v19+v20))==v21)) (some false)) (some false)) (some false)) (some false)) (some false)) (some false)) (some false)) (some false)) (some false)) (some false)) (some false):=by
 obtain⟨j,⟨a,b,c,e⟩,k⟩:=s
 rcases isPl_cases hp with rfl | rfl | rfl | rfl | rfl | rfl | rfl | rfl <;> rfl
theorem lf_td{x t:Sol}{v:Bool}(h:Td x t)(e:x=lfS v):t=lfS v:=by
 subst e;cases h;rfl
open Classical in
theorem deskGood{d:Dsk}(k:DK d){i:Int}(hp:isPl i=true){s:Sol}(hr:Right s)(hd:Dp s 9)(h9:hsD (putD d i s true)≤900) :
  Ev fun n=>Dlaws_FnDesk_0 n i (putD d i s true,0) false d s.inn s.pl.A s.pl.B s.pl.C s.pl.D s.kids=some true:=by
 have km:DK (putD d i s true):=⟨k.g.put i hr,h9⟩
 have hs:=slot_put d hp s true
 have hh:=held_put d hp s true
 have less:∀t,Right t→nod t≤nod s→kp (putD d i s true) i t=(putD d i t true,0):=fun t ht hn=>by
  unfold kp
  rw[put_put d hp,if_pos]
  have a:=(k.g.put i ht).hN
  have b:=km.g.hN
  have c:=hN_put d hp t true
  have e:=hN_put d hp s true
  omega
 obtain⟨y,sb,t1,-,t2⟩:=mixHit km (op:=1) hp hp hp rfl hh hh
 rw[hs] at t1
 obtain⟨m1,hsb⟩:=putSelf t1
 have n1:=m1.nod
 have hr2:=hr.2
 obtain⟨t,td,rt1,nt,E1⟩:=t2 ⟨hsb,by omega⟩
 obtain⟨y',sb',u1,-,u2⟩:=mixHit km (op:=3) hp hp hp rfl hh hh
 rw[hs] at u1
 obtain⟨m2,hsb'⟩:=putSelf u1
 have ey:=m2.one (v:=false) (fun i=>by cases i <;> rfl)
 have n2:nod y'=0:=by rw[ey];exact nod_leaf _ _
 obtain⟨t',td',rt2,nt',E2'⟩:=u2 ⟨hsb',by omega⟩
 have et:=lf_td td' ey
 rw[less t rt1 (by omega)] at E1
 rw[less t' rt2 (by omega)] at E2'
 have kd:=km.drop hp
 have E3:=dropHit km hp hh
 have E4:=dropNo kd hp (held_put _ hp zs false)
 have E5:=moveHit km hp hp (q:=p0) rfl hh hr (by rw[hs];exact iSR0 hr)
 rw[less s hr (Nat.le_refl _)] at E5
 have hS:Sem 4 t s:=fun L hL u v hu hv=>by
  have:=(td.vl (m1.vl hv)).eq hL hu
  rw[show lfB 1 v v=v by cases v <;> rfl] at this
  rw[this,lfB_one];simp
 have hN:=nothingT rt1 hr (op:=4) rfl (td.dp (m1.dp hd)) hd (by omega) hS
 have hSame:Ev fun n=>Di_SameTree n s s=some true:=(iSame s hr.1.tw.lens).ev.mono fun n h=>by
  have:=h s
  rw[decide_eq_true rfl] at this;exact this
 have hHas:=(iHas (s:=lfS false) (l:=[]) (.leaf rfl) true).ev
 have nh:decide (∃Q,Lf (lfS false) Q true)=false:=decide_eq_false fun ⟨Q,h⟩=>by cases h
 rw[nh] at hHas
 have a:=kd.g.hN
 have b:=km.g.hN
 have c:=hN_put (putD d i s true) hp zs false
 rw[hs,nod_zs] at c
 have hb:=km.h
 have hw:w64 (hsD (putD (putD d i s true) i zs false)+(nod s:Int))=hsD (putD d i s true):=by rw[w64_id (by omega) (by omega)];omega
 refine((E1.and (E2'.and (E3.and (E4.and E5)))).and ((hN.and (hSame.and (hHas.and ((iSolidOk (lfS false)).and (iSolidOk s))))).and (((iNodes hr.1 (by omega)).ev).and ((heldE kd).and (heldE km))))).mono fun n ⟨⟨f1,f2,f3,f4,f5⟩,⟨f6,f7,f8,f9,f10⟩,f11,f12,f13⟩=>?_
 have f8':Di_Solid_has n (lfS false) true=some false:=f8
 have f11':Di_Solid_nodes n s=some (nod s:Int):=f11
 have g1:Di_Nothing n (lfS false)=some true:=by
  unfold Di_Nothing
  rw[f9,oBs,decide_eq_true (show Right (lfS false) by rw[←et];exact rt2)]
  first | (rw[frk_t,f8',oBs];rfl) | (rw[Bool.not_true,frk_f,f8',oBs];rfl)
 have g2:Di_NodesOf n s=some (nod s:Int):=by
  unfold Di_NodesOf
  rw[f10,oBs,decide_eq_true hr,Bool.not_true,frk_f,f11'];rfl
 have g3:Di_Same n t s=some true:=by
  unfold Di_Same
  rw[f6];rfl
 rw[fin8 hp]
 simp only[f1.2,f2.2,f3.2,f4.2,f5,oBs,hh,hs,f7,slot_put d hp,held_put _ hp,g1,g2,g3,et,f12,f13,hw,frk_t,beq_self_eq_true,Bool.not_false]
open Classical in
theorem plain_FnDesk{F:Int→Prop}(l:List Int)(_:l.length≤maxLen∧∀x∈l,F x):∃n,Dlaws_FnDesk n l=some true:=by
 by_cases hb:l.length≤1048576
 ·obtain⟨d,kd,eD⟩:=drawDesk l hb
  obtain⟨s,q,hs,hp9,-,eS⟩:=drawS l hb
  obtain⟨v,eA⟩:=atE2 l
  have f0:Dlaws_big l=some false:=by unfold Dlaws_big;rw[dec_f (by omega)]
  have eK:=keepAll kd (Int.tmod v 9) hs
  have go:∀r:Dsk×Int,DK r.1→∀n,Dp_DrawDesk n l=some d→Dp_DrawSolid n l=some (s,q)→(Dp_Keep n d (Int.tmod v 9) s=some r∧Di_Keep n d (Int.tmod v 9) s=some r)→Di_DeskOk n d=some true→Di_DeskOk n r.1=some true →
    Dlaws_FnDesk n l=Dlaws_FnDesk_0 n (Int.tmod v 9) r false d s.inn s.pl.A s.pl.B s.pl.C s.pl.D s.kids:=by
   intro r _ n g1 g2 g3 g4 g5
   unfold Dlaws_FnDesk
   simp only[f0,oBs,frk_f,g1,eA,g2,g3.1,g3.2,bne_self_eq_false,g4,g5,Bool.not_true]
  have bad:∀c:Int,c≠0→Ev fun n=>Dlaws_FnDesk_0 n (Int.tmod v 9) (d,c) false d s.inn s.pl.A s.pl.B s.pl.C s.pl.D s.kids=some true:=fun c hc=>(heldE kd).mono fun n h=>by
   unfold Dlaws_FnDesk_0
   rw[frk_f,show (((d,c):Dsk×Int).2 != 0)=true by simpa using hc,frk_t]
   simp only[h,oBs,beq_self_eq_true]
  have key:∃r:Dsk×Int,DK r.1∧(if isPl (Int.tmod v 9)=true then kp d (Int.tmod v 9) s else (d,1))=r∧Ev fun n=>Dlaws_FnDesk_0 n (Int.tmod v 9) r false d s.inn s.pl.A s.pl.B s.pl.C s.pl.D s.kids=some true:=by
   by_cases hp:isPl (Int.tmod v 9)=true
   ·rw[if_pos hp]
    by_cases h9:hsD (putD d (Int.tmod v 9) s true)≤900
    ·exact⟨_,kd.kp hs,rfl,by unfold kp;rw[if_pos h9];exact deskGood kd hp hs hp9 h9⟩
    ·exact⟨_,kd.kp hs,rfl,by unfold kp;rw[if_neg h9];exact bad 3 (by decide)⟩
   ·rw[if_neg hp];exact⟨_,kd,rfl,bad 1 (by decide)⟩
  obtain⟨r,kr,er,eF⟩:=key
  rw[er] at eK
  obtain⟨n,hN⟩:=(eD.and eS).and (eK.and ((deskEv kd).and ((deskEv kr).and eF)))
  obtain⟨⟨g1,g2⟩,g3,g4,g5,g6⟩:=hN n (Nat.le_refl n)
  exact⟨n,by rw[go r kr n g1 g2 g3 g4.2 g5.2];exact g6⟩
 ·exact⟨0,by unfold Dlaws_FnDesk;rw[show Dlaws_big l=some true by unfold Dlaws_big;rw[dec_t (by omega)]];rfl⟩
end Evl.T
