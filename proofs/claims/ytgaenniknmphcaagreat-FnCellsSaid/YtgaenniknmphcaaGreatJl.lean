
/- Texts that belong together,joined. No condition. -/
import Derived.Test.YtgaenniknmphcaaGreatJp
namespace Evl.T
open Go Evl
def vl:List Int→Int
 | []=>0
 | d::l=>d+10000*vl l
def Dg (l:List Int):Prop:=∀d∈l,0≤d∧d≤9999
theorem Dg.head{d:Int}{l:List Int}(h:Dg (d::l)):0≤d∧d≤9999:=h d (by simp)
theorem Dg.tail{d:Int}{l:List Int}(h:Dg (d::l)):Dg l:=fun x hx=>h x (by simp[hx])
theorem Dg.cons{d:Int}{l:List Int}(h1:0≤d)(h2:d≤9999)(h:Dg l):Dg (d::l):=by
 intro x hx
 rcases List.mem_cons.1 hx with rfl | hx
 ·exact⟨h1,h2⟩
 ·exact h x hx
theorem Dg.nil:Dg []:=fun _ h=>absurd h (by simp)
theorem Dg.get{l:List Int}(h:Dg l){i:Nat}{d:Int}(hd:l[i]?=some d):0≤d∧d≤9999:=h d (List.mem_of_getElem? hd)
theorem Dg.take{l:List Int}(h:Dg l)(i:Nat):Dg (l.take i):=fun d hd=>h d (List.mem_of_mem_take hd)
theorem Dg.drop{l:List Int}(h:Dg l)(i:Nat):Dg (l.drop i):=fun d hd=>h d (List.mem_of_mem_drop hd)
theorem vl_nn:∀{l:List Int},Dg l→0≤vl l
 | [],_=>Int.le_refl _
 | d::l,h=>by have:=vl_nn h.tail;have:=h.head;unfold vl;omega
def dg (v:Nat):List Int:=if v=0 then [] else ((v % 10000:Nat):Int)::dg (v / 10000)
theorem dg_zero:dg 0=[]:=by rw[dg,if_pos rfl]
theorem dg_pos{v:Nat}(h:0<v):dg v=((v % 10000:Nat):Int)::dg (v / 10000):=by rw[dg,if_neg (by omega)]
theorem Dg_dg(v:Nat):Dg (dg v):=by
 induction v using Nat.strongRecOn with
 | ind v ih =>
  by_cases h:v=0
  ·subst h;rw[dg_zero];exact Dg.nil
  ·rw[dg_pos (by omega)];exact Dg.cons (by omega) (by omega) (ih _ (by omega))
theorem vl_dg(v:Nat):vl (dg v)=v:=by
 induction v using Nat.strongRecOn with
 | ind v ih =>
  by_cases h:v=0
  ·subst h;rw[dg_zero];rfl
  ·rw[dg_pos (by omega)];unfold vl;rw[ih _ (by omega)];omega
theorem dg_len:∀(k v:Nat),v<10000 ^ k→(dg v).length≤k
 | 0,v,h=>by
   have:v=0:=by simpa using h
   subst this;rw[dg_zero];exact Nat.le_refl 0
 | k+1,v,h=>by
  by_cases h0:v=0
  ·subst h0;rw[dg_zero];simp
  ·rw[dg_pos (by omega),List.length_cons]
   have:=dg_len k (v / 10000) (by rw[Nat.pow_succ] at h;omega)
   omega
theorem dg_len3{v:Nat}(h:v<1000000000000):(dg v).length≤3:=dg_len 3 v (by simpa using h)
theorem dg_mono{a b:Nat}(h:b≤a):(dg b).length≤(dg a).length:=by
 induction a using Nat.strongRecOn generalizing b with
 | ind a ih =>
  by_cases h0:b=0
  ·subst h0;rw[dg_zero];simp
  ·rw[dg_pos (v:=b) (by omega),dg_pos (v:=a) (by omega),List.length_cons,List.length_cons]
   have:=ih (a / 10000) (by omega) (b:=b / 10000) (by omega)
   omega
theorem dg_ne{v:Nat}:dg v≠[]↔0<v:=by
 constructor
 ·intro h
  by_cases h0:v=0
  ·subst h0;exact absurd dg_zero h
  ·omega
 ·intro h;rw[dg_pos h];simp
theorem dg_last(v:Nat):(dg v).getLast?≠some 0:=by
 induction v using Nat.strongRecOn with
 | ind v ih =>
  by_cases h:v=0
  ·subst h;rw[dg_zero];simp
  ·rw[dg_pos (by omega)]
   by_cases h2:v / 10000=0
   ·rw[h2,dg_zero];simp;omega
   ·have:=ih (v / 10000) (by omega)
    rw[dg_pos (v:=v / 10000) (by omega)] at this ⊢
    rw[List.getLast?_cons_cons];exact this
theorem dg_of:∀{l:List Int},Dg l→l.getLast?≠some 0→l=dg (vl l).toNat∧(l≠[]→0<vl l)
 | [],_,_=>⟨by show []=dg 0;rw[dg_zero],fun h=>absurd rfl h⟩
 | [d],h,hl=>by
  have hd:=h.head
  have h0:d≠0:=by simpa using hl
  have e:vl [d]=d:=by simp[vl]
  refine⟨?_,fun _=>by rw[e];omega⟩
  rw[e,dg_pos (by omega),show d.toNat / 10000=0 by omega,dg_zero]
  congr 1;omega
 | d::e::l,h,hl=>by
  rw[List.getLast?_cons_cons] at hl
  obtain⟨h1,h2⟩:=dg_of h.tail hl
  have h2:=h2 (by simp)
  have hd:=h.head
  have e1:vl (d::e::l)=d+10000*vl (e::l):=rfl
  refine⟨?_,fun _=>by omega⟩
  rw[e1,dg_pos (by omega),show (d+10000*vl (e::l)).toNat / 10000=(vl (e::l)).toNat by omega,←h1]
  congr 1;omega
theorem dg_of'{l:List Int}(h:Dg l)(hl:l.getLast?≠some 0){v:Nat}(hv:vl l=v):l=dg v:=by
 have:=(dg_of h hl).1;rw[hv] at this;exact this
theorem vl_app:∀(a b:List Int),vl (a++b)=vl a+10000 ^ a.length*vl b
 | [],b=>by simp[vl]
 | d::a,b=>by
  rw[List.cons_append];show d+10000*vl (a++b)=(d+10000*vl a)+10000 ^ (d::a).length*vl b;rw[vl_app a b,List.length_cons,Int.pow_succ,Int.mul_add]
  have:(10000:Int) ^ a.length*10000*vl b=10000*((10000:Int) ^ a.length*vl b):=by rw[Int.mul_comm ((10000:Int) ^ a.length) 10000,Int.mul_assoc]
  omega
theorem vl_lt:∀{l:List Int},Dg l→vl l<10000 ^ l.length
 | [],_=>by simp[vl]
 | d::l,h=>by
  have:=vl_lt h.tail;have:=h.head
  unfold vl;rw[List.length_cons,Int.pow_succ];omega
theorem vl_take_s{l:List Int}{i:Nat}{d:Int}(hd:l[i]?=some d):vl (l.take (i+1))=vl (l.take i)+10000 ^ i*d:=by
 have hi:=(List.getElem?_eq_some_iff.1 hd).1
 rw[List.take_add_one,hd,vl_app,List.length_take,Nat.min_eq_left (by omega)]
 simp[vl]
theorem vl_drop_s{l:List Int}{i:Nat}{d:Int}(hd:l[i]?=some d):vl (l.drop i)=d+10000*vl (l.drop (i+1)):=by
 obtain⟨hi,he⟩:=List.getElem?_eq_some_iff.1 hd
 rw[List.drop_eq_getElem_cons hi,he];rfl
theorem vl_drop_le{l:List Int}(h:Dg l):∀(i:Nat),vl (l.drop i)≤vl l:=by
 intro i
 induction i generalizing l with
 | zero=>exact Int.le_refl _
 | succ i ih =>
  cases l with
  | nil=>exact Int.le_refl _
  | cons d l =>
   have:=ih h.tail;have:=h.head;have:=vl_nn h.tail
   rw[List.drop_succ_cons]
   have e:vl (d::l)=d+10000*vl l:=rfl
   omega
theorem apB8{n:Nat}(h:n≤1000000):apB 8 n=true:=by
 simp only[apB,Bool.and_eq_true,decide_eq_true_eq];omega
theorem w64_prd{i:Nat}(h:i≤1000000):w64 (((i+1:Nat):Int)-1)=(i:Int):=by
 rw[w64_id (by omega) (by omega)];omega
theorem dec_t{p:Prop} [Decidable p](h:p):decide p=true:=by simp[h]
theorem dec_f{p:Prop} [Decidable p](h:¬p):decide p=false:=by simp[h]
theorem numStep(n:Nat)(t0:Bool)(t1:List Int)(b:Bool)(rec0:Int→Option Num)(a:Int) :
  Dspec_l1Num_2 n t0 t1 b rec0 a=frk (decide (a>0)) ((lget t1 (w64 (a-1))).bind fun v0=>frk (v0==0) (rec0 (w64 (a-1))) (Dspec_l1Num_1 n t0 t1 a b)) (Dspec_l1Num_1 n t0 t1 a b):=rfl
theorem numEnd(n:Nat)(t0:Bool)(l:List Int)(i:Nat)(b:Bool)(hi:i≤l.length)(hl:l.length≤1000) :
  Dspec_l1Num_1 n t0 l (i:Int) b=some ⟨t0&&decide (0<i),l.take i⟩:=by
 unfold Dspec_l1Num_1
 have hc:apB 8 (0+(l.take i).length)=true:=apB8 (by rw[List.length_take];omega)
 rw[lsl_take _ _ hi]
 simp only[Option.bind_some]
 rw[chk_eq hc,chk_eq hc]
 cases t0
 ·rw[frk_f];rfl
 ·rw[frk_t]
  have:decide ((i:Int)>0)=decide (0<i):=dec_iff (by omega)
  rw[this];simp
theorem numLoop(n:Nat)(t0 b:Bool)(l:List Int)(hD:Dg l)(hl:l.length≤1000){v:Nat}(hv:vl l=v):∀(i m:Nat),i≤l.length→vl (l.take i)=v→i<m →
  loopN (Dspec_l1Num_2 n t0 l b) m (i:Int)=some ⟨t0&&decide (0<v),dg v⟩:=by
 intro i
 induction i with
 | zero =>
  intro m _ h0 hm
  obtain⟨m,rfl⟩:∃j,m=j+1:=⟨m-1,by omega⟩
  have:v=0:=by simp[vl] at h0;omega
  subst this
  rw[loop_suc,numStep,dec_f (by simp),frk_f,numEnd n t0 l 0 b (by omega) hl,dg_zero]
  rfl
 | succ i ih =>
  intro m hi h0 hm
  obtain⟨m,rfl⟩:∃j,m=j+1:=⟨m-1,by omega⟩
  obtain⟨d,hd⟩:∃d,l[i]?=some d:=⟨l[i],List.getElem?_eq_getElem (by omega)⟩
  rw[loop_suc,numStep,dec_t (by omega),frk_t,w64_prd (by omega),lget_nat,hd,Option.bind_some]
  by_cases h:d=0
  ·subst h
   rw[show ((0:Int)==0)=true from rfl,frk_t]
   refine ih m (by omega) ?_ (by omega)
   rw[vl_take_s hd] at h0;omega
  ·rw[show (d==0)=false by simpa using h,frk_f,numEnd n t0 l (i+1) b hi hl]
   have hlast:(l.take (i+1)).getLast?≠some 0:=by
    rw[List.take_add_one,hd];simpa using h
   have e:=dg_of' (hD.take (i+1)) hlast h0
   have hp:=(dg_of (hD.take (i+1)) hlast).2 (by rw[List.take_add_one,hd];simp)
   rw[←e]
   have:decide (0<i+1)=decide (0<v):=dec_iff ⟨fun _=>by omega,fun _=>by omega⟩
   rw[this]
theorem numOk(n:Nat)(t0:Bool)(l:List Int)(hD:Dg l)(hl:l.length≤1000){v:Nat}(hv:vl l=v)(hn:l.length<n):Dspec_l1Num n t0 l=some ⟨t0&&decide (0<v),dg v⟩:=by
 unfold Dspec_l1Num
 exact numLoop n t0 false l hD hl hv l.length n (Nat.le_refl _) (by rw[List.take_length];exact hv) hn
theorem ofStep(n:Nat)(t0:Int)(b:Bool)(rec0:(Int×List Int)→Option Num)(t3:Int)(l:List Int) :
  Dspec_Of_2 n t0 b rec0 (t3,l)=frk (decide (t3>0)) (chk (apB 8 (l.length+1)) (rec0 (IntKind.u64.wrap (Int.tdiv t3 10000),(l++[w64 (Int.tmod t3 10000)])))) (Dspec_Of_1 n t0 b l):=rfl
theorem u64w{x:Int}(h:0≤x)(h2:x<18446744073709551616):IntKind.u64.wrap x=x:=by
 have:IntKind.u64.wrap x=x % 18446744073709551616:=rfl
 omega
theorem ofLoop(n:Nat)(t0:Int)(b:Bool):∀(v:Nat) (l:List Int) (m:Nat),v<18446744073709551616→l.length+(dg v).length≤1000→(dg v).length<m →
  loopN (Dspec_Of_2 n t0 b) m ((v:Int),l)=Dspec_Of_1 n t0 b (l++dg v):=by
 intro v
 induction v using Nat.strongRecOn with
 | ind v ih =>
  intro l m h0 h1 hm
  obtain⟨m,rfl⟩:∃j,m=j+1:=⟨m-1,by omega⟩
  rw[loop_suc,ofStep]
  by_cases h:v=0
  ·subst h;rw[dec_f (by simp),frk_f,dg_zero,List.append_nil]
  ·rw[dec_t (by omega),frk_t]
   rw[dg_pos (by omega)] at h1 hm ⊢
   rw[List.length_cons] at h1 hm
   rw[chk_eq (apB8 (by omega))]
   have e1:IntKind.u64.wrap (Int.tdiv (v:Int) 10000)=((v / 10000:Nat):Int):=by
    rw[Int.tdiv_eq_ediv_of_nonneg (by omega),u64w (by omega) (by omega)];omega
   have e2:w64 (Int.tmod (v:Int) 10000)=((v % 10000:Nat):Int):=by
    rw[Int.tmod_eq_emod_of_nonneg (by omega),w64_id (by omega) (by omega)];omega
   rw[e1,e2,ih (v / 10000) (by omega) _ m (by omega) (by rw[List.length_append,List.length_singleton];omega) (by omega),List.append_assoc]
   rfl
theorem ofOk(n:Nat)(x:Int)(h:x.natAbs<1000000000000)(hn:5≤n):Dspec_Of n x=some ⟨decide (x<0),dg x.natAbs⟩:=by
 have hl:=dg_len3 h
 have key:∀b,Dspec_Of_0 n x (x.natAbs:Int) b []=some ⟨decide (x<0),dg x.natAbs⟩:=by
  intro b
  unfold Dspec_Of_0
  rw[ofLoop n x b x.natAbs [] n (by omega) (by simp;omega) (by omega),List.nil_append]
  unfold Dspec_Of_1
  rw[numOk n _ _ (Dg_dg _) (by omega) (vl_dg _) (by omega),Option.bind_some]
  by_cases hx:x<0
  ·simp[hx];omega
  ·simp[hx]
 unfold Dspec_Of
 by_cases hx:x<0
 ·rw[dec_t hx,frk_t]
  have e:IntKind.u64.wrap ((IntKind.u64.wrap (w64 (0-(w64 (x+1)))))+1)=(x.natAbs:Int):=by
   rw[w64_id (x:=x+1) (by omega) (by omega),w64_id (by omega) (by omega),u64w (x:=0-(x+1)) (by omega) (by omega),u64w (by omega) (by omega)];omega
  rw[e,key];rw[dec_t hx]
 ·rw[dec_f hx,frk_f]
  have e:IntKind.u64.wrap x=(x.natAbs:Int):=by rw[u64w (by omega) (by omega)];omega
  rw[e,key];rw[dec_f hx]
theorem nokStep(n:Nat)(t3:Int)(g:Bool)(l:List Int)(rec0:Int→Option Bool)(a:Int) :
  Dspec_NumOk_2 n t3 g l rec0 a=frk (decide (a<t3)) (frk (decide (a≤120)) ((lget l a).bind fun v0=>(Dspec_l1In v0 0 9999).bind fun v1=>frk (!v1) (some false) (rec0 (w64 (a+1)))) (Dspec_NumOk_1 n t3 g l)) (Dspec_NumOk_1 n t3 g l):=rfl
theorem nokEnd(n:Nat)(g:Bool)(v:Nat)(hl:(dg v).length≤100)(hg:g=true→0<v):Dspec_NumOk_1 n ((dg v).length:Int) g (dg v)=some true:=by
 unfold Dspec_NumOk_1
 rw[dec_t (by omega),frk_t]
 by_cases h:v=0
 ·subst h
  rw[dg_zero]
  have:g=false:=by cases g with
   | false=>rfl
   | true=>have:=hg rfl;omega
  subst this;rfl
 ·have hp:=List.length_pos_iff.2 (dg_ne.2 (show 0<v by omega))
  obtain⟨k,hk⟩:∃k,(dg v).length=k+1:=⟨(dg v).length-1,by omega⟩
  have hla:=dg_last v
  rw[List.getLast?_eq_getElem?,hk] at hla
  obtain⟨d,hd⟩:∃d,(dg v)[k]?=some d:=⟨(dg v)[k],List.getElem?_eq_getElem (by omega)⟩
  rw[Nat.add_sub_cancel,hd] at hla
  have hd0:d≠0:=by simpa using hla
  rw[hk,show (((k+1:Nat):Int)==0)=false by simp;omega,frk_f,dec_t (by omega),frk_t,w64_prd (by omega),lget_nat,hd,Option.bind_some]
  simpa using hd0
theorem nokLoop(n:Nat)(g:Bool)(v:Nat)(hl:(dg v).length≤100)(hg:g=true→0<v):∀(k i m:Nat),i+k=(dg v).length→k<m →
  loopN (Dspec_NumOk_2 n ((dg v).length:Int) g (dg v)) m (i:Int)=some true:=by
 intro k
 induction k with
 | zero =>
  intro i m h0 hm
  obtain⟨m,rfl⟩:∃j,m=j+1:=⟨m-1,by omega⟩
  rw[loop_suc,nokStep,dec_f (by omega),frk_f,nokEnd n g v hl hg]
 | succ k ih =>
  intro i m h0 hm
  obtain⟨m,rfl⟩:∃j,m=j+1:=⟨m-1,by omega⟩
  obtain⟨d,hd⟩:∃d,(dg v)[i]?=some d:=⟨(dg v)[i],List.getElem?_eq_getElem (by omega)⟩
  have:=(Dg_dg v).get hd
  rw[loop_suc,nokStep,dec_t (by omega),frk_t,dec_t (by omega),frk_t,lget_nat,hd,Option.bind_some,sIn,Option.bind_some,rIn_iff.2 this,Bool.not_true,frk_f,w64_suc (by unfold big;omega)]
  exact ih (i+1) m (by omega) (by omega)
theorem nokOk(n:Nat)(g:Bool)(v:Nat)(hv:v<1000000000000)(hg:g=true→0<v)(hn:5≤n):Dspec_NumOk n ⟨g,dg v⟩=some true:=by
 have hl:=dg_len3 hv
 unfold Dspec_NumOk
 exact nokLoop n g v (by omega) hg (dg v).length 0 n (by omega) (by omega)
theorem magOk(n:Nat)(g:Bool)(v:Nat)(hv:v<1000000000000)(hg:g=true→0<v)(hn:5≤n):Dspec_l1Mag n ⟨g,dg v⟩=some (dg v):=by
 unfold Dspec_l1Mag;rw[nokOk n g v hv hg hn];rfl
theorem signOk(n:Nat)(g:Bool)(v:Nat)(hv:v<1000000000000)(hg:g=true→0<v)(hn:5≤n):Dspec_l1Sign n ⟨g,dg v⟩=some g:=by
 unfold Dspec_l1Sign;rw[nokOk n g v hv hg hn];rfl
end Evl.T
namespace Evl.T
open Go Evl
theorem cmpStep(n:Nat)(a b:List Int)(rec0:Int→Option Int)(i:Int) :
  Dspec_l1CmpMag_0 n a b rec0 i=frk (decide (i≥0)) ((lget a i).bind fun v0=>(lget b i).bind fun v1=>frk (v0 != v1) ((lget a i).bind fun v2=>(lget b i).bind fun v3=>frk (decide (v2<v3)) (some (-1)) (some 1)) (rec0 (w64 (i-1)))) (some 0):=rfl
theorem pow_step{x y P:Int}(hP:0≤P)(h:x<y):P*x+P≤P*y:=by
 have:P*(x+1)≤P*y:=Int.mul_le_mul_of_nonneg_left (by omega) hP
 rw[Int.mul_add,Int.mul_one] at this;exact this
theorem cmpLoop(n:Nat){a b:List Int}(ha:Dg a)(hb:Dg b)(hl:a.length=b.length)(hl2:a.length≤1000):∀(i m:Nat),i≤a.length→i<m →
  ∃r,loopN (Dspec_l1CmpMag_0 n a b) m ((i:Int)-1)=some r∧(r≥0↔vl (b.take i)≤vl (a.take i)):=by
 intro i
 induction i with
 | zero =>
  intro m _ hm
  obtain⟨m,rfl⟩:∃j,m=j+1:=⟨m-1,by omega⟩
  refine⟨0,?_,by simp[vl]⟩
  rw[loop_suc,cmpStep,dec_f (by omega),frk_f]
 | succ i ih =>
  intro m hi hm
  obtain⟨m,rfl⟩:∃j,m=j+1:=⟨m-1,by omega⟩
  obtain⟨x,hx⟩:∃d,a[i]?=some d:=⟨a[i],List.getElem?_eq_getElem (by omega)⟩
  obtain⟨y,hy⟩:∃d,b[i]?=some d:=⟨b[i],List.getElem?_eq_getElem (by omega)⟩
  have e:((i+1:Nat):Int)-1=(i:Int):=by omega
  rw[loop_suc,cmpStep,e,dec_t (by omega),frk_t,lget_nat,lget_nat,hx,hy,Option.bind_some,Option.bind_some]
  simp only[Option.bind_some]
  have p1:=vl_lt (ha.take i)
  have p2:=vl_lt (hb.take i)
  rw[List.length_take,Nat.min_eq_left (by omega)] at p1 p2
  have q1:=vl_nn (ha.take i)
  have q2:=vl_nn (hb.take i)
  have hP:(0:Int)≤10000 ^ i:=Int.pow_nonneg (by omega)
  rw[vl_take_s hx,vl_take_s hy]
  by_cases h:x=y
  ·subst h
   rw[show (x != x)=false by simp,frk_f,w64_id (by omega) (by omega)]
   obtain⟨r,h1,h2⟩:=ih m (by omega) (by omega)
   exact⟨r,h1,h2.trans (by omega)⟩
  ·rw[show (x != y)=true by simpa using h,frk_t]
   by_cases h2:x<y
   ·refine⟨-1,by rw[dec_t h2,frk_t],?_⟩
    have:=pow_step hP h2
    omega
   ·refine⟨1,by rw[dec_f h2,frk_f],?_⟩
    have:=pow_step hP (show y<x by omega)
    omega
theorem cmpOk(n:Nat)(a b:Nat)(hl:(dg a).length≤100)(hl2:(dg b).length≤100)(hn:101≤n):∃r,Dspec_l1CmpMag n (dg a) (dg b)=some r∧(r≥0↔b≤a):=by
 unfold Dspec_l1CmpMag
 by_cases h:(dg a).length=(dg b).length
 ·rw[show (((dg a).length:Int) != ((dg b).length:Int))=false by rw[h];simp,frk_f,w64_id (by omega) (by omega)]
  obtain⟨r,h1,h2⟩:=cmpLoop n (Dg_dg a) (Dg_dg b) h (by omega) (dg a).length n (Nat.le_refl _) (by omega)
  refine⟨r,h1,h2.trans ?_⟩
  rw[List.take_length,h,List.take_length,vl_dg,vl_dg];omega
 ·rw[show (((dg a).length:Int) != ((dg b).length:Int))=true by simpa using by omega,frk_t]
  by_cases h2:(dg a).length<(dg b).length
  ·refine⟨-1,by rw[dec_t (by omega),frk_t],?_⟩
   constructor
   ·intro h;omega
   ·intro h;have:=dg_mono h;omega
  ·refine⟨1,by rw[dec_f (by omega),frk_f],?_⟩
   constructor
   ·intro _
    by_cases hh:b≤a
    ·exact hh
    ·have:=dg_mono (show a≤b by omega);omega
   ·intro _;omega
theorem guessStep1(n:Nat)(a b:List Int)(rec0:Int×Int→Option Int)(t5 t6:Int) :
  Dspec_l1Guess_6 n a b rec0 (t5,t6)=frk (decide (t6≥0)) (frk (decide (t6≥(w64 ((b.length:Int)-3)))) ((lget a t6).bind fun v0=>rec0 (w64 ((w64 (t5*10000))+v0),w64 (t6-1))) (Dspec_l1Guess_1 n b t5 0 (w64 ((b.length:Int)-1)))) (Dspec_l1Guess_1 n b t5 0 (w64 ((b.length:Int)-1))):=rfl
theorem guessStep2(n:Nat)(b:List Int)(t5:Int)(rec1:Int×Int→Option Int)(t7 t8:Int) :
  Dspec_l1Guess_5 n b t5 rec1 (t7,t8)=frk (decide (t8≥0)) (frk (decide (t8≥(w64 ((b.length:Int)-3)))) ((lget b t8).bind fun v1=>rec1 (w64 ((w64 (t7*10000))+v1),w64 (t8-1))) (Dspec_l1Guess_3 n t5 t7 (decide ((b.length:Int)>3)))) (Dspec_l1Guess_3 n t5 t7 (decide ((b.length:Int)>3))):=rfl
theorem vl_small{a:List Int}(ha:Dg a)(hl:a.length≤3):vl a<1000000000000:=by
 have h:=vl_lt ha
 have:a.length=0∨a.length=1∨a.length=2∨a.length=3:=by omega
 rcases this with e | e | e | e <;> rw[e] at h <;> omega
theorem guessL1(n:Nat){a b:List Int}(ha:Dg a)(hl:a.length≤3)(hlb:b.length≤3):∀(i m:Nat),i≤a.length→i<m →
  loopN (Dspec_l1Guess_6 n a b) m (vl (a.drop i),(i:Int)-1)=Dspec_l1Guess_1 n b (vl a) 0 (w64 ((b.length:Int)-1)):=by
 intro i
 induction i with
 | zero =>
  intro m _ hm
  obtain⟨m,rfl⟩:∃j,m=j+1:=⟨m-1,by omega⟩
  rw[loop_suc,guessStep1,dec_f (by omega),frk_f];rfl
 | succ i ih =>
  intro m hi hm
  obtain⟨m,rfl⟩:∃j,m=j+1:=⟨m-1,by omega⟩
  obtain⟨x,hx⟩:∃d,a[i]?=some d:=⟨a[i],List.getElem?_eq_getElem (by omega)⟩
  have e:((i+1:Nat):Int)-1=(i:Int):=by omega
  have b1:=vl_small ha hl
  have b2:=vl_drop_le ha i
  have b3:=vl_nn (ha.drop i)
  have b4:=vl_nn (ha.drop (i+1))
  have b5:=ha.get hx
  have e2:=vl_drop_s hx
  rw[loop_suc,guessStep1,e,dec_t (by omega),frk_t,dec_t (by rw[w64_id (by omega) (by omega)];omega),frk_t,lget_nat,hx,Option.bind_some]
  rw[w64_id (x:=vl (a.drop (i+1))*10000) (by omega) (by omega),show vl (a.drop (i+1))*10000+x=vl (a.drop i) by omega,w64_id (x:=vl (a.drop i)) (by omega) (by omega),w64_id (x:=(i:Int)-1) (by omega) (by omega)]
  exact ih m (by omega) (by omega)
theorem guessL2(n:Nat){b:List Int}(ha:Dg b)(hl:b.length≤3)(t5:Int):∀(i m:Nat),i≤b.length→i<m →
  loopN (Dspec_l1Guess_5 n b t5) m (vl (b.drop i),(i:Int)-1)=Dspec_l1Guess_3 n t5 (vl b) false:=by
 intro i
 induction i with
 | zero =>
  intro m _ hm
  obtain⟨m,rfl⟩:∃j,m=j+1:=⟨m-1,by omega⟩
  rw[loop_suc,guessStep2,dec_f (by omega),frk_f,dec_f (by omega)];rfl
 | succ i ih =>
  intro m hi hm
  obtain⟨m,rfl⟩:∃j,m=j+1:=⟨m-1,by omega⟩
  obtain⟨x,hx⟩:∃d,b[i]?=some d:=⟨b[i],List.getElem?_eq_getElem (by omega)⟩
  have e:((i+1:Nat):Int)-1=(i:Int):=by omega
  have b1:=vl_small ha hl
  have b2:=vl_drop_le ha i
  have b3:=vl_nn (ha.drop i)
  have b4:=vl_nn (ha.drop (i+1))
  have b5:=ha.get hx
  have e2:=vl_drop_s hx
  rw[loop_suc,guessStep2,e,dec_t (by omega),frk_t,dec_t (by rw[w64_id (by omega) (by omega)];omega),frk_t,lget_nat,hx,Option.bind_some]
  rw[w64_id (x:=vl (b.drop (i+1))*10000) (by omega) (by omega),show vl (b.drop (i+1))*10000+x=vl (b.drop i) by omega,w64_id (x:=vl (b.drop i)) (by omega) (by omega),w64_id (x:=(i:Int)-1) (by omega) (by omega)]
  exact ih m (by omega) (by omega)
theorem guessOk(n a b:Nat)(ha:a<1000000000000)(hb:0<b)(hab:b≤a)(hn:5≤n):Dspec_l1Guess n (dg a) (dg b)=some ((a / b:Nat):Int):=by
 have l1:=dg_len3 ha
 have l2:=dg_len3 (show b<1000000000000 by omega)
 unfold Dspec_l1Guess
 rw[w64_id (by omega) (by omega)]
 have e1:=guessL1 n (b:=dg b) (Dg_dg a) l1 l2 (dg a).length n (Nat.le_refl _) (by omega)
 rw[List.drop_length] at e1
 have e1':loopN (Dspec_l1Guess_6 n (dg a) (dg b)) n ((0:Int),((dg a).length:Int)-1)=_:=e1
 rw[e1']
 unfold Dspec_l1Guess_1
 rw[w64_id (by omega) (by omega)]
 have e2:=guessL2 n (Dg_dg b) l2 (vl (dg a)) (dg b).length n (Nat.le_refl _) (by omega)
 rw[List.drop_length] at e2
 have e2':loopN (Dspec_l1Guess_5 n (dg b) (vl (dg a))) n ((0:Int),((dg b).length:Int)-1)=_:=e2
 rw[e2',vl_dg,vl_dg]
 unfold Dspec_l1Guess_3 Dspec_l1Guess_4
 rw[frk_f]
 have hq:0<a / b:=Nat.div_pos hab hb
 have hq2:a / b≤a:=Nat.div_le_self a b
 have e3:qt .i64 (a:Int) (b:Int)=some ((a / b:Nat):Int):=by
  unfold qt
  rw[if_neg (by omega),Int.tdiv_eq_ediv_of_nonneg (by omega)]
  have:IntKind.i64.wrap ((a:Int) / (b:Int))=((a / b:Nat):Int):=by
   have e:(a:Int) / (b:Int)=((a / b:Nat):Int):=by simp
   rw[e];exact w64_id (by omega) (by omega)
  rw[this]
 rw[e3]
 simp only[Option.bind_some]
 rw[dec_t (by omega),frk_t]
def subR:List Int→List Int→Int→List Int
 | [],_,_=>[]
 | x::xs,ys,c=>if x-c-ys.headD 0<0 then (x-c-ys.headD 0+10000)::subR xs ys.tail 1 else (x-c-ys.headD 0)::subR xs ys.tail 0
theorem hd_ok{ys:List Int}(h:Dg ys):0≤ys.headD 0∧ys.headD 0≤9999:=by
 cases ys with
 | nil=>simp
 | cons y ys=>exact h.head
theorem tl_ok{ys:List Int}(h:Dg ys):Dg ys.tail:=by
 cases ys with
 | nil=>exact Dg.nil
 | cons y ys=>exact h.tail
theorem vl_hd(ys:List Int):vl ys=ys.headD 0+10000*vl ys.tail:=by
 cases ys with
 | nil=>rfl
 | cons y ys=>rfl
theorem subR_Dg:∀(xs ys:List Int) (c:Int),Dg xs→Dg ys→0≤c→c≤1→Dg (subR xs ys c)
 | [],_,_,_,_,_,_=>Dg.nil
 | x::xs,ys,c,h1,h2,h3,h4=>by
  have:=h1.head;have:=hd_ok h2
  unfold subR
  split
  ·exact Dg.cons (by omega) (by omega) (subR_Dg xs ys.tail 1 h1.tail (tl_ok h2) (by omega) (by omega))
  ·exact Dg.cons (by omega) (by omega) (subR_Dg xs ys.tail 0 h1.tail (tl_ok h2) (by omega) (by omega))
theorem subR_vl:∀(xs ys:List Int) (c:Int),Dg xs→Dg ys→0≤c→c≤1→vl ys+c≤vl xs→vl (subR xs ys c)=vl xs-vl ys-c
 | [],ys,c,_,h2,h3,_,h5=>by
  have:=vl_nn h2
  have e:vl []=0:=rfl
  show vl []=_
  omega
 | x::xs,ys,c,h1,h2,h3,h4,h5=>by
  have:=h1.head;have:=hd_ok h2
  have e1:=vl_hd ys
  have e2:vl (x::xs)=x+10000*vl xs:=rfl
  unfold subR
  split
  ·have:=subR_vl xs ys.tail 1 h1.tail (tl_ok h2) (by omega) (by omega) (by omega)
   show x-c-ys.headD 0+10000+10000*vl (subR xs ys.tail 1)=_
   omega
  ·have:=subR_vl xs ys.tail 0 h1.tail (tl_ok h2) (by omega) (by omega) (by omega)
   show x-c-ys.headD 0+10000*vl (subR xs ys.tail 0)=_
   omega
theorem subR_len:∀(xs ys:List Int) (c:Int),(subR xs ys c).length=xs.length
 | [],_,_=>rfl
 | x::xs,ys,c=>by
  unfold subR
  split
  ·rw[List.length_cons,List.length_cons,subR_len]
  ·rw[List.length_cons,List.length_cons,subR_len]
theorem subStep(n:Nat)(a b:List Int)(rec0:Int×Int×List Int→Option (List Int))(t6 t7:Int)(l:List Int) :
  Dspec_l1SubMag_2 n a b rec0 (t6,t7,l)=frk (decide (t7<(a.length:Int))) ((lget a t7).bind fun v0=>frk (decide (t7<(b.length:Int))) ((lget b t7).bind fun v1=>Dspec_l1SubMag_0 n rec0 a b 0 t7 (w64 ((w64 (v0-t6))-v1)) (decide ((w64 ((w64 (v0-t6))-v1))<0)) l) (Dspec_l1SubMag_0 n rec0 a b 0 t7 (w64 (v0-t6)) (decide ((w64 (v0-t6))<0)) l)) (some l):=rfl
theorem subMid(n:Nat)(a b:List Int)(rec0:Int×Int×List Int→Option (List Int))(t:Int)(i:Nat)(l:List Int)(ht:-20000≤t)(ht2:t≤20000)(hl:l.length≤1000)(hi:i≤1000) :
  Dspec_l1SubMag_0 n rec0 a b 0 (i:Int) t (decide (t<0)) l=if t<0 then rec0 (1,((i+1:Nat):Int),l++[t+10000]) else rec0 (0,((i+1:Nat):Int),l++[t]):=by
 unfold Dspec_l1SubMag_0 Dspec_l1SubMag_1
 rw[chk_eq (apB8 (by omega)),chk_eq (apB8 (by omega)),w64_suc (by unfold big;omega),w64_id (x:=t+10000) (by omega) (by omega),frk_if]
 by_cases h:t<0
 ·rw[if_pos h,dec_t h,if_pos rfl]
 ·rw[if_neg h,dec_f h,if_neg (by decide)]
theorem subLoop(n:Nat){a b:List Int}(ha:Dg a)(hb:Dg b)(hl:a.length≤100):∀(k i m:Nat) (c:Int) (l:List Int),i+k=a.length→k<m→0≤c→c≤1→l.length=i →
  loopN (Dspec_l1SubMag_2 n a b) m (c,(i:Int),l)=some (l++subR (a.drop i) (b.drop i) c):=by
 intro k
 induction k with
 | zero =>
  intro i m c l h0 hm _ _ _
  obtain⟨m,rfl⟩:∃j,m=j+1:=⟨m-1,by omega⟩
  rw[loop_suc,subStep,dec_f (by omega),frk_f,show a.drop i=[] from List.drop_eq_nil_of_le (by omega)]
  show some l=some (l++[])
  rw[List.append_nil]
 | succ k ih =>
  intro i m c l h0 hm hc hc2 hll
  obtain⟨m,rfl⟩:∃j,m=j+1:=⟨m-1,by omega⟩
  obtain⟨x,hx⟩:∃d,a[i]?=some d:=⟨a[i],List.getElem?_eq_getElem (by omega)⟩
  obtain⟨hi,he⟩:=List.getElem?_eq_some_iff.1 hx
  have hxd:=ha.get hx
  have fin:∀y:Int,y=(b.drop i).headD 0→Dspec_l1SubMag_0 n (loopN (Dspec_l1SubMag_2 n a b) m) a b 0 (i:Int) (x-c-y) (decide (x-c-y<0)) l=some (l++subR (a.drop i) (b.drop i) c):=by
   intro y hy
   have hyd:=hd_ok (hb.drop i)
   rw[←hy] at hyd
   rw[subMid n a b _ (x-c-y) i l (by omega) (by omega) (by omega) (by omega),List.drop_eq_getElem_cons hi,he]
   unfold subR
   rw[←hy,List.tail_drop]
   by_cases h:x-c-y<0
   ·rw[if_pos h,if_pos h,ih (i+1) m 1 _ (by omega) (by omega) (by omega) (by omega) (by simp[hll]),List.append_assoc];rfl
   ·rw[if_neg h,if_neg h,ih (i+1) m 0 _ (by omega) (by omega) (by omega) (by omega) (by simp[hll]),List.append_assoc];rfl
  rw[loop_suc,subStep,dec_t (by omega),frk_t,lget_nat,hx,Option.bind_some]
  by_cases hb2:i<b.length
  ·obtain⟨y,hy⟩:∃d,b[i]?=some d:=⟨b[i],List.getElem?_eq_getElem hb2⟩
   have hyd:=hb.get hy
   rw[dec_t (by omega),frk_t,lget_nat,hy,Option.bind_some,w64_id (x:=x-c) (by omega) (by omega),w64_id (by omega) (by omega)]
   refine fin y ?_
   rw[List.drop_eq_getElem_cons hb2]
   have:=(List.getElem?_eq_some_iff.1 hy).2
   rw[this];rfl
  ·rw[dec_f (by omega),frk_f,w64_id (x:=x-c) (by omega) (by omega)]
   have:=fin 0 (by rw[show b.drop i=[] from List.drop_eq_nil_of_le (by omega)];rfl)
   rw[show x-c-0=x-c by omega] at this
   exact this
theorem subOk(n:Nat){a b:List Int}(ha:Dg a)(hb:Dg b)(hl:a.length≤100)(hv:vl b≤vl a)(hn:101≤n):∃r,Dspec_l1SubMag n a b=some r∧Dg r∧vl r=vl a-vl b∧r.length=a.length:=by
 refine⟨subR a b 0,?_,subR_Dg a b 0 ha hb (by omega) (by omega),?_,subR_len a b 0⟩
 ·unfold Dspec_l1SubMag
  exact subLoop n ha hb hl a.length 0 n 0 [] (by omega) (by omega) (by omega) (by omega) rfl
 ·have:=subR_vl a b 0 ha hb (by omega) (by omega) (by omega);omega
theorem mulStep1(n:Nat)(rec0:(Int×List Int)→Option (List Int))(t0 t1:List Int)(t6:Int)(rec1:(Int×Int×List Int)→Option (List Int))(t7 t8:Int)(l15:List Int) :
  Dspec_l1MulMag_1 n rec0 t0 t1 t6 rec1 (t7,t8,l15)=frk (decide (t8<(t1.length:Int))) ((lget t0 t6).bind fun v1=>(lget t1 t8).bind fun v2=>(lget l15 (w64 (t6+t8))).bind fun v3=>(lget l15 (w64 (t6+t8))).bind fun _v4=>rec1 (w64 (Int.tdiv (w64 ((w64 ((w64 (v1*v2))+v3))+t7)) 10000),w64 (t8+1),(l15.set (Int.toNat (w64 (t6+t8))) (Int.tmod (w64 ((w64 ((w64 (v1*v2))+v3))+t7)) 10000)))) (Dspec_l1MulMag_0 n rec0 t0 t1 t6 t7 l15):=rfl
theorem mulStep2(n:Nat)(t0 t1:List Int)(rec0:(Int×List Int)→Option (List Int))(t6:Int)(l15:List Int) :
  Dspec_l1MulMag_2 n t0 t1 rec0 (t6,l15)=frk (decide (t6<(t0.length:Int))) (loopN (Dspec_l1MulMag_1 n rec0 t0 t1 t6) n (0,0,l15)) (some l15):=rfl
theorem get_pre{α:Type}(p:List α)(k:Nat)(z:List α):(p++z)[p.length+k]?=z[k]?:=by
 rw[List.getElem?_append_right (by omega)];congr 1;omega
theorem set_pre{α:Type}(p:List α)(k:Nat)(z:List α)(x:α):(p++z).set (p.length+k) x=p++z.set k x:=by
 rw[List.set_append_right _ _ (by omega)];congr 2;omega
theorem mul_nn{x y:Int}(hx:0≤x∧x≤9999)(hy:0≤y∧y≤9999):0≤x*y∧x*y≤99980001:=by
 refine⟨Int.mul_nonneg hx.1 hy.1,?_⟩
 have h1:x*y≤9999*y:=Int.mul_le_mul_of_nonneg_right hx.2 hy.1
 omega
theorem mulCell(n:Nat)(rec0:(Int×List Int)→Option (List Int))(xs ys:List Int)(rec1:(Int×Int×List Int)→Option (List Int))(c:Int)(j:Nat)(p zs:List Int){x y z:Int}
  (hx:xs[p.length]?=some x) (hy:ys[j]?=some y) (hz:zs[j]?=some z) (hp:p.length≤1000) (hj:j≤1000)
  (bx:0≤x∧x≤9999) (by':0≤y∧y≤9999) (bz:0≤z∧z≤9999) (bc:0≤c∧c≤9999) :
  Dspec_l1MulMag_1 n rec0 xs ys (p.length:Int) rec1 (c,(j:Int),p++zs)=rec1 ((x*y+z+c) / 10000,((j+1:Nat):Int),p++zs.set j ((x*y+z+c) % 10000)):=by
 have hjl:j<ys.length:=(List.getElem?_eq_some_iff.1 hy).1
 have hb:=mul_nn bx by'
 have e:w64 ((p.length:Int)+(j:Int))=((p.length+j:Nat):Int):=by rw[w64_id (by omega) (by omega)];omega
 rw[mulStep1,dec_t (by omega),frk_t,lget_nat,hx,Option.bind_some,lget_nat,hy,Option.bind_some,e,lget_nat,get_pre,hz,Option.bind_some,Option.bind_some,Int.toNat_natCast,set_pre]
 rw[w64_id (x:=x*y) (by omega) (by omega),w64_id (x:=x*y+z) (by omega) (by omega),w64_id (x:=x*y+z+c) (by omega) (by omega),Int.tdiv_eq_ediv_of_nonneg (by omega),Int.tmod_eq_emod_of_nonneg (by omega),w64_id (by omega) (by omega),w64_suc (by unfold big;omega)]
theorem mulRow(n:Nat)(rec0:(Int×List Int)→Option (List Int))(xs:List Int)(y0 y1:Int)(m:Nat)(p zs:List Int){x z0 z1 z2:Int}
  (hx:xs[p.length]?=some x) (hp:p.length≤1000) (hm:3≤m)
  (bx:0≤x∧x≤9999) (by0:0≤y0∧y0≤9999) (by1:0≤y1∧y1≤9999) (bz0:0≤z0∧z0≤9999) (bz1:0≤z1∧z1≤9999) :
  ∃d0 d1 c,loopN (Dspec_l1MulMag_1 n rec0 xs [y0,y1] (p.length:Int)) m (0,0,p++z0::z1::z2::zs)=rec0 (((p.length+1:Nat):Int),p++d0::d1::c::zs) ∧
   (0≤d0∧d0≤9999)∧(0≤d1∧d1≤9999)∧(0≤c∧c≤9999)∧d0+10000*d1+100000000*c=x*y0+10000*(x*y1)+z0+10000*z1:=by
 obtain⟨m,rfl⟩:∃j,m=j+3:=⟨m-3,by omega⟩
 have h0:=mul_nn bx by0
 have h1:=mul_nn bx by1
 have s1:=mulCell n rec0 xs [y0,y1] (loopN (Dspec_l1MulMag_1 n rec0 xs [y0,y1] (p.length:Int)) (m+2)) 0 0 p (z0::z1::z2::zs) hx (y:=y0) rfl rfl hp (by omega) bx by0 bz0 (by omega)
 have s2:=mulCell n rec0 xs [y0,y1] (loopN (Dspec_l1MulMag_1 n rec0 xs [y0,y1] (p.length:Int)) (m+1)) ((x*y0+z0+0) / 10000) 1 p ((x*y0+z0+0) % 10000::z1::z2::zs) hx (y:=y1) rfl rfl hp (by omega) bx by1 bz1 (by omega)
 refine⟨(x*y0+z0+0) % 10000,(x*y1+z1+(x*y0+z0+0) / 10000) % 10000,(x*y1+z1+(x*y0+z0+0) / 10000) / 10000,?_,by omega,by omega,by omega,by omega⟩
 rw[loop_suc]
 refine s1.trans ?_
 rw[loop_suc]
 refine s2.trans ?_
 rw[loop_suc,mulStep1,dec_f (by show ¬(((1+1:Nat):Int)<((2:Nat):Int));omega),frk_f]
 unfold Dspec_l1MulMag_0
 have e:w64 ((p.length:Int)+(([y0,y1]:List Int).length:Int))=((p.length+2:Nat):Int):=by
  show w64 ((p.length:Int)+((2:Nat):Int))=_
  rw[w64_id (by omega) (by omega)];omega
 rw[e,lget_nat,get_pre,Int.toNat_natCast,set_pre,w64_suc (by unfold big;omega)]
 rfl
theorem mulLoop(n:Nat)(y0 y1:Int)(by0:0≤y0∧y0≤9999)(by1:0≤y1∧y1≤9999)(hn:3≤n){xs:List Int}(hD:Dg xs)(hl:xs.length≤100) :
  ∀(k m:Nat) (p:List Int) (z0 z1:Int),p.length+k=xs.length→k<m→0≤z0∧z0≤9999→0≤z1∧z1≤9999 →
  ∃r,loopN (Dspec_l1MulMag_2 n xs [y0,y1]) m ((p.length:Int),p++z0::z1::List.replicate k 0)=some (p++r)∧Dg r∧vl r=z0+10000*z1+vl (xs.drop p.length)*(y0+10000*y1)∧r.length=k+2:=by
 intro k
 induction k with
 | zero =>
  intro m p z0 z1 h0 hm b0 b1
  obtain⟨m,rfl⟩:∃j,m=j+1:=⟨m-1,by omega⟩
  refine⟨[z0,z1],?_,Dg.cons b0.1 b0.2 (Dg.cons b1.1 b1.2 Dg.nil),?_,rfl⟩
  ·rw[loop_suc,mulStep2,dec_f (by omega),frk_f];rfl
  ·rw[List.drop_eq_nil_of_le (by omega)];simp[vl]
 | succ k ih =>
  intro m p z0 z1 h0 hm b0 b1
  obtain⟨m,rfl⟩:∃j,m=j+1:=⟨m-1,by omega⟩
  obtain⟨x,hx⟩:∃d,xs[p.length]?=some d:=⟨xs[p.length],List.getElem?_eq_getElem (by omega)⟩
  have bx:=hD.get hx
  obtain⟨d0,d1,c,e1,q0,q1,q2,q3⟩:=mulRow n (loopN (Dspec_l1MulMag_2 n xs [y0,y1]) m) xs y0 y1 n p (List.replicate k 0) (z2:=0) hx (by omega) hn bx by0 by1 b0 b1
  obtain⟨r,r1,r2,r3,r4⟩:=ih m (p++[d0]) d1 c (by simp;omega) (by omega) q1 q2
  refine⟨d0::r,?_,Dg.cons q0.1 q0.2 r2,?_,by rw[List.length_cons,r4]⟩
  ·rw[loop_suc,mulStep2,dec_t (by omega),frk_t,List.replicate_succ,e1]
   have e2:(p++[d0]).length=p.length+1:=by simp
   rw[e2,List.append_assoc,List.append_assoc] at r1
   exact r1
  ·have e2:(p++[d0]).length=p.length+1:=by simp
   rw[e2] at r3
   rw[vl_drop_s hx]
   show d0+10000*vl r=_
   rw[r3]
   generalize vl (xs.drop (p.length+1))=V
   have e3:(x+10000*V)*(y0+10000*y1)=(x*y0+10000*(x*y1))+10000*(V*(y0+10000*y1)):=by
    rw[Int.add_mul,Int.mul_add,Int.mul_assoc 10000]
    congr 2
    rw[←Int.mul_assoc,Int.mul_comm x 10000,Int.mul_assoc]
   rw[e3]
   generalize V*(y0+10000*y1)=W
   omega
theorem mkB8{k:Int}(h:0≤k)(h2:k≤1000000):mkB k 8=true:=by
 simp only[mkB,Bool.and_eq_true,decide_eq_true_eq];omega
theorem mulOk(n:Nat)(y0 y1:Int)(by0:0≤y0∧y0≤9999)(by1:0≤y1∧y1≤9999){xs:List Int}(hD:Dg xs)(hl:xs.length≤100)(hn:101≤n) :
  ∃r,Dspec_l1MulMag n xs [y0,y1]=some r∧Dg r∧vl r=vl xs*(y0+10000*y1)∧r.length=xs.length+2:=by
 have e:w64 ((xs.length:Int)+(([y0,y1]:List Int).length:Int))=((xs.length+2:Nat):Int):=by
  show w64 ((xs.length:Int)+((2:Nat):Int))=_
  rw[w64_id (by omega) (by omega)];omega
 obtain⟨r,r1,r2,r3,r4⟩:=mulLoop n y0 y1 by0 by1 (by omega) hD hl xs.length n [] 0 0 (by simp) (by omega) (by omega) (by omega)
 refine⟨r,?_,r2,by rw[r3];show 0+10000*0+vl (xs.drop 0)*_=_;rw[List.drop_zero];omega,r4⟩
 unfold Dspec_l1MulMag
 rw[e,chk_eq (mkB8 (by omega) (by omega)),Int.toNat_natCast]
 exact r1
end Evl.T
namespace Evl.T
open Go Evl
theorem divStep0(n:Nat)(rec0:(Int×List Int×List Int)→Option ((List Int)×(List Int)))(t0 t1:List Int)(t8:Int)(rec1:(List Int×List Int)→Option ((List Int)×(List Int)))(l12 l29:List Int) :
  Dspec_l1DivMag_0 n rec0 t0 t1 t8 rec1 (l12,l29)=(Dspec_l1CmpMag n l29 t1).bind fun v4=>frk (decide (v4≥0)) ((Dspec_l1Guess n l29 t1).bind fun v5=>(lget l12 t8).bind fun v6=>(lget l12 t8).bind fun _v7=>(Dspec_l1MulMag n t1 [Int.tmod v5 10000,w64 (Int.tdiv v5 10000)]).bind fun v8=>(Dspec_l1Num n false v8).bind fun v9=>(Dspec_l1SubMag n l29 v9.D).bind fun v10=>(Dspec_l1Num n false v10).bind fun v11=>rec1 ((l12.set (Int.toNat t8) (w64 (v6+v5))),v11.D)) (rec0 (w64 (t8-1),l12,l29)):=rfl
theorem divStep1(n:Nat)(t0 t1:List Int)(rec0:(Int×List Int×List Int)→Option ((List Int)×(List Int)))(t8:Int)(l12 l13:List Int) :
  Dspec_l1DivMag_1 n t0 t1 rec0 (t8,l12,l13)=frk (decide (t8≥0)) ((lget t0 t8).bind fun v1=>chk (apB 8 (1+l13.length)) ((Dspec_l1Num n false ([v1]++l13)).bind fun v3=>loopN (Dspec_l1DivMag_0 n rec0 t0 t1 t8) n (l12,v3.D))) (some (l12,l13)):=rfl
theorem divOut(n:Nat)(rec0:(Int×List Int×List Int)→Option ((List Int)×(List Int)))(t0:List Int)(i:Nat)(q:List Int)(x b m:Nat)(hx:x<b)(hb:b<1000000000000)(hn:101≤n)(hi:i≤1000)(hm:1≤m) :
  loopN (Dspec_l1DivMag_0 n rec0 t0 (dg b) (i:Int)) m (q,dg x)=rec0 ((i:Int)-1,q,dg x):=by
 obtain⟨m,rfl⟩:∃j,m=j+1:=⟨m-1,by omega⟩
 obtain⟨r,h1,h2⟩:=cmpOk n x b (by have:=dg_len3 (show x<1000000000000 by omega);omega) (by have:=dg_len3 hb;omega) hn
 rw[loop_suc,divStep0,h1,Option.bind_some,dec_f (by omega),frk_f,w64_id (by omega) (by omega)]
theorem set_same{l:List Int}{i:Nat}(h:l[i]?=some 0):l.set i 0=l:=by
 apply List.ext_getElem?
 intro j
 rw[List.getElem?_set]
 split
 ·rename_i hj
  subst hj
  have:=(List.getElem?_eq_some_iff.1 h).1
  rw[if_pos this,h]
 ·rfl
theorem divIn(n:Nat)(rec0:(Int×List Int×List Int)→Option ((List Int)×(List Int)))(t0:List Int)(i:Nat)(q:List Int)(x b:Nat)(hx:x<1000000000000)(hb0:0<b)(hb:b<1000000000000)(hq:x / b≤9999)(hi:i≤1000)(hz:q[i]?=some 0)(hn:101≤n) :
  loopN (Dspec_l1DivMag_0 n rec0 t0 (dg b) (i:Int)) n (q,dg x)=rec0 ((i:Int)-1,q.set i ((x / b:Nat):Int),dg (x % b)):=by
 by_cases h:x<b
 ·rw[divOut n rec0 t0 i q x b n h hb hn hi (by omega),Nat.div_eq_of_lt h,Nat.mod_eq_of_lt h]
  rw[show ((0:Nat):Int)=0 from rfl,set_same hz]
 ·obtain⟨m,hm⟩:∃j,n=j+1:=⟨n-1,by omega⟩
  have l1:=dg_len3 hx
  have l2:=dg_len3 hb
  obtain⟨r,h1,h2⟩:=cmpOk n x b (by omega) (by omega) hn
  have hg:=guessOk n x b hx hb0 (by omega) (by omega)
  have hy0:(0:Int)≤((x / b:Nat):Int):=Int.natCast_nonneg _
  have hy:(0:Int)≤((x / b:Nat):Int)∧((x / b:Nat):Int)≤9999:=by omega
  obtain⟨P,p1,p2,p3,p4⟩:=mulOk n ((x / b:Nat):Int) 0 hy (by omega) (Dg_dg b) (by omega) hn
  have hmul:b*(x / b)≤x:=Nat.mul_div_le x b
  have hmod:x % b=x-b*(x / b):=by have:=Nat.div_add_mod x b;omega
  have p3':vl P=((b*(x / b):Nat):Int):=by
   rw[p3,vl_dg,show ((x / b:Nat):Int)+10000*0=((x / b:Nat):Int) by omega];exact(Int.natCast_mul _ _).symm
  have hP:=numOk n false P p2 (by omega) p3' (by omega)
  obtain⟨R,r1,r2,r3,r4⟩:=subOk n (Dg_dg x) (Dg_dg (b*(x / b))) (by omega) (by rw[vl_dg,vl_dg];omega) hn
  have r3':vl R=((x % b:Nat):Int):=by rw[r3,vl_dg,vl_dg];omega
  have hR:=numOk n false R r2 (by omega) r3' (by omega)
  have hgen:loopN (Dspec_l1DivMag_0 n rec0 t0 (dg b) (i:Int)) (m+1) (q,dg x)=rec0 ((i:Int)-1,q.set i ((x / b:Nat):Int),dg (x % b)):=by
   rw[loop_suc,divStep0,h1,Option.bind_some,dec_t (by omega),frk_t,hg,Option.bind_some,lget_nat,hz,Option.bind_some,Option.bind_some]
   have e1:Int.tmod ((x / b:Nat):Int) 10000=((x / b:Nat):Int):=by rw[Int.tmod_eq_emod_of_nonneg (by omega)];omega
   have e2:w64 (Int.tdiv ((x / b:Nat):Int) 10000)=0:=by rw[Int.tdiv_eq_ediv_of_nonneg (by omega),w64_id (by omega) (by omega)];omega
   rw[e1,e2,p1,Option.bind_some,hP,Option.bind_some]
   show ((Dspec_l1SubMag n (dg x) (dg (b*(x / b)))).bind _)=_
   rw[r1,Option.bind_some,hR,Option.bind_some]
   rw[w64_id (x:=0+((x / b:Nat):Int)) (by omega) (by omega),show (0:Int)+((x / b:Nat):Int)=((x / b:Nat):Int) by omega,Int.toNat_natCast]
   exact divOut n rec0 t0 i _ (x % b) b m (Nat.mod_lt _ hb0) hb hn hi (by omega)
  rw[←hm] at hgen
  exact hgen
theorem divLoop(n A b:Nat)(hA:A<1000000000000)(hb0:0<b)(hb:b<1000000000000)(hn:101≤n):∀(i m:Nat) (qh:List Int) (H:Nat),i≤(dg A).length→i<m→vl ((dg A).drop i)=H→Dg qh→vl qh=((H / b:Nat):Int) →
  ∃q,loopN (Dspec_l1DivMag_1 n (dg A) (dg b)) m ((i:Int)-1,List.replicate i 0++qh,dg (H % b))=some (q,dg (A % b))∧Dg q∧vl q=((A / b:Nat):Int)∧q.length=i+qh.length:=by
 have l1:=dg_len3 hA
 intro i
 induction i with
 | zero =>
  intro m qh H _ hm hH hD hv
  obtain⟨m,rfl⟩:∃j,m=j+1:=⟨m-1,by omega⟩
  rw[List.drop_zero,vl_dg] at hH
  have:A=H:=by omega
  subst this
  exact⟨qh,by rw[loop_suc,divStep1,dec_f (by omega),frk_f];rfl,hD,hv,by omega⟩
 | succ i ih =>
  intro m qh H hi hm hH hD hv
  obtain⟨m,rfl⟩:∃j,m=j+1:=⟨m-1,by omega⟩
  obtain⟨d,hd⟩:∃d,(dg A)[i]?=some d:=⟨(dg A)[i],List.getElem?_eq_getElem (by omega)⟩
  have hdb:=(Dg_dg A).get hd
  obtain⟨e,rfl⟩:∃e:Nat,d=e:=⟨d.toNat,by omega⟩
  have hlt:=Nat.mod_lt H hb0
  have hdm:=Nat.div_add_mod H b
  have hH':vl ((dg A).drop i)=((e+10000*H:Nat):Int):=by rw[vl_drop_s hd,hH];omega
  have hle:=vl_drop_le (Dg_dg A) i
  rw[hH',vl_dg] at hle
  have hmodle:H % b≤H:=Nat.mod_le H b
  have lr:=dg_len3 (show H % b<1000000000000 by omega)
  have hx:e+10000*(H % b)<1000000000000:=by omega
  have hsplit:e+10000*H=(e+10000*(H % b))+b*(10000*(H / b)):=by
   have:b*(10000*(H / b))=10000*(b*(H / b)):=by rw[←Nat.mul_assoc,Nat.mul_comm b 10000,Nat.mul_assoc]
   omega
  have hdiv:(e+10000*H) / b=(e+10000*(H % b)) / b+10000*(H / b):=by rw[hsplit,Nat.add_mul_div_left _ _ hb0]
  have hmod:(e+10000*H) % b=(e+10000*(H % b)) % b:=by rw[hsplit,Nat.add_mul_mod_self_left]
  have hq:(e+10000*(H % b)) / b≤9999:=by
   have:(e+10000*(H % b)) / b<10000:=by rw[Nat.div_lt_iff_lt_mul hb0];omega
   omega
  have hnum:=numOk n false ([(e:Int)]++dg (H % b)) (Dg.cons hdb.1 hdb.2 (Dg_dg _)) (by simp;omega) (v:=e+10000*(H % b)) (by show (e:Int)+10000*vl (dg (H % b))=_;rw[vl_dg];omega) (by simp;omega)
  have hz:(List.replicate (i+1) (0:Int)++qh)[i]?=some 0:=by
   rw[List.getElem?_append_left (by simp)];simp
  have hin:=divIn n (loopN (Dspec_l1DivMag_1 n (dg A) (dg b)) m) (dg A) i (List.replicate (i+1) 0++qh) (e+10000*(H % b)) b hx hb0 hb hq (by omega) hz hn
  have hset:(List.replicate (i+1) (0:Int)++qh).set i (((e+10000*(H % b)) / b:Nat):Int)=List.replicate i 0++((((e+10000*(H % b)) / b:Nat):Int)::qh):=by
   have e1:List.replicate (i+1) (0:Int)++qh=List.replicate i 0++(0::qh):=by
    rw[List.replicate_succ'];simp
   have e2:=set_pre (List.replicate i (0:Int)) 0 (0::qh) (((e+10000*(H % b)) / b:Nat):Int)
   rw[List.length_replicate] at e2
   rw[e1];exact e2
  have hy0:(0:Int)≤(((e+10000*(H % b)) / b:Nat):Int):=Int.natCast_nonneg _
  obtain⟨q,q1,q2,q3,q4⟩:=ih m ((((e+10000*(H % b)) / b:Nat):Int)::qh) (e+10000*H) (by omega) (by omega) hH' (Dg.cons hy0 (by omega) hD) (by
   show (((e+10000*(H % b)) / b:Nat):Int)+10000*vl qh=_
   rw[hv,hdiv];omega)
  refine⟨q,?_,q2,q3,by rw[q4,List.length_cons];omega⟩
  have ei:((i+1:Nat):Int)-1=(i:Int):=by omega
  rw[loop_suc,divStep1,ei,dec_t (by omega),frk_t,lget_nat,hd,Option.bind_some,chk_eq (apB8 (by omega)),hnum,Option.bind_some]
  refine hin.trans ?_
  rw[hset,←hmod]
  exact q1
theorem divOk(n A b:Nat)(hA:A<1000000000000)(hb0:0<b)(hb:b<1000000000000)(hn:101≤n) :
  ∃q,Dspec_l1DivMag n (dg A) (dg b)=some (q,dg (A % b))∧Dg q∧vl q=((A / b:Nat):Int)∧q.length≤3:=by
 have l1:=dg_len3 hA
 obtain⟨q,q1,q2,q3,q4⟩:=divLoop n A b hA hb0 hb hn (dg A).length n [] 0 (Nat.le_refl _) (by omega) (by rw[List.drop_length];rfl) Dg.nil (by simp[vl])
 refine⟨q,?_,q2,q3,by rw[q4];simpa using l1⟩
 unfold Dspec_l1DivMag
 rw[chk_eq (mkB8 (by omega) (by omega)),w64_id (by omega) (by omega),Int.toNat_natCast]
 rw[Nat.zero_mod,dg_zero,List.append_nil] at q1
 exact q1
theorem gcdStep(n:Nat)(rec0:(List Int×List Int)→Option (List Int))(t0 t1:List Int) :
  Dspec_l1Gcd_0 n rec0 (t0,t1)=frk (decide ((t1.length:Int)>0)) ((Dspec_l1DivMag n t0 t1).bind fun v0=>rec0 (t1,v0.2)) (some t0):=rfl
theorem gcdLoop(n:Nat)(hn:101≤n):∀(b a m:Nat),b<m→a<1000000000000→b<1000000000000→loopN (Dspec_l1Gcd_0 n) m (dg a,dg b)=some (dg (Nat.gcd a b)):=by
 intro b
 induction b using Nat.strongRecOn with
 | ind b ih =>
  intro a m hm ha hb
  obtain⟨m,rfl⟩:∃j,m=j+1:=⟨m-1,by omega⟩
  rw[loop_suc,gcdStep]
  by_cases h:b=0
  ·subst h;rw[dg_zero,dec_f (by simp),frk_f,Nat.gcd_zero_right]
  ·have hp:=List.length_pos_iff.2 (dg_ne.2 (show 0<b by omega))
   obtain⟨q,q1,-,-,-⟩:=divOk n a b ha (by omega) hb hn
   have hlt:=Nat.mod_lt a (show b>0 by omega)
   rw[dec_t (by omega),frk_t,q1,Option.bind_some]
   refine(ih (a % b) hlt b m (by omega) hb (by omega)).trans ?_
   rw[Nat.gcd_comm b,Nat.gcd_comm a,Nat.gcd_rec b a]
theorem gcd_lt{a b:Nat}(ha:a<1000000000000)(hb:b<1000000000000):Nat.gcd a b<1000000000000:=by
 by_cases h:b=0
 ·subst h;rw[Nat.gcd_zero_right];exact ha
 ·exact Nat.lt_of_le_of_lt (Nat.gcd_le_right a (by omega)) hb
theorem gcdOk(n:Nat)(g1 g2:Bool)(a b:Nat)(ha:a<1000000000000)(hb:b<1000000000000)(h1:g1=true→0<a)(h2:g2=true→0<b)(hbn:b<n)(hn:101≤n) :
  Dspec_Gcd n ⟨g1,dg a⟩ ⟨g2,dg b⟩=some ⟨false,dg (Nat.gcd a b)⟩:=by
 unfold Dspec_Gcd
 rw[magOk n g1 a ha h1 (by omega),Option.bind_some,magOk n g2 b hb h2 (by omega),Option.bind_some]
 unfold Dspec_l1Gcd
 rw[gcdLoop n hn b a n hbn ha hb,Option.bind_some,numOk n false _ (Dg_dg _) (by have:=dg_len3 (gcd_lt ha hb);omega) (vl_dg _) (by have:=dg_len3 (gcd_lt ha hb);omega)]
 rfl
def nm (x:Int):Num:=⟨decide (x<0),dg x.natAbs⟩
theorem ngStep(n:Nat)(t0:List Num)(b:Bool)(rec0:(Int×Bool×List Int)→Option Num)(t4:Int)(b3_0:Bool)(b3_1:List Int) :
  Dspec_l3NumGcd_0 n t0 b rec0 (t4,b3_0,b3_1)=frk (decide (t4<(t0.length:Int))) ((lget t0 t4).bind fun v1=>(Dspec_Gcd n (Num.mk b3_0 b3_1) v1).bind fun v2=>rec0 (w64 (t4+1),v2.Neg,v2.D)) (some (Num.mk b3_0 b3_1)):=rfl
theorem ngOne(n:Nat)(l:List Num)(b:Bool)(rec0:(Int×Bool×List Int)→Option Num)(i:Nat)(g:Nat){x:Int}(hx:l[i]?=some (nm x))(hg:g<1000000000000)(hb:x.natAbs<1000000000000)(hbn:x.natAbs<n)(hn:101≤n)(hi:i≤100) :
  Dspec_l3NumGcd_0 n l b rec0 ((i:Int),false,dg g)=rec0 (((i+1:Nat):Int),false,dg (Nat.gcd g x.natAbs)):=by
 have hil:=(List.getElem?_eq_some_iff.1 hx).1
 have hk:Dspec_Gcd n ⟨false,dg g⟩ (nm x)=_:=gcdOk n false (decide (x<0)) g x.natAbs hg hb (by simp) (by intro h;have:=of_decide_eq_true h;omega) hbn hn
 rw[ngStep,dec_t (by omega),frk_t,lget_nat,hx,Option.bind_some,hk,Option.bind_some,w64_suc (by unfold big;omega)]
def g4 (a b c d:Int):Nat:=Nat.gcd (Nat.gcd (Nat.gcd a.natAbs b.natAbs) c.natAbs) d.natAbs
theorem ngOk(n:Nat)(a b c d:Int)(ha:a.natAbs<1000000000000)(hb:b.natAbs<1000000000000)(hc:c.natAbs<1000000000000)(hd:d.natAbs<1000000000000)
  (na:a.natAbs<n) (nb:b.natAbs<n) (nc:c.natAbs<n) (nd:d.natAbs<n) (hn:101≤n):Dspec_l3NumGcd n [nm a,nm b,nm c,nm d]=some ⟨false,dg (g4 a b c d)⟩:=by
 unfold Dspec_l3NumGcd
 rw[ofOk n 0 (by decide) (by omega),Option.bind_some]
 obtain⟨m,hm⟩:∃j,n=j+5:=⟨n-5,by omega⟩
 have key:loopN (Dspec_l3NumGcd_0 n [nm a,nm b,nm c,nm d] false) (m+5) (((0:Nat):Int),false,dg 0)=some ⟨false,dg (g4 a b c d)⟩:=by
  rw[loop_suc,ngOne n _ _ _ 0 0 (x:=a) rfl (by omega) ha na hn (by omega),Nat.gcd_zero_left]
  rw[loop_suc,ngOne n _ _ _ 1 _ (x:=b) rfl ha hb nb hn (by omega)]
  rw[loop_suc,ngOne n _ _ _ 2 _ (x:=c) rfl (gcd_lt ha hb) hc nc hn (by omega)]
  rw[loop_suc,ngOne n _ _ _ 3 _ (x:=d) rfl (gcd_lt (gcd_lt ha hb) hc) hd nd hn (by omega)]
  rw[loop_suc,ngStep,dec_f (by show ¬(((3+1:Nat):Int)<((4:Nat):Int));omega),frk_f]
  rfl
 rw[←hm] at key
 exact key
theorem smallStep(n:Nat)(l:List Int)(b0:Bool)(b1:List Int)(rec0:(Int×Int)→Option (Int×Bool))(t5 t6:Int) :
  Dspec_Small_1 n l b0 b1 rec0 (t5,t6)=frk (decide (t6≥0)) (frk (decide (t5>922337203685477)) (some (0,false)) ((lget l t6).bind fun v1=>rec0 (IntKind.u64.wrap ((IntKind.u64.wrap (t5*10000))+(IntKind.u64.wrap v1)),w64 (t6-1)))) (Dspec_Small_0 n t5 b0 b1):=rfl
theorem smallLoop(n:Nat)(b0:Bool)(b1:List Int){a:List Int}(ha:Dg a)(hl:a.length≤3):∀(i m:Nat),i≤a.length→i<m →
  loopN (Dspec_Small_1 n a b0 b1) m (vl (a.drop i),(i:Int)-1)=Dspec_Small_0 n (vl a) b0 b1:=by
 intro i
 induction i with
 | zero =>
  intro m _ hm
  obtain⟨m,rfl⟩:∃j,m=j+1:=⟨m-1,by omega⟩
  rw[loop_suc,smallStep,dec_f (by omega),frk_f];rfl
 | succ i ih =>
  intro m hi hm
  obtain⟨m,rfl⟩:∃j,m=j+1:=⟨m-1,by omega⟩
  obtain⟨x,hx⟩:∃d,a[i]?=some d:=⟨a[i],List.getElem?_eq_getElem (by omega)⟩
  have e:((i+1:Nat):Int)-1=(i:Int):=by omega
  have b1':=vl_small ha hl
  have b2:=vl_drop_le ha i
  have b3:=vl_nn (ha.drop i)
  have b4:=vl_nn (ha.drop (i+1))
  have b5:=ha.get hx
  have e2:=vl_drop_s hx
  rw[loop_suc,smallStep,e,dec_t (by omega),frk_t,dec_f (by omega),frk_f,lget_nat,hx,Option.bind_some]
  rw[u64w (x:=vl (a.drop (i+1))*10000) (by omega) (by omega),u64w (x:=x) (by omega) (by omega),show vl (a.drop (i+1))*10000+x=vl (a.drop i) by omega,u64w (x:=vl (a.drop i)) (by omega) (by omega),w64_id (x:=(i:Int)-1) (by omega) (by omega)]
  exact ih m (by omega) (by omega)
theorem smallOk(n:Nat)(g:Bool)(v:Nat)(hv:v<1000000000000)(hg:g=true→0<v)(hn:5≤n):Dspec_Small n ⟨g,dg v⟩=some (if g then -(v:Int) else (v:Int),true):=by
 have l1:=dg_len3 hv
 unfold Dspec_Small
 rw[magOk n g v hv hg hn,Option.bind_some,dec_f (by omega),frk_f,w64_id (by omega) (by omega)]
 have e1:=smallLoop n g (dg v) (Dg_dg v) l1 (dg v).length n (Nat.le_refl _) (by omega)
 rw[List.drop_length] at e1
 have e1':loopN (Dspec_Small_1 n (dg v) g (dg v)) n ((0:Int),((dg v).length:Int)-1)=_:=e1
 rw[e1',vl_dg]
 unfold Dspec_Small_0
 rw[signOk n g v hv hg hn,Option.bind_some]
 cases g with
 | true =>
  have:=hg rfl
  rw[frk_t,dec_f (by omega),frk_f,u64w (by omega) (by omega),w64_id (x:=(v:Int)-1) (by omega) (by omega),w64_id (x:=0-((v:Int)-1)) (by omega) (by omega),w64_id (by omega) (by omega)]
  simp only[if_true];congr 2;omega
 | false =>
  rw[frk_f,dec_f (by omega),frk_f,w64_id (by omega) (by omega)];rfl
def pq (x:Int)(g:Nat):Int:=if x<0 then -((x.natAbs / g:Nat):Int) else ((x.natAbs / g:Nat):Int)
theorem compStep{β:Type}(n:Nat)(x:Int)(g:Nat)(hx:x.natAbs<1000000000000)(hg0:0<g)(hg:g<1000000000000)(hn:101≤n)(K:Int×Bool→Option β) :
  ((Dspec_l1DivMag n (dg x.natAbs) (dg g)).bind fun v5=>(Dspec_l1Num n (decide (x<0)) v5.1).bind fun v6=>(Dspec_Small n v6).bind K)=K (pq x g,true):=by
 obtain⟨q,q1,q2,q3,q4⟩:=divOk n x.natAbs g hx hg0 hg hn
 have hle:x.natAbs / g≤x.natAbs:=Nat.div_le_self _ _
 have h00:(0:Int)≤((x.natAbs / g:Nat):Int):=Int.natCast_nonneg _
 rw[q1,Option.bind_some,numOk n _ q q2 (by omega) q3 (by omega),Option.bind_some,smallOk n _ _ (by omega) (by simp) (by omega),Option.bind_some]
 congr 2
 unfold pq
 by_cases h:x<0
 ·by_cases h2:0<x.natAbs / g
  ·rw[dec_t h,dec_t h2,if_pos h];rfl
  ·rw[dec_t h,dec_f h2,if_pos h];simp only[Bool.and_false,Bool.false_eq_true,if_false];omega
 ·rw[dec_f h,if_neg h];rfl
def prim (a b c d:Int):Pl×Int :=
 if a=0∧b=0∧c=0 then (⟨0,0,0,0⟩,1)
 else if rIn (pq a (g4 a b c d)) (-500) 500&&(rIn (pq b (g4 a b c d)) (-500) 500&&(rIn (pq c (g4 a b c d)) (-500) 500&&rIn (pq d (g4 a b c d)) (-500) 500)) then (⟨pq a (g4 a b c d),pq b (g4 a b c d),pq c (g4 a b c d),pq d (g4 a b c d)⟩,0)
 else (⟨0,0,0,0⟩,2)
theorem g4_pos{a b c d:Int}(h:¬(a=0∧b=0∧c=0)):0<g4 a b c d:=by
 unfold g4
 apply Nat.pos_of_ne_zero
 intro h0
 have h1:=(Nat.gcd_eq_zero_iff.1 h0).1
 have h2:=Nat.gcd_eq_zero_iff.1 h1
 have h3:=Nat.gcd_eq_zero_iff.1 h2.1
 omega
theorem prim_body(n:Nat)(a b c d:Int)(ha:a.natAbs<1000000000000)(hb:b.natAbs<1000000000000)(hc:c.natAbs<1000000000000)(hd:d.natAbs<1000000000000)
  (na:a.natAbs<n) (nb:b.natAbs<n) (nc:c.natAbs<n) (nd:d.natAbs<n) (hn:101≤n) (h0:¬(a=0∧b=0∧c=0)):Dspec_Primitive_5 n a b c d 0 0 0 0=some (prim a b c d):=by
 have hp:=g4_pos (d:=d) h0
 have hg:g4 a b c d<1000000000000:=gcd_lt (gcd_lt (gcd_lt ha hb) hc) hd
 unfold prim
 rw[if_neg h0]
 unfold Dspec_Primitive_5
 have ea:Dspec_Of n a=some (nm a):=ofOk n a ha (by omega)
 have eb:Dspec_Of n b=some (nm b):=ofOk n b hb (by omega)
 have ec:Dspec_Of n c=some (nm c):=ofOk n c hc (by omega)
 have ed:Dspec_Of n d=some (nm d):=ofOk n d hd (by omega)
 rw[ea,Option.bind_some,eb,Option.bind_some,ec,Option.bind_some,ed,Option.bind_some,ngOk n a b c d ha hb hc hd na nb nc nd hn,Option.bind_some]
 refine(compStep n a (g4 a b c d) ha hp hg hn _).trans ?_
 rw[show (!(pq a (g4 a b c d),true).2)=false from rfl,frk_f,sIn,Option.bind_some]
 unfold Dspec_Primitive_1
 cases hA:rIn (pq a (g4 a b c d)) (-500) 500
 ·rfl
 rw[show (!true)=false from rfl,frk_f,chk_eq (apB8 (by simp)),show lget [nm a,nm b,nm c,nm d] 1=some (nm b) from rfl,Option.bind_some]
 refine(compStep n b (g4 a b c d) hb hp hg hn _).trans ?_
 rw[show (!(pq b (g4 a b c d),true).2)=false from rfl,frk_f,sIn,Option.bind_some]
 unfold Dspec_Primitive_2
 cases hB:rIn (pq b (g4 a b c d)) (-500) 500
 ·rfl
 rw[show (!true)=false from rfl,frk_f,chk_eq (apB8 (by simp)),show lget [nm a,nm b,nm c,nm d] 2=some (nm c) from rfl,Option.bind_some]
 refine(compStep n c (g4 a b c d) hc hp hg hn _).trans ?_
 rw[show (!(pq c (g4 a b c d),true).2)=false from rfl,frk_f,sIn,Option.bind_some]
 unfold Dspec_Primitive_3
 cases hC:rIn (pq c (g4 a b c d)) (-500) 500
 ·rfl
 rw[show (!true)=false from rfl,frk_f,chk_eq (apB8 (by simp)),show lget [nm a,nm b,nm c,nm d] 3=some (nm d) from rfl,Option.bind_some]
 refine(compStep n d (g4 a b c d) hd hp hg hn _).trans ?_
 rw[show (!(pq d (g4 a b c d),true).2)=false from rfl,frk_f,sIn,Option.bind_some]
 unfold Dspec_Primitive_4
 cases hE:rIn (pq d (g4 a b c d)) (-500) 500
 ·rfl
 rw[show (!true)=false from rfl,frk_f,chk_eq (apB8 (by simp))]
 rfl
theorem primOk(n:Nat)(a b c d:Int)(ha:a.natAbs<1000000000000)(hb:b.natAbs<1000000000000)(hc:c.natAbs<1000000000000)(hd:d.natAbs<1000000000000)
  (na:a.natAbs<n) (nb:b.natAbs<n) (nc:c.natAbs<n) (nd:d.natAbs<n) (hn:101≤n):Dspec_Primitive n a b c d=some (prim a b c d):=by
 unfold Dspec_Primitive
 by_cases h1:a=0
 ·by_cases h2:b=0
  ·by_cases h3:c=0
   ·subst h1;subst h2;subst h3;rfl
   ·have e:=prim_body n a b c d ha hb hc hd na nb nc nd hn (by omega)
    rw[show (a==0)=true by simpa using h1,frk_t,show (b==0)=true by simpa using h2,frk_t]
    rw[show (c==0)=false by simpa using h3]
    exact e
  ·have e:=prim_body n a b c d ha hb hc hd na nb nc nd hn (by omega)
   rw[show (a==0)=true by simpa using h1,frk_t,show (b==0)=false by simpa using h2,frk_f]
   exact e
 ·have e:=prim_body n a b c d ha hb hc hd na nb nc nd hn (by omega)
  rw[show (a==0)=false by simpa using h1,frk_f]
  exact e
end Evl.T
namespace Evl.T
open Go Evl
theorem wth_iff(l:List Pl)(p:Pl):wth l p=true↔∃i,i<l.length∧(cl2 (gt l i) p=true∨∃j,i<j∧j<l.length∧(cl3 (gt l i) (gt l j) p=true∨∃k,j<k∧k<l.length∧cl4 (gt l i) (gt l j) (gt l k) p=true)):=by
 unfold wth sAny3 sAny4
 simp only[List.any_eq_true,List.mem_range'_1,Bool.or_eq_true]
 constructor
 ·rintro⟨i,hi,h | ⟨j,hj,h | ⟨k,hk,h⟩⟩⟩
  ·exact⟨i,by omega,.inl h⟩
  ·exact⟨i,by omega,.inr ⟨j,by omega,by omega,.inl h⟩⟩
  ·exact⟨i,by omega,.inr ⟨j,by omega,by omega,.inr ⟨k,by omega,by omega,h⟩⟩⟩
 ·rintro⟨i,hi,h | ⟨j,hj,hj2,h | ⟨k,hk,hk2,h⟩⟩⟩
  ·exact⟨i,by omega,.inl h⟩
  ·exact⟨i,by omega,.inr ⟨j,by omega,.inl h⟩⟩
  ·exact⟨i,by omega,.inr ⟨j,by omega,.inr ⟨k,by omega,h⟩⟩⟩
theorem Rt.lens{s:Sol}{path:List Pl}(h:Rt s path):Lens s:=by
 induction h with
 | leaf hz=>exact .mk (by simp[big]) (by simp)
 | node _ _ _ _ _ _ iha ihb =>
  refine .mk (by simp[big]) fun x hx=>?_
  simp only[List.mem_cons,List.not_mem_nil,or_false] at hx
  rcases hx with rfl | rfl
  ·exact iha
  ·exact ihb
end Evl.T
namespace Evl.T
open Go Evl
def plEq (p q:Pl):Bool:=p.A==q.A&&(p.B==q.B&&(p.C==q.C&&(p.D==q.D&&true)))
theorem plEq_iff(p q:Pl):plEq p q=true↔p=q:=by
 cases p;cases q;simp[plEq]
theorem plEq_no{p q:Pl}(h:p≠q):plEq p q=false:=by
 rw[←Bool.not_eq_true,plEq_iff];exact h
theorem iSameStep(n:Nat)(self:Sol×Sol→Option Bool)(i j:Bool)(p q:Pl)(k l:List Sol):Dimpl_SameTree_b n self (.mk i p k,.mk j q l) =
  frk (i==j) (frk (plEq p q) ((frk ((k.length:Int) != (l.length:Int)) (some false) (loopN (Dslices_EqualFuncfimpl_SameTree_in_0 n self l k (k.length:Int)) n 0)).bind fun v0=>some v0) (some false)) (some false):=rfl
open Classical in
theorem kidsLoop(self:Sol×Sol→Option Bool)(F:(Int→Option Bool)→Int→Option Bool)(k l:List Sol)(hl:k.length≤big)(hkl:k.length=l.length)(hs:∀x∈k,∀y,self (x,y)=some (decide (x=y)))
  (hF:∀rec (t:Int),F rec t=frk (decide (t<(k.length:Int))) ((lget k t).bind fun v0=>(lget l t).bind fun v1=>(self (v0,v1)).bind fun v2=>frk (!v2) (some false) (rec (w64 (t+1)))) (some true)) (n:Nat) (hn:k.length<n) :
  loopN F n 0=some (decide (k=l)):=by
 have:=search (F:=F) (len:=k.length) (b:=fun t=>decide (k[t]?≠l[t]?)) (hit:=some false) (miss:=some true) hl ?_ ?_ k.length 0 n (by omega) hn
 ·rw[show (0:Int)=((0:Nat):Int) from rfl,this]
  by_cases h:k=l
  ·subst h
   have:(List.range' 0 k.length).any (fun t=>decide (k[t]?≠k[t]?))=false:=by simp
   rw[this];simp
  ·have:(List.range' 0 k.length).any (fun t=>decide (k[t]?≠l[t]?))=true:=by
    rw[List.any_eq_true]
    apply Classical.byContradiction
    intro hno
    apply h
    apply List.ext_getElem?
    intro t
    rcases Nat.lt_or_ge t k.length with ht | ht
    ·apply Classical.byContradiction
     intro hne
     exact hno ⟨t,by simp;omega,by simpa using hne⟩
    ·rw[List.getElem?_eq_none ht,List.getElem?_eq_none (by omega)]
   rw[this];simp[h]
 ·intro rec t ht
  obtain⟨x,hx⟩:∃x,k[t]?=some x:=⟨k[t],List.getElem?_eq_getElem ht⟩
  obtain⟨y,hy⟩:∃y,l[t]?=some y:=⟨l[t]'(by omega),List.getElem?_eq_getElem (by omega)⟩
  rw[hF,lt_dec ht,frk_t,lget_nat,lget_nat,hx,hy,Option.bind_some,Option.bind_some,hs x (List.mem_of_getElem? hx) y,Option.bind_some]
  by_cases h:x=y
  ·subst h;simp[frk_f]
  ·simp[h,frk_t]
 ·intro rec
  rw[hF,lt_self,frk_f]
open Classical in
theorem iSame:∀a,Lens a→E2 fun n m=>∀b,loopN (Dimpl_SameTree_b n) m (a,b)=some (decide (a=b)):=by
 refine sol_ind fun i p k ih hl=>?_
 cases hl with
 | mk hk hx =>
  have h1:=E2.all fun x hxm=>ih x hxm (hx x hxm)
  have h2:E2 fun n _=>k.length<n:=⟨k.length+1,fun n hn _ _=>by omega⟩
  refine E2.suc ((h1.and h2).mono fun n m ⟨h1,h2⟩ b=>?_)
  obtain⟨j,q,l⟩:=b
  rw[loop_suc,iSameStep]
  by_cases e1:i=j
  ·subst e1
   rw[beq_self_eq_true,frk_t]
   by_cases e2:p=q
   ·subst e2
    rw[(plEq_iff p p).2 rfl,frk_t]
    by_cases e3:k.length=l.length
    ·rw[show ((k.length:Int) != (l.length:Int))=false by simp[e3],frk_f,kidsLoop _ (Dslices_EqualFuncfimpl_SameTree_in_0 n (loopN (Dimpl_SameTree_b n) m) l k (k.length:Int)) k l hk e3 h1 (fun _ _=>rfl) n h2]
     simp
    ·rw[show ((k.length:Int) != (l.length:Int))=true by simp;omega,frk_t]
     have:k≠l:=fun e=>e3 (by rw[e])
     simp[this]
   ·rw[plEq_no e2,frk_f];simp[e2]
  ·rw[show (i==j)=false by simp[e1],frk_f];simp[e1]
end Evl.T
namespace Evl.T
open Go Evl
theorem sub_get{x:Pl}{r:List Pl}:∀{l:List Pl},(x::r).Sublist l→∃j,j<l.length∧gt l j=x∧r.Sublist (l.drop (j+1)):=by
 intro l
 induction l with
 | nil=>intro h;cases h
 | cons y l ih =>
  intro h
  cases h with
  | cons _ h =>
   obtain⟨j,h1,h2,h3⟩:=ih h
   exact⟨j+1,by simp only[List.length_cons];omega,h2,h3⟩
  | cons_cons _ h=>exact⟨0,by simp,rfl,h⟩
theorem gt_drop(l:List Pl)(i j:Nat):gt (l.drop i) j=gt l (i+j):=by unfold gt;rw[List.getElem?_drop]
theorem get_sub{l:List Pl}{i:Nat}{r:List Pl}(h:i<l.length)(hr:r.Sublist (l.drop (i+1))):(gt l i::r).Sublist (l.drop i):=by
 rw[List.drop_eq_getElem_cons h,show gt l i=l[i] by unfold gt;rw[List.getElem?_eq_getElem h];rfl]
 exact hr.cons_cons _
theorem drop_up{l r:List Pl}{i j:Nat}(h:i≤j)(hr:r.Sublist (l.drop j)):r.Sublist (l.drop i):=by
 have e:l.drop j=(l.drop i).drop (j-i):=by rw[List.drop_drop];congr 1;omega
 rw[e] at hr
 exact hr.trans (List.drop_sublist _ _)
theorem drop_any{l r:List Pl}{j:Nat}(hr:r.Sublist (l.drop j)):r.Sublist l:=drop_up (Nat.zero_le j) hr
theorem wth_sub(l:List Pl)(p:Pl):wth l p=true↔(∃q,[q].Sublist l∧cl2 q p=true)∨(∃q r,[q,r].Sublist l∧cl3 q r p=true)∨(∃q r s,[q,r,s].Sublist l∧cl4 q r s p=true):=by
 rw[wth_iff]
 constructor
 ·rintro⟨i,hi,h | ⟨j,hj,hj2,h | ⟨k,hk,hk2,h⟩⟩⟩
  ·exact .inl ⟨_,drop_any (get_sub hi (List.nil_sublist _)),h⟩
  ·exact .inr (.inl ⟨_,_,drop_any (get_sub hi (drop_up (j:=j) hj (get_sub hj2 (List.nil_sublist _)))),h⟩)
  ·exact .inr (.inr ⟨_,_,_,drop_any (get_sub hi (drop_up (j:=j) hj (get_sub hj2 (drop_up (j:=k) hk (get_sub hk2 (List.nil_sublist _)))))),h⟩)
 ·rintro(⟨q,h1,h⟩ | ⟨q,r,h1,h⟩ | ⟨q,r,s,h1,h⟩)
  ·obtain⟨i,hi,rfl,_⟩:=sub_get h1
   exact⟨i,hi,.inl h⟩
  ·obtain⟨i,hi,rfl,h2⟩:=sub_get h1
   obtain⟨j,hj,rfl,_⟩:=sub_get h2
   rw[gt_drop] at h;rw[List.length_drop] at hj
   exact⟨i,hi,.inr ⟨i+1+j,by omega,by omega,.inl h⟩⟩
  ·obtain⟨i,hi,rfl,h2⟩:=sub_get h1
   obtain⟨j,hj,rfl,h3⟩:=sub_get h2
   obtain⟨k,hk,rfl,_⟩:=sub_get h3
   rw[gt_drop,gt_drop,gt_drop] at h;rw[List.length_drop] at hj hk;rw[List.length_drop] at hk
   exact⟨i,hi,.inr ⟨i+1+j,by omega,by omega,.inr ⟨i+1+(j+1+k),by omega,by omega,h⟩⟩⟩
inductive Opn:List Pl→Prop
 | nil:Opn []
 | snoc {l p}:Opn l→wth l p=false→Opn (l++[p])
theorem sub_snoc{r l:List Pl}{p q:Pl}(h:(r++[p]).Sublist (l++[q])):(r++[p]).Sublist l∨(p=q∧r.Sublist l):=by
 have h:=h.reverse
 rw[List.reverse_append,List.reverse_append] at h
 simp only[List.reverse_singleton,List.singleton_append] at h
 cases h with
 | cons _ h=>left;have:=h.reverse;simpa using this
 | cons_cons _ h=>right;exact⟨rfl,by have:=h.reverse;simpa using this⟩
theorem Opn.last{l:List Pl}(h:Opn l){r:List Pl}{p:Pl}(hs:(r++[p]).Sublist l):∃l',r.Sublist l'∧wth l' p=false:=by
 induction h with
 | nil=>have:=hs.length_le;simp at this
 | @snoc l q _ hw ih =>
  rcases sub_snoc hs with h | ⟨rfl,h⟩
  ·exact ih h
  ·exact⟨l,h,hw⟩
end Evl.T
namespace Evl.T
open Go Evl
end Evl.T
namespace Evl.T
open Go Evl
end Evl.T
namespace Evl.T
open Go Evl
theorem sLeaf(b:Bool):Dspec_Leaf b=some (lfS b):=rfl
end Evl.T
namespace Evl.T
open Go Evl
abbrev Cur:=List Int×Int×Int
def CurOk(c:Cur):Prop:=0≤c.2.1∧c.2.1≤c.1.length∧c.1.length≤1048576
theorem and255(a:Int):0≤bAnd .i64 a 255∧bAnd .i64 a 255≤255:=by
 unfold bAnd
 have h1:(BitVec.ofInt 64 a &&& BitVec.ofInt 64 255).toNat≤255:=by
  rw[BitVec.toNat_and]
  have e:(BitVec.ofInt 64 255).toNat=255:=by decide
  rw[e];exact Nat.and_le_right
 have h2:IntKind.i64.wrap (((BitVec.ofInt 64 a &&& BitVec.ofInt 64 255).toNat:Nat):Int)=(((BitVec.ofInt 64 a &&& BitVec.ofInt 64 255).toNat:Nat):Int):=w64_id (by omega) (by omega)
 show 0≤IntKind.i64.wrap (((BitVec.ofInt 64 a &&& BitVec.ofInt 64 255).toNat:Nat):Int)∧IntKind.i64.wrap (((BitVec.ofInt 64 a &&& BitVec.ofInt 64 255).toNat:Nat):Int)≤255
 rw[h2];omega
theorem byteOk{c:Cur}(h:CurOk c):∃v c',Dspec_l1Byte c=some (v,c')∧(0≤v∧v≤255)∧CurOk c':=by
 obtain⟨l,i,s⟩:=c
 obtain⟨h1,h2,h3⟩:=h
 simp only at h1 h2 h3
 unfold Dspec_l1Byte
 by_cases hi:i<(l.length:Int)
 ·rw[dec_t hi,frk_t]
  obtain⟨k,rfl⟩:∃k:Nat,i=k:=⟨i.toNat,by omega⟩
  have hg:lget l (k:Int)=some l[k]!:=by
   rw[lget_nat,List.getElem?_eq_getElem (by omega)]
   simp[List.getElem!_eq_getElem?_getD,List.getElem?_eq_getElem (show k<l.length by omega)]
  rw[hg,Option.bind_some,w64_suc (by unfold big;omega)]
  exact⟨_,_,rfl,and255 _,by simp only;omega,by simp only;omega,h3⟩
 ·rw[dec_f hi,frk_f]
  exact⟨_,_,rfl,and255 _,h1,h2,h3⟩
theorem belowOk{c:Cur}(h:CurOk c){a:Int}(h1:1≤a)(h2:a≤256):∃v c',Dspec_l1Below c a=some (v,c')∧(0≤v∧v<a)∧CurOk c':=by
 unfold Dspec_l1Below
 rw[dec_f (by omega),frk_f,dec_t h2,frk_t]
 obtain⟨v,c',e,hv,hc⟩:=byteOk h
 rw[e,Option.bind_some]
 unfold rm
 rw[if_neg (by omega),Option.bind_some]
 exact⟨_,_,rfl,⟨by simp only;rw[Int.tmod_eq_emod_of_nonneg hv.1];exact Int.emod_nonneg _ (by omega),by simp only;rw[Int.tmod_eq_emod_of_nonneg hv.1];exact Int.emod_lt_of_pos _ (by omega)⟩,hc⟩
theorem onceOk{c:Cur}(h:CurOk c){a:Int}(h1:1≤a)(h2:a≤256):∃v c',Dspec_l1Once c a=some (v,c')∧CurOk c':=by
 obtain⟨v,c',e,-,hc⟩:=belowOk h h1 h2
 unfold Dspec_l1Once
 rw[e,Option.bind_some]
 exact⟨_,_,rfl,hc⟩
theorem intOk{c:Cur}(h:CurOk c){l:List Int}(h1:1≤l.length)(h2:l.length≤256):∃v c',Dspec_l1Int c l=some (v,c')∧v∈l∧CurOk c':=by
 obtain⟨v,c',e,hv,hc⟩:=belowOk h (a:=(l.length:Int)) (by omega) (by omega)
 unfold Dspec_l1Int
 rw[e,Option.bind_some]
 obtain⟨k,rfl⟩:∃k:Nat,v=k:=⟨v.toNat,by omega⟩
 have hg:=List.getElem?_eq_getElem (show k<l.length by omega)
 rw[show lget l (k:Int)=some l[k] by rw[lget_nat,hg],Option.bind_some]
 exact⟨_,_,rfl,List.getElem_mem _,hc⟩
theorem coefOk{c:Cur}(h:CurOk c):∃v c',Dspec_l3Coef c=some (v,c')∧(-5≤v∧v≤5)∧CurOk c':=by
 obtain⟨v,c1,e,hv,hc⟩:=belowOk h (a:=11) (by omega) (by omega)
 unfold Dspec_l3Coef
 rw[e,Option.bind_some]
 obtain⟨w,c2,e2,hw,hc2⟩:=intOk hc (l:=[0,0,1,(-1),2,(-3),w64 (v-5)]) (by simp) (by simp)
 have e5:w64 (v-5)=v-5:=w64_id (by omega) (by omega)
 simp only[e2,Option.bind_some]
 refine⟨_,_,rfl,?_,hc2⟩
 rw[e5] at hw
 simp only[List.mem_cons,List.not_mem_nil,or_false] at hw
 omega
theorem pq_abs(x:Int)(g:Nat):(pq x g).natAbs=x.natAbs / g:=by
 unfold pq
 split
 ·rw[Int.natAbs_neg,Int.natAbs_natCast]
 ·rw[Int.natAbs_natCast]
theorem prim_right{a b c d:Int}(h:(prim a b c d).2=0):pOk (prim a b c d).1=true:=by
 unfold prim at h ⊢
 by_cases h0:a=0∧b=0∧c=0
 ·rw[if_pos h0] at h;cases h
 ·rw[if_neg h0] at h ⊢
  split at h
  ·rename_i hr
   rw[if_pos hr]
   simp only[Bool.and_eq_true] at hr
   have hp:=g4_pos (d:=d) h0
   have hgd:g4 a b c d ∣ Nat.gcd (Nat.gcd a.natAbs b.natAbs) c.natAbs:=Nat.gcd_dvd_left _ _
   have hdd:g4 a b c d ∣ d.natAbs:=Nat.gcd_dvd_right _ _
   have hcd:=Nat.dvd_trans hgd (Nat.gcd_dvd_right _ _)
   have hab:=Nat.dvd_trans hgd (Nat.gcd_dvd_left _ _)
   have had:=Nat.dvd_trans hab (Nat.gcd_dvd_left _ _)
   have hbd:=Nat.dvd_trans hab (Nat.gcd_dvd_right _ _)
   have nz:∀{x:Int},x≠0→g4 a b c d ∣ x.natAbs→pq x (g4 a b c d)≠0:=fun {x} hx hd e=>by
    have:=pq_abs x (g4 a b c d)
    rw[e] at this
    have h1:0<x.natAbs / g4 a b c d:=Nat.div_pos (Nat.le_of_dvd (by omega) hd) hp
    simp at this;omega
   have e1:decide (pq a (g4 a b c d)≠0∨pq b (g4 a b c d)≠0∨pq c (g4 a b c d)≠0)=true:=by
    apply decide_eq_true
    by_cases ha:a=0
    ·by_cases hb:b=0
     ·exact .inr (.inr (nz (fun e=>h0 ⟨ha,hb,e⟩) hcd))
     ·exact .inr (.inl (nz hb hbd))
    ·exact .inl (nz ha had)
   have e2:decide (Nat.gcd (Nat.gcd (pq a (g4 a b c d)).natAbs (pq b (g4 a b c d)).natAbs) (Nat.gcd (pq c (g4 a b c d)).natAbs (pq d (g4 a b c d)).natAbs)=1)=true:=by
    apply decide_eq_true
    rw[pq_abs,pq_abs,pq_abs,pq_abs]
    rw[Nat.gcd_div had hbd,Nat.gcd_div hcd hdd]
    have q1:g4 a b c d ∣ Nat.gcd a.natAbs b.natAbs:=Nat.dvd_gcd had hbd
    have q2:g4 a b c d ∣ Nat.gcd c.natAbs d.natAbs:=Nat.dvd_gcd hcd hdd
    rw[Nat.gcd_div q1 q2]
    have q3:Nat.gcd (Nat.gcd a.natAbs b.natAbs) (Nat.gcd c.natAbs d.natAbs)=g4 a b c d:=by unfold g4;rw[Nat.gcd_assoc (Nat.gcd a.natAbs b.natAbs)]
    rw[q3];exact Nat.div_self hp
   unfold pOk
   rw[hr.1,hr.2.1,hr.2.2.1,hr.2.2.2,e1,e2];rfl
  ·cases h
theorem drawP{a b c:Int}(ha:-5≤a∧a≤5)(hb:-5≤b∧b≤5)(hc:-5≤c∧c≤5){k:Cur}(h:CurOk k) :
  ∃p k',(∀n,1000≤n→Dspec_l3Draw_0 n a b c 0 0 0 0 k.1 k.2.1 k.2.2=some (p,k'))∧pOk p=true∧CurOk k':=by
 obtain⟨v,c1,e,hv,h1⟩:=belowOk (c:=(k.1,k.2.1,k.2.2)) h (a:=25) (by omega) (by omega)
 obtain⟨w,c2,e2,hw,h2⟩:=intOk h1 (l:=[0,1,(-1),2,(-4),w64 (v-12),500,(-500)]) (by simp) (by simp)
 have e5:w64 (v-12)=v-12:=w64_id (by omega) (by omega)
 have hw0:=hw
 rw[e5] at hw
 simp only[List.mem_cons,List.not_mem_nil,or_false] at hw
 have hw':-500≤w∧w≤500:=by omega
 have step:∀n,1000≤n→Dspec_l3Draw_0 n a b c 0 0 0 0 k.1 k.2.1 k.2.2=frk ((prim a b c w).2 != 0) (some ((Pl.mk 0 0 1 (-1)),c2)) (some ((prim a b c w).1,c2)):=by
  intro n hn
  unfold Dspec_l3Draw_0
  rw[e,Option.bind_some]
  simp only[e2,Option.bind_some]
  rw[primOk n a b c w (by omega) (by omega) (by omega) (by omega) (by omega) (by omega) (by omega) (by omega) (by omega),Option.bind_some]
 by_cases hz:(prim a b c w).2=0
 ·refine⟨_,_,fun n hn=>?_,prim_right hz,h2⟩
  rw[step n hn,show ((prim a b c w).2 != 0)=false by simpa using hz,frk_f]
 ·refine⟨⟨0,0,1,-1⟩,_,fun n hn=>?_,by decide,h2⟩
  rw[step n hn,show ((prim a b c w).2 != 0)=true by simpa using hz,frk_t]
theorem drawOk{k:Cur}(h:CurOk k):∃p k',(∀n,1000≤n→Dspec_l3Draw n k=some (p,k'))∧pOk p=true∧CurOk k':=by
 obtain⟨a,k1,e1,ha,h1⟩:=coefOk h
 obtain⟨b,k2,e2,hb,h2⟩:=coefOk h1
 obtain⟨c,k3,e3,hc,h3⟩:=coefOk h2
 obtain⟨o,k4,e4,h4⟩:=onceOk h3 (a:=2) (by omega) (by omega)
 have fin:∀{x y z:Int} {k5:Cur},(-5≤x∧x≤5)→(-5≤y∧y≤5)→(-5≤z∧z≤5)→CurOk k5→(∀n,Dspec_l3Draw n k=Dspec_l3Draw_0 n x y z 0 0 0 0 k5.1 k5.2.1 k5.2.2)→∃p k',(∀n,1000≤n→Dspec_l3Draw n k=some (p,k'))∧pOk p=true∧CurOk k':=by
  intro x y z k5 hx hy hz h5 he
  obtain⟨p,k',g1,g2,g3⟩:=drawP hx hy hz h5
  exact⟨p,k',fun n hn=>(he n).trans (g1 n hn),g2,g3⟩
 cases o with
 | false =>
  refine fin ha hb hc h4 fun n=>?_
  unfold Dspec_l3Draw
  simp only[e1,e2,e3,e4,Option.bind_some,frk_f]
 | true =>
  obtain⟨s,k5,e5,hs,h5⟩:=intOk h4 (l:=[1,(-1)]) (by simp) (by simp)
  have hs':-5≤s∧s≤5:=by simp only[List.mem_cons,List.not_mem_nil,or_false] at hs;omega
  obtain⟨o2,k6,e6,h6⟩:=onceOk h5 (a:=2) (by omega) (by omega)
  cases o2 with
  | true =>
   refine fin (x:=0) (z:=0) (by omega) hs' (by omega) h6 fun n=>?_
   unfold Dspec_l3Draw
   simp only[e1,e2,e3,e4,e5,e6,Option.bind_some,frk_t]
  | false =>
   obtain⟨o3,k7,e7,h7⟩:=onceOk h6 (a:=2) (by omega) (by omega)
   cases o3 with
   | true =>
    refine fin (x:=0) (y:=0) (by omega) (by omega) hs' h7 fun n=>?_
    unfold Dspec_l3Draw
    simp only[e1,e2,e3,e4,e5,e6,e7,Option.bind_some,frk_t,frk_f]
   | false =>
    refine fin (y:=0) (z:=0) hs' (by omega) (by omega) h7 fun n=>?_
    unfold Dspec_l3Draw
    simp only[e1,e2,e3,e4,e5,e6,e7,Option.bind_some,frk_t,frk_f]
end Evl.T
namespace Evl.T
open Go Evl
inductive Dp:Sol→Nat→Prop
 | leaf {i p d}:Dp (.mk i p []) d
 | node {i p a b d}:Dp a d→Dp b d→Dp (.mk i p [a,b]) (d+1)
theorem Dp.up{s:Sol}{d:Nat}(h:Dp s d):∀{k},d≤k→Dp s k:=by
 induction h with
 | leaf=>intro k _;exact .leaf
 | @node i p a b d _ _ iha ihb =>
  intro k hk
  obtain⟨k,rfl⟩:∃j,k=j+1:=⟨k-1,by omega⟩
  exact .node (iha (by omega)) (ihb (by omega))
end Evl.T
namespace Evl.T
open Go Evl
theorem newStep(n:Nat)(l:List Int)(rec0:(Int×Int)→Option Cur)(a b:Int):Dspec_l1New_1 n l rec0 (a,b)=frk (decide (b<(l.length:Int))) (Dspec_l1New_0 n rec0 l a b (decide (b<4000))) (some (l,0,a)):=rfl
theorem newLoop(l:List Int)(hl:l.length≤1048576):∀(k i:Nat) (a:Int),i+k=l.length→∃c,(∀n m,k<m→loopN (Dspec_l1New_1 n l) m (a,(i:Int))=some c)∧CurOk c:=by
 intro k
 induction k with
 | zero =>
  intro i a h
  refine⟨(l,0,a),fun n m hm=>?_,by show 0≤(0:Int);omega,by show (0:Int)≤(l.length:Int);omega,hl⟩
  obtain⟨m,rfl⟩:∃j,m=j+1:=⟨m-1,by omega⟩
  rw[loop_suc,newStep,dec_f (by omega),frk_f]
 | succ k ih =>
  intro i a h
  by_cases h4:(i:Int)<4000
  ·have hg:=List.getElem?_eq_getElem (show i<l.length by omega)
   obtain⟨c,g1,g2⟩:=ih (i+1) (bAnd .i64 (w64 ((w64 ((w64 (a*137))+(w64 l[i])))+11)) 1073741823) (by omega)
   refine⟨c,fun n m hm=>?_,g2⟩
   obtain⟨m,rfl⟩:∃j,m=j+1:=⟨m-1,by omega⟩
   rw[loop_suc,newStep,dec_t (by omega),frk_t]
   unfold Dspec_l1New_0
   rw[dec_t h4,frk_t,lget_nat,hg,Option.bind_some,w64_suc (by unfold big;omega)]
   exact g1 n m (by omega)
  ·refine⟨(l,0,a),fun n m hm=>?_,by show 0≤(0:Int);omega,by show (0:Int)≤(l.length:Int);omega,hl⟩
   obtain⟨m,rfl⟩:∃j,m=j+1:=⟨m-1,by omega⟩
   rw[loop_suc,newStep,dec_t (by omega),frk_t]
   unfold Dspec_l1New_0
   rw[dec_f h4,frk_f]
theorem newOk{l:List Int}(hl:l.length≤1048576):∃c,(∀n,l.length<n→Dspec_l1New n l=some c)∧CurOk c:=by
 obtain⟨c,g1,g2⟩:=newLoop l hl l.length 0 (w64 (142142+(l.length:Int))) (by omega)
 exact⟨c,fun n hn=>g1 n n hn,g2⟩
end Evl.T
namespace Evl.T
open Go Evl
theorem any_gt(l:List Pl)(f:Pl→Bool):((List.range' 0 l.length).any fun i=>f (gt l i))=l.any f:=by
 rw[Bool.eq_iff_iff,List.any_eq_true,List.any_eq_true]
 constructor
 ·rintro⟨i,hi,h⟩
  have:i<l.length:=by simpa using hi
  exact⟨_,gt_mem this,h⟩
 ·rintro⟨x,hx,h⟩
  obtain⟨i,hi,e⟩:=List.getElem_of_mem hx
  refine⟨i,by simpa using hi,?_⟩
  have:=gt_some hi
  rw[List.getElem?_eq_getElem hi] at this
  rw[←Option.some.inj this,e];exact h
theorem all_any(l:List Pl)(f:Pl→Bool):l.all f=!l.any fun x=>!f x:=by
 induction l with
 | nil=>rfl
 | cons x l ih=>simp only[List.all_cons,List.any_cons,ih,Bool.not_or,Bool.not_not]
theorem all_mem{l:List Pl}(h:l.all pOk=true):∀q∈l,pOk q=true:=List.all_eq_true.1 h
theorem sRightL(l:List Pl)(hb:l.length≤big):Ev fun n=>Dspec_l6Right n l=some (l.all pOk&&decide ((l.length:Int)≤24)):=by
 refine(e_ge (l.length+502)).mono fun n hn=>?_
 have h:=search (F:=Dspec_l6Right_0 n l) (len:=l.length) (b:=fun i=>!pOk (gt l i)) (hit:=some false) (miss:=some (decide ((l.length:Int)≤24))) hb ?_ ?_ l.length 0 n (by omega) (by omega)
 ·show loopN _ _ _=_
  rw[show (0:Int)=((0:Nat):Int) from rfl,h,any_gt l fun x=>!pOk x,all_any]
  cases l.any fun x=>!pOk x <;> rfl
 ·intro rec i hi
  unfold Dspec_l6Right_0
  simp only[lt_dec hi,frk_t,lget_nat,gt_some hi,Option.bind_some,sPlaneOk n _ (by omega)]
  cases pOk (gt l i) <;> rfl
 ·intro rec
  unfold Dspec_l6Right_0
  simp only[lt_self,frk_f]
def opB (l:List Pl):Bool:=!(List.range' 0 l.length).any fun i=>wth (l.take i) (gt l i)
theorem sOpenL(l:List Pl)(hl:∀q∈l,PB q)(hb:l.length≤big):Ev fun n=>Dspec_l6Open n l=some (opB l):=by
 refine(e_ge (l.length+502)).mono fun n hn=>?_
 have e:opB l=!(List.range' 1 (l.length-1)).any fun i=>wth (l.take i) (gt l i):=by
  unfold opB
  cases l with
  | nil=>rfl
  | cons x l=>simp only[List.length_cons,List.range'_succ,List.any_cons,Nat.add_sub_cancel];rfl
 have hF:∀rec (i:Nat),i<l.length→Dspec_l6Open_0 n l rec (i:Int)=cond (wth (l.take i) (gt l i)) (some false) (rec (w64 ((i:Int)+1))):=by
  intro rec i hi
  unfold Dspec_l6Open_0
  simp only[lt_dec hi,frk_t,lget_nat,gt_some hi,Option.bind_some,lsl_take l i (by omega)]
  rw[sWith (l.take i) (gt l i) (fun q hq=>hl q (List.mem_of_mem_take hq)) (hl _ (gt_mem hi)) (by rw[List.length_take];omega) n (by rw[List.length_take];omega),Option.bind_some,frk_cond]
 have hE:∀rec,Dspec_l6Open_0 n l rec (l.length:Int)=some true:=by
  intro rec
  unfold Dspec_l6Open_0
  simp only[lt_self,frk_f]
 show loopN _ _ _=_
 cases hc:l with
 | nil =>
  obtain⟨m,rfl⟩:∃m,n=m+1:=⟨n-1,by omega⟩
  rw[loop_suc];rfl
 | cons x r =>
  rw[←hc]
  have hlen:l.length=r.length+1:=by rw[hc];rfl
  have h:=search (F:=Dspec_l6Open_0 n l) (len:=l.length) (b:=fun i=>wth (l.take i) (gt l i)) (hit:=some false) (miss:=some true) hb hF hE (l.length-1) 1 n (by omega) (by omega)
  rw[show (1:Int)=((1:Nat):Int) from rfl,h,e]
  cases (List.range' 1 (l.length-1)).any fun i=>wth (l.take i) (gt l i) <;> rfl
theorem opn_of{l:List Pl}(h:opB l=true):Opn l:=by
 have key:∀k,k≤l.length→Opn (l.take k):=by
  intro k
  induction k with
  | zero=>intro _;exact .nil
  | succ k ih =>
   intro hk
   have e:l.take (k+1)=l.take k++[gt l k]:=by rw[List.take_add_one,gt_some (by omega)];rfl
   rw[e]
   refine .snoc (ih (by omega)) ?_
   unfold opB at h
   simp only[Bool.not_eq_true',List.any_eq_false] at h
   simpa using h k (by simp;omega)
 have:=key l.length (Nat.le_refl _)
 rwa [List.take_length] at this
theorem wth_mono{r l:List Pl}{p:Pl}(hs:r.Sublist l)(h:wth l p=false):wth r p=false:=by
 cases hr:wth r p with
 | false=>rfl
 | true =>
  have:wth l p=true:=by
   rw[wth_sub] at hr ⊢
   rcases hr with ⟨q,h1,h2⟩ | ⟨q,r,h1,h2⟩ | ⟨q,r,s,h1,h2⟩
   ·exact .inl ⟨q,h1.trans hs,h2⟩
   ·exact .inr (.inl ⟨q,r,h1.trans hs,h2⟩)
   ·exact .inr (.inr ⟨q,r,s,h1.trans hs,h2⟩)
  rw[h] at this;cases this
def cvK:List Pl→List Pl→List Pl
 | [],_=>[]
 | p::r,path=>if wth path (flp p) then cvK r path else p::cvK r (path++[p])
def cvN (p:Pl)(s:Sol):Sol:=.mk false p [s,lfS false]
def cvT (k:List Pl):Sol:=k.foldr cvN (lfS true)
def Cnd (path l:List Pl):Prop:=∀l1 p l2,l=l1++p::l2→∀s:List Pl,s.Sublist l1→wth (path++s) p=false
theorem Cnd.head{path l:List Pl}{p:Pl}(h:Cnd path (p::l)):wth path p=false:=by
 have:=h [] p l rfl [] (List.Sublist.refl _)
 simpa using this
theorem Cnd.tail{path l:List Pl}{p:Pl}(h:Cnd path (p::l)):Cnd path l:=fun l1 q l2 e s hs=>h (p::l1) q l2 (by rw[e];rfl) s (hs.cons p)
theorem Cnd.more{path l:List Pl}{p:Pl}(h:Cnd path (p::l)):Cnd (path++[p]) l:=fun l1 q l2 e s hs=>by
 have:=h (p::l1) q l2 (by rw[e];rfl) (p::s) (hs.cons_cons p)
 simpa using this
theorem cnd_of{l:List Pl}(h:Opn l):Cnd [] l:=fun l1 p l2 e s hs=>by
 obtain⟨l',h1,h2⟩:=h.last (r:=s) (p:=p) (by
  rw[e,show l1++p::l2=(l1++[p])++l2 by simp]
  exact(hs.append (List.Sublist.refl _)).trans (List.sublist_append_left _ _))
 exact wth_mono h1 h2
theorem cvT_rt:∀(l path:List Pl),Cnd path l→(∀q∈l,pOk q=true)→path.length+l.length≤24→Rt (cvT (cvK l path)) path:=by
 intro l
 induction l with
 | nil=>intro path _ _ _;exact .leaf rfl
 | cons p l ih =>
  intro path hc hp hl
  simp only[List.length_cons] at hl
  rw[cvK]
  cases hw:wth path (flp p) with
  | true=>rw[if_pos rfl];exact ih path hc.tail (fun q hq=>hp q (by simp[hq])) (by omega)
  | false =>
   rw[if_neg (by simp)]
   exact .node (hp p (by simp)) (by omega) hc.head hw (ih _ hc.more (fun q hq=>hp q (by simp[hq])) (by rw[List.length_append,List.length_singleton];omega)) (.leaf rfl)
theorem cvK_len:∀(l path:List Pl),(cvK l path).length≤l.length:=by
 intro l
 induction l with
 | nil=>intro path;exact Nat.le_refl _
 | cons p l ih =>
  intro path
  rw[cvK]
  split
  ·have:=ih path;rw[List.length_cons];omega
  ·have:=ih (path++[p]);rw[List.length_cons,List.length_cons];omega
theorem cvT_nod:∀k:List Pl,nod (cvT k)=k.length:=by
 intro k
 induction k with
 | nil=>exact nod_leaf _ _
 | cons p k ih =>
  show nod (.mk false p [cvT k,lfS false])=_
  rw[nod2,ih,show nod (lfS false)=0 from nod_leaf _ _,List.length_cons];omega
theorem cvT_right{l:List Pl}(ho:Opn l)(hp:∀q∈l,pOk q=true)(hl:l.length≤24):Right (cvT (cvK l [])):=by
 refine⟨cvT_rt l [] (cnd_of ho) hp (by simpa using hl),?_⟩
 rw[cvT_nod]
 have:=cvK_len l [];omega
theorem sCvStep(n:Nat)(self:List Pl×List Pl→Option Sol)(l path:List Pl)(rec:Int→Option Sol)(k:Nat)(p:Pl)(h1:k<l.length)(h2:l[k]?=some p):Dspec_l9Convex_2 n self l path false 0 0 0 0 rec (k:Int) =
  ((Dspec_l3Flip p).bind fun v1=>(Dspec_l6With n path v1).bind fun v2=>frk (!v2) ((Dspec_l6With n path p).bind fun v4=>frk (!v4) ((lsl l (w64 ((k:Int)+1)) (l.length:Int)).bind fun v6=>(Dspec_l8Path path p).bind fun v8=>(self (v6,v8)).bind fun v9=>some (cvN p v9)) (rec (w64 ((k:Int)+1)))) (rec (w64 ((k:Int)+1)))):=by
 unfold Dspec_l9Convex_2
 dsimp only
 rw[lt_dec h1,frk_t,lget_nat,h2,Option.bind_some]
 unfold Dspec_l9Convex_0
 rw[lget_nat,h2]
 rfl
theorem sConvexIn:∀(r path:List Pl),Cnd path r→(∀q∈r,PB q)→(∀q∈path,PB q)→path.length+r.length≤24→E2 fun n m=>∀(l:List Pl) (k j:Nat),l.drop k=r→l.length≤24→r.length<j →
  loopN (Dspec_l9Convex_2 n (loopN (Dspec_l9Convex_b n) m) l path false 0 0 0 0) j (k:Int)=some (cvT (cvK r path)):=by
 intro r
 induction r with
 | nil =>
  intro path _ _ _ _
  refine E2.of fun n m l k j hr hl hj=>?_
  obtain⟨j,rfl⟩:∃i,j=i+1:=⟨j-1,by omega⟩
  have hk:l.length≤k:=List.drop_eq_nil_iff.1 hr
  have hd:decide ((k:Int)<(l.length:Int))=false:=decide_eq_false (by omega)
  rw[loop_suc]
  simp only[Dspec_l9Convex_2,hd,frk_f];rfl
 | cons p r ih =>
  intro path hc hp hpa hlen
  simp only[List.length_cons] at hlen
  have hpb:PB p:=hp p (by simp)
  have hw0:∀n:Nat,40≤n→Dspec_l6With n path (flp p)=some (wth path (flp p)):=fun n hn=>sWith path (flp p) hpa (flp_PB hpb) (by unfold big;omega) n (by omega)
  have hw1:∀n:Nat,40≤n→Dspec_l6With n path p=some false:=fun n hn=>by rw[sWith path p hpa hpb (by unfold big;omega) n (by omega),hc.head]
  cases hw:wth path (flp p) with
  | true =>
   have i1:=ih path hc.tail (fun q hq=>hp q (by simp[hq])) hpa (by omega)
   refine(i1.and (e2_ge 40)).mono fun n m ⟨i1,hn,_⟩ l k j hr hl hj=>?_
   simp only[List.length_cons] at hj
   obtain⟨j,rfl⟩:∃i,j=i+1:=⟨j-1,by omega⟩
   obtain⟨h1,h2,h3,-⟩:=drop_get hr
   rw[loop_suc]
   rw[sCvStep n _ l path _ k p h1 h2,sFlip p hpb,Option.bind_some,hw0 n hn,Option.bind_some,hw,Bool.not_true,frk_f,w64_suc (show k<big by unfold big;omega),i1 l (k+1) j h3 hl (by omega)]
   rw[cvK,hw,if_pos rfl]
  | false =>
   have i1:=ih (path++[p]) hc.more (fun q hq=>hp q (by simp[hq])) (path_PB hpa hpb) (by rw[List.length_append,List.length_singleton];omega)
   refine E2.suc ((i1.and (e2_ge 40)).mono fun n m ⟨i1,hn,_⟩ l k j hr hl hj=>?_)
   simp only[List.length_cons] at hj
   obtain⟨j,rfl⟩:∃i,j=i+1:=⟨j-1,by omega⟩
   obtain⟨h1,h2,h3,-⟩:=drop_get hr
   have hsl:lsl l ((k+1:Nat):Int) (l.length:Int)=some r:=by
    unfold lsl
    rw[if_pos ⟨by omega,by omega,by omega⟩,Int.toNat_natCast,Int.toNat_natCast,h3,List.take_of_length_le (by rw[←h3,List.length_drop];omega)]
   rw[loop_suc]
   rw[sCvStep n _ l path _ k p h1 h2,sFlip p hpb,Option.bind_some,hw0 n hn,Option.bind_some,hw,Bool.not_false,frk_t,hw1 n hn,Option.bind_some,Bool.not_false,frk_t,w64_suc (show k<big by unfold big;omega),hsl,Option.bind_some,sPath path p (by omega),Option.bind_some]
   rw[loop_suc]
   have this:loopN (Dspec_l9Convex_2 n (loopN (Dspec_l9Convex_b n) m) r (path++[p]) false 0 0 0 0) n 0=_:=i1 r 0 n rfl (by omega) (by omega)
   show ((loopN (Dspec_l9Convex_2 n (loopN (Dspec_l9Convex_b n) m) r (path++[p]) false 0 0 0 0) n 0).bind _)=_
   rw[this,Option.bind_some,cvK,hw,if_neg (by simp)]
   rfl
theorem sConvexT{l:List Pl}(ho:Opn l)(hp:∀q∈l,PB q)(hl:l.length≤24):Ev fun n=>Dspec_l9Convex n l []=some (cvT (cvK l [])):=by
 have:=sConvexIn l [] (cnd_of ho) hp (by simp) (by simpa using hl)
 have h2:E2 fun n m=>loopN (Dspec_l9Convex_b n) m (l,[])=some (cvT (cvK l [])):=by
  refine E2.suc ((this.and (e2_ge 40)).mono fun n m ⟨h,hn,_⟩=>?_)
  rw[loop_suc]
  exact h l 0 n rfl hl (by omega)
 exact h2.ev
def cvR (l:List Pl):Sol×Int:=if !(l.all pOk&&decide ((l.length:Int)≤24)) then (lfS false,1) else if !opB l then (lfS false,2) else (cvT (cvK l []),0)
theorem sConvex(l:List Pl)(hb:l.length≤big):Ev fun n=>Dspec_Convex n l=some (cvR l):=by
 unfold cvR
 have e1:=sRightL l hb
 cases hc:(l.all pOk&&decide ((l.length:Int)≤24)) with
 | false =>
  refine e1.mono fun n h1=>?_
  simp only[Dspec_Convex,h1,hc,Option.bind_some,Bool.not_false,frk_t,if_true];rfl
 | true =>
  simp only[Bool.and_eq_true,decide_eq_true_eq] at hc
  have hp:∀q∈l,PB q:=fun q hq=>pOk_PB (all_mem hc.1 q hq)
  have hc':(l.all pOk&&decide ((l.length:Int)≤24))=true:=by simp only[Bool.and_eq_true,decide_eq_true_eq];exact hc
  have e2:=sOpenL l hp hb
  cases ho:opB l with
  | false =>
   refine(e1.and e2).mono fun n ⟨h1,h2⟩=>?_
   simp only[Dspec_Convex,h1,h2,hc',ho,sLeaf,Option.bind_some,Bool.not_true,Bool.not_false,frk_t,frk_f,if_true];rfl
  | true =>
   have e3:=sConvexT (opn_of ho) hp (by omega)
   refine(e1.and (e2.and e3)).mono fun n ⟨h1,h2,h3⟩=>?_
   simp only[Dspec_Convex,h1,h2,h3,hc',ho,Option.bind_some,Bool.not_true,frk_f];rfl
theorem lf_right(b:Bool):Right (lfS b):=⟨.leaf rfl,by rw[show nod (lfS b)=0 from nod_leaf _ _];omega⟩
theorem cvR_right(l:List Pl):Right (cvR l).1:=by
 unfold cvR
 split
 ·exact lf_right _
 ·rename_i h
  split
  ·exact lf_right _
  ·rename_i h2
   simp only[Bool.not_eq_true',Bool.not_eq_false,Bool.and_eq_true,decide_eq_true_eq] at h h2
   exact cvT_right (opn_of h2) (all_mem h.1) (by omega)
end Evl.T
namespace Evl.T
open Go Evl
structure SpOk(q:Spot):Prop where
 w:1≤q.W∧q.W≤1000000000
 x:q.X.natAbs≤1000000000
 y:q.Y.natAbs≤1000000000
 z:q.Z.natAbs≤1000000000
 g:Nat.gcd (Nat.gcd (Nat.gcd q.X.natAbs q.Y.natAbs) q.Z.natAbs) q.W.natAbs=1
end Evl.T
namespace Evl.T
open Go Evl
theorem iSpOk{n:Nat}{q:Spot}(h:SpOk q)(hn:1000000001≤n):Dimpl_SpotOk n q=some true:=by
 obtain⟨hw,hx,hy,hz,hg⟩:=h
 have r:∀{x:Int},x.natAbs≤1000000000→rIn x (-1000000000) 1000000000=true:=fun h=>rIn_iff.2 (by omega)
 have u:∀{x:Int},x.natAbs≤1000000000→B 9223372036854775807 x:=fun h=>by unfold B;omega
 unfold Dimpl_SpotOk
 rw[iIn,rIn_iff.2 hw,Option.bind_some,Bool.not_true,frk_f,iIn,r hx,Option.bind_some,Bool.not_true,frk_f,iIn,r hy,Option.bind_some,Bool.not_true,frk_f,iIn,r hz,Option.bind_some,Bool.not_true,frk_f,
  iDiv4 n q.X q.Y q.Z q.W (u hx) (u hy) (u hz) (u (by omega)) (by omega) (by omega) (by omega) (by omega) (by omega),hg]
 rfl
end Evl.T
namespace Evl.T
open Go Evl
def at4 (p:Pl)(q:Spot):Int:=p.A*q.X+p.B*q.Y+p.C*q.Z+p.D*q.W
theorem at_flp(p:Pl)(q:Spot):at4 (flp p) q=0-at4 p q:=by unfold at4 flp;simp only;grind
theorem at_w{p:Pl}{q:Spot}(hp:PB p)(hq:SpOk q):w64 ((w64 ((w64 ((w64 (p.A*q.X))+(w64 (p.B*q.Y))))+(w64 (p.C*q.Z))))+(w64 (p.D*q.W)))=at4 p q:=by
 obtain⟨a1,a2,a3,a4⟩:=hp
 have bx:B 1000000000 q.X:=hq.x
 have by':B 1000000000 q.Y:=hq.y
 have bz:B 1000000000 q.Z:=hq.z
 have bw:B 1000000000 q.W:=by have:=hq.w;unfold B;omega
 simp only[w64_add_l,w64_add_r]
 rw[w64_B ((((a1.mul bx).add (a2.mul by')).add (a3.mul bz)).add (a4.mul bw)) rfl]
 rfl
theorem iSideR{p:Pl}{q:Spot}(hp:PB p)(hq:SpOk q):Dimpl_sideAt p q=some (sgn (at4 p q)):=by
 unfold Dimpl_sideAt;rw[iSign,Option.bind_some,at_w hp hq]
theorem sgn_ge(x:Int):sgn x≥0↔0≤x:=by unfold sgn;split <;> (try split) <;> omega
theorem sgn_le(x:Int):sgn x≤0↔x≤0:=by unfold sgn;split <;> (try split) <;> omega
end Evl.T
namespace Evl.T
open Go Evl
theorem growLeaf(path:List Pl){k:Cur}(h:CurOk k) :
  ∃s k',(∀(n:Nat) (self:(Cur×List Pl×Int)→Option (Sol×Cur)),Dspec_l8Grow_2 n self false 0 0 0 0 k.1 k.2.1 k.2.2=some (s,k'))∧Rt s path∧nod s=0∧(∀d,Dp s d)∧CurOk k':=by
 obtain⟨b,k1,e,h1⟩:=onceOk (c:=(k.1,k.2.1,k.2.2)) h (a:=2) (by omega) (by omega)
 refine⟨_,_,fun n self=>?_,.leaf (i:=b) (p:=⟨0,0,0,0⟩) rfl,nod_leaf _ _,fun _=>.leaf,h1⟩
 unfold Dspec_l8Grow_2
 rw[e,Option.bind_some];rfl
theorem growStep(n:Nat)(self:(Cur×List Pl×Int)→Option (Sol×Cur))(path:List Pl)(t:Int)(rec0:(Int×Cur)→Option (Sol×Cur))(j:Int)(k:Cur) :
  Dspec_l8Grow_3 n self path t false 0 0 0 0 rec0 (j,k)=frk (decide (j<3)) (Dspec_l8Grow_0 n self rec0 path t false 0 0 0 0 j (decide (t>0)) k.1 k.2.1 k.2.2) (Dspec_l8Grow_2 n self false 0 0 0 0 k.1 k.2.1 k.2.2):=rfl
theorem growOk:∀(d:Nat) (path:List Pl) (t:Int) (k:Cur),path.length+d≤24→(∀q∈path,PB q)→t≤d→-1000≤t→CurOk k →
  ∃s k',(∀n m,1000≤n→d<m→loopN (Dspec_l8Grow_b n) m (k,path,t)=some (s,k'))∧Rt s path∧nod s+1≤2 ^ d∧Dp s d∧CurOk k':=by
 intro d
 induction d with
 | zero =>
  intro path t k hl hp ht ht2 hk
  obtain⟨s,k',e,hR,hN,hD,hk'⟩:=growLeaf path hk
  refine⟨s,k',fun n m hn hm=>?_,hR,by omega,hD _,hk'⟩
  obtain⟨m,rfl⟩:∃j,m=j+1:=⟨m-1,by omega⟩
  rw[loop_suc]
  show loopN (Dspec_l8Grow_3 n (loopN (Dspec_l8Grow_b n) m) path t false 0 0 0 0) n (0,k)=_
  have key:∀j,loopN (Dspec_l8Grow_3 n (loopN (Dspec_l8Grow_b n) m) path t false 0 0 0 0) (j+1) (0,k)=some (s,k'):=by
   intro j
   rw[loop_suc,growStep,dec_t (by omega),frk_t]
   unfold Dspec_l8Grow_0
   rw[dec_f (by omega),frk_f]
   exact e n _
  have:=key (n-1)
  rwa [show n-1+1=n by omega] at this
 | succ d ih =>
  intro path t k hl hp ht ht2 hk
  have hpow:2 ^ (d+1)=2 ^ d+2 ^ d:=by rw[Nat.pow_succ];omega
  have h2:1≤2 ^ d:=Nat.one_le_two_pow
  have tries:∀(r:Nat) (k:Cur),r≤3→CurOk k→∃s k',(∀n m f,1000≤n→d<m→r<f→loopN (Dspec_l8Grow_3 n (loopN (Dspec_l8Grow_b n) m) path t false 0 0 0 0) f (((3-r:Nat):Int),k)=some (s,k'))∧Rt s path∧nod s+1≤2 ^ (d+1)∧Dp s (d+1)∧CurOk k':=by
   intro r
   induction r with
   | zero =>
    intro k _ hk
    obtain⟨s,k',e,hR,hN,hD,hk'⟩:=growLeaf path hk
    refine⟨s,k',fun n m f hn hm hf=>?_,hR,by omega,hD _,hk'⟩
    obtain⟨f,rfl⟩:∃j,f=j+1:=⟨f-1,by omega⟩
    rw[loop_suc,growStep,dec_f (by omega),frk_f];exact e n _
   | succ r ihr =>
    intro k hr hk
    have hw3:w64 (((3-(r+1):Nat):Int)+1)=((3-r:Nat):Int):=by rw[w64_id (by omega) (by omega)];omega
    by_cases ht0:t>0
    ·obtain⟨p,k1,e1,hpo,h1⟩:=drawOk (k:=(k.1,k.2.1,k.2.2)) hk
     have hpb:=pOk_PB hpo
     have again:∀(hW:wth path p=true∨(wth path p=false∧wth path (flp p)=true)),∃s k',(∀n m f,1000≤n→d<m→r+1<f→loopN (Dspec_l8Grow_3 n (loopN (Dspec_l8Grow_b n) m) path t false 0 0 0 0) f (((3-(r+1):Nat):Int),k)=some (s,k'))∧Rt s path∧nod s+1≤2 ^ (d+1)∧Dp s (d+1)∧CurOk k':=by
      intro hW
      obtain⟨s,k',g1,g2,g3,g5,g4⟩:=ihr k1 (by omega) h1
      refine⟨s,k',fun n m f hn hm hf=>?_,g2,g3,g5,g4⟩
      obtain⟨f,rfl⟩:∃j,f=j+1:=⟨f-1,by omega⟩
      have g:=g1 n m f hn hm (by omega)
      rw[loop_suc,growStep,dec_t (by omega),frk_t]
      unfold Dspec_l8Grow_0
      rw[dec_t ht0,frk_t,hw3,e1 n hn,Option.bind_some]
      simp only[sWith path p hp hpb (by unfold big;omega) n (by omega),Option.bind_some]
      rcases hW with hw | ⟨hw,hw2⟩
      ·rw[hw,Bool.not_true,frk_f];exact g
      ·rw[hw,Bool.not_false,frk_t,sFlip p hpb,Option.bind_some,sWith path (flp p) hp (flp_PB hpb) (by unfold big;omega) n (by omega),Option.bind_some]
       unfold Dspec_l8Grow_1
       rw[hw2,Bool.not_true,frk_f];rw[hw3];exact g
     cases hw:wth path p with
     | true=>exact again (.inl hw)
     | false =>
      cases hw2:wth path (flp p) with
      | true=>exact again (.inr ⟨hw,hw2⟩)
      | false =>
       obtain⟨v,k2,e2,hv,h2'⟩:=belowOk (c:=(k1.1,k1.2.1,k1.2.2)) h1 (a:=2) (by omega) (by omega)
       have ev:w64 (w64 (t-1)-v)=t-1-v:=by rw[w64_id (x:=t-1) (by omega) (by omega),w64_id (by omega) (by omega)]
       obtain⟨x,k3,e3,hRx,hNx,hDx,h3⟩:=ih (path++[p]) (t-1-v) k2 (by simp;omega) (path_PB hp hpb) (by omega) (by omega) h2'
       obtain⟨u,k4,e4,hu,h4⟩:=belowOk h3 (a:=2) (by omega) (by omega)
       have eu:w64 (w64 (t-1)-u)=t-1-u:=by rw[w64_id (x:=t-1) (by omega) (by omega),w64_id (by omega) (by omega)]
       obtain⟨y,k5,e5,hRy,hNy,hDy,h5⟩:=ih (path++[flp p]) (t-1-u) k4 (by simp;omega) (path_PB hp (flp_PB hpb)) (by omega) (by omega) h4
       refine⟨.mk false p [x,y],k5,fun n m f hn hm hf=>?_,.node hpo (by omega) hw hw2 hRx hRy,by rw[nod2];omega,.node hDx hDy,h5⟩
       obtain⟨f,rfl⟩:∃j,f=j+1:=⟨f-1,by omega⟩
       rw[loop_suc,growStep,dec_t (by omega),frk_t]
       unfold Dspec_l8Grow_0
       rw[dec_t ht0,frk_t,e1 n hn,Option.bind_some]
       simp only[sWith path p hp hpb (by unfold big;omega) n (by omega),Option.bind_some]
       rw[hw,Bool.not_false,frk_t,sFlip p hpb,Option.bind_some,sWith path (flp p) hp (flp_PB hpb) (by unfold big;omega) n (by omega),Option.bind_some]
       unfold Dspec_l8Grow_1
       rw[hw2,Bool.not_false,frk_t]
       simp only[pl_eq]
       rw[sPath path p (by omega),Option.bind_some,e2,Option.bind_some]
       simp only[ev,e3 n m hn hm,Option.bind_some,sFlip p hpb,sPath path (flp p) (show path.length≤1000 by omega),e4,eu,e5 n m hn hm]
       rfl
    ·obtain⟨s,k',e,hR,hN,hD,hk'⟩:=growLeaf path hk
     refine⟨s,k',fun n m f hn hm hf=>?_,hR,by omega,hD _,hk'⟩
     obtain⟨f,rfl⟩:∃j,f=j+1:=⟨f-1,by omega⟩
     rw[loop_suc,growStep,dec_t (by omega),frk_t]
     unfold Dspec_l8Grow_0
     rw[dec_f ht0,frk_f];exact e n _
  obtain⟨s,k',g1,g2,g3,g5,g4⟩:=tries 3 k (by omega) hk
  refine⟨s,k',fun n m hn hm=>?_,g2,g3,g5,g4⟩
  obtain⟨m,rfl⟩:∃j,m=j+1:=⟨m-1,by omega⟩
  rw[loop_suc]
  exact g1 n m n hn (by omega) (by omega)
end Evl.T
namespace Evl.T
open Go Evl
theorem gcd_bd{a b k:Nat}(ha:a≤k)(hb:b≤k):Nat.gcd a b≤k:=by
 by_cases h:b=0
 ·subst h;rw[Nat.gcd_zero_right];exact ha
 ·exact Nat.le_trans (Nat.gcd_le_right a (by omega)) hb
theorem qtOk'{a b:Int}(hb:b≠0)(ha:a.natAbs≤1000000000):qt .i64 a b=some (a.tdiv b):=by
 unfold qt
 rw[if_neg hb]
 have:(a.tdiv b).natAbs≤a.natAbs:=by rw[Int.natAbs_tdiv];exact Nat.div_le_self _ _
 have e:IntKind.i64.wrap (a.tdiv b)=a.tdiv b:=w64_id (by omega) (by omega)
 rw[e]
theorem spotOf{a b c d:Int}(ha:a.natAbs≤1000000000)(hb:b.natAbs≤1000000000)(hc:c.natAbs≤1000000000)(hd:d.natAbs≤1000000000)(h0:d≠0) :
  ∃q,(∀n,1000000001≤n→Dspec_l5Spot n a b c d=some q)∧SpOk q:=by
 have u:∀{x:Int},x.natAbs≤1000000000→B 9223372036854775807 x:=fun h=>by unfold B;omega
 have b1:=gcd_bd ha hb
 have b2:=gcd_bd hc hd
 have hb3:=gcd_bd b1 b2
 have hG:Nat.gcd (Nat.gcd a.natAbs b.natAbs) (Nat.gcd c.natAbs d.natAbs)=g4 a b c d:=by unfold g4;rw[Nat.gcd_assoc (Nat.gcd a.natAbs b.natAbs)]
 rw[hG] at hb3
 have hp:0<g4 a b c d:=by
  unfold g4
  apply Nat.pos_of_ne_zero
  intro e
  have:=(Nat.gcd_eq_zero_iff.1 e).2
  omega
 have hgd:g4 a b c d ∣ Nat.gcd (Nat.gcd a.natAbs b.natAbs) c.natAbs:=Nat.gcd_dvd_left _ _
 have hdd:g4 a b c d ∣ d.natAbs:=Nat.gcd_dvd_right _ _
 have hcd:=Nat.dvd_trans hgd (Nat.gcd_dvd_right _ _)
 have hab:=Nat.dvd_trans hgd (Nat.gcd_dvd_left _ _)
 have had:=Nat.dvd_trans hab (Nat.gcd_dvd_left _ _)
 have hbd:=Nat.dvd_trans hab (Nat.gcd_dvd_right _ _)
 have fin:∀t:Int,t.natAbs=g4 a b c d→(0<d→0<t)→(d<0→t<0)→∃q,(∀n,Dspec_l5Spot_0 n a b c d t 0 0 0 0=some q)∧SpOk q:=by
  intro t ht hs1 hs2
  have t0:t≠0:=by omega
  have na:∀x:Int,(x.tdiv t).natAbs=x.natAbs / g4 a b c d:=fun x=>by rw[Int.natAbs_tdiv,ht];rfl
  have le:∀{x:Int},x.natAbs≤1000000000→(x.tdiv t).natAbs≤1000000000:=fun {x} h=>by rw[na];exact Nat.le_trans (Nat.div_le_self _ _) h
  refine⟨⟨a.tdiv t,b.tdiv t,c.tdiv t,d.tdiv t⟩,fun n=>?_,⟨?_,le ha,le hb,le hc,?_⟩⟩
  ·unfold Dspec_l5Spot_0
   rw[qtOk' t0 ha,Option.bind_some,qtOk' t0 hb,Option.bind_some,qtOk' t0 hc,Option.bind_some,qtOk' t0 hd,Option.bind_some]
  ·have h1:=le hd
   have hpos:0<(d.tdiv t).natAbs:=by rw[na];exact Nat.div_pos (Nat.le_of_dvd (by omega) hdd) hp
   have hnn:0≤d.tdiv t:=by
    rcases Int.lt_or_gt_of_ne h0 with h | h
    ·have:=hs2 h
     have e:d.tdiv t=(-d).tdiv (-t):=by rw[Int.neg_tdiv_neg]
     rw[e];exact Int.tdiv_nonneg (by omega) (by omega)
    ·have:=hs1 h;exact Int.tdiv_nonneg (by omega) (by omega)
   show 1≤d.tdiv t∧d.tdiv t≤1000000000
   omega
  ·show Nat.gcd (Nat.gcd (Nat.gcd (a.tdiv t).natAbs (b.tdiv t).natAbs) (c.tdiv t).natAbs) (d.tdiv t).natAbs=1
   rw[na,na,na,na,Nat.gcd_div had hbd]
   have q1:g4 a b c d ∣ Nat.gcd a.natAbs b.natAbs:=Nat.dvd_gcd had hbd
   rw[Nat.gcd_div q1 hcd,Nat.gcd_div hgd hdd]
   exact Nat.div_self hp
 have step:∀n,1000000001≤n→Dspec_l5Spot n a b c d=frk (decide (d<0)) (Dspec_l5Spot_0 n a b c d (w64 (0-((g4 a b c d:Nat):Int))) 0 0 0 0) (Dspec_l5Spot_0 n a b c d ((g4 a b c d:Nat):Int) 0 0 0 0):=by
  intro n hn
  have g1:=sGcd n a b (u ha) (u hb) (by omega)
  have g2:=sGcd n c d (u hc) (u hd) (by omega)
  have g3:=sGcd n ((Nat.gcd a.natAbs b.natAbs:Nat):Int) ((Nat.gcd c.natAbs d.natAbs:Nat):Int) (by unfold B;omega) (by unfold B;omega) (by omega)
  simp only[Int.natAbs_natCast] at g3
  rw[hG] at g3
  unfold Dspec_l5Spot
  rw[g1,Option.bind_some,g2,Option.bind_some,g3,Option.bind_some]
 by_cases hneg:d<0
 ·obtain⟨q,g1,g2⟩:=fin (0-((g4 a b c d:Nat):Int)) (by omega) (fun h=>by omega) (fun _=>by omega)
  refine⟨q,fun n hn=>?_,g2⟩
  rw[step n hn,dec_t hneg,frk_t,w64_id (by omega) (by omega)];exact g1 n
 ·obtain⟨q,g1,g2⟩:=fin ((g4 a b c d:Nat):Int) (by omega) (fun _=>by omega) (fun h=>absurd h hneg)
  refine⟨q,fun n hn=>?_,g2⟩
  rw[step n hn,dec_f hneg,frk_f];exact g1 n
theorem det3B{p q r:Pl}(hp:PB p)(hq:PB q)(hr:PB r):(det3 p q r).natAbs≤1000000000:=by
 obtain⟨a1,a2,a3,-⟩:=hp
 obtain⟨b1,b2,b3,-⟩:=hq
 obtain⟨c1,c2,c3,-⟩:=hr
 have h:B 750000000 (det3 p q r):=(((a1.mul ((b2.mul c3).sub (b3.mul c2))).add (a2.mul ((b3.mul c1).sub (b1.mul c3)))).add (a3.mul ((b1.mul c2).sub (b2.mul c1)))).up (by decide)
 unfold B at h;omega
theorem meetOk{p q r:Pl}(hp:PB p)(hq:PB q)(hr:PB r):∃s b,(∀n,1000000001≤n→Dspec_l5Meet n p q r=some (s,b))∧(b=true→SpOk s):=by
 by_cases h0:det3 p q r=0
 ·refine⟨⟨0,0,0,0⟩,false,fun n hn=>?_,fun h=>by cases h⟩
  unfold Dspec_l5Meet
  rw[sDet3 p q r hp hq hr,Option.bind_some,show (det3 p q r==0)=true by simpa using h0,frk_t]
 ·have nD:∀{x:Pl},PB x→B 500 (w64 (0-x.D)):=fun {x} h=>by
   have:=h.2.2.2
   rw[w64_B this.zsub (by decide)];exact this.zsub
  have z0:B 500 (0:Int):=B.of (by decide) (by decide)
  have A:∀{x:Pl},PB x→PB ⟨w64 (0-x.D),x.B,x.C,0⟩:=fun h=>⟨nD h,h.2.1,h.2.2.1,z0⟩
  have Bq:∀{x:Pl},PB x→PB ⟨x.A,w64 (0-x.D),x.C,0⟩:=fun h=>⟨h.1,nD h,h.2.2.1,z0⟩
  have C:∀{x:Pl},PB x→PB ⟨x.A,x.B,w64 (0-x.D),0⟩:=fun h=>⟨h.1,h.2.1,nD h,z0⟩
  obtain⟨s,e,hs⟩:=spotOf (det3B (A hp) (A hq) (A hr)) (det3B (Bq hp) (Bq hq) (Bq hr)) (det3B (C hp) (C hq) (C hr)) (det3B hp hq hr) h0
  refine⟨s,true,fun n hn=>?_,fun _=>hs⟩
  unfold Dspec_l5Meet
  rw[sDet3 p q r hp hq hr,Option.bind_some,show (det3 p q r==0)=false by simpa using h0,frk_f]
  rw[sDet3 _ _ _ (A hp) (A hq) (A hr),Option.bind_some,sDet3 _ _ _ (Bq hp) (Bq hq) (Bq hr),Option.bind_some,sDet3 _ _ _ (C hp) (C hq) (C hr),Option.bind_some,e n hn,Option.bind_some]
theorem spotDraw0{k:Cur}(h:CurOk k):∃q k',(∀n,1000000001≤n→Dspec_l5Draw_0 n 0 0 0 0 k.1 k.2.1 k.2.2=some (q,k'))∧SpOk q∧CurOk k':=by
 obtain⟨a,k1,e1,ha,h1⟩:=belowOk (c:=(k.1,k.2.1,k.2.2)) h (a:=21) (by omega) (by omega)
 obtain⟨b,k2,e2,hb,h2⟩:=belowOk h1 (a:=21) (by omega) (by omega)
 obtain⟨c,k3,e3,hc,h3⟩:=belowOk h2 (a:=21) (by omega) (by omega)
 obtain⟨d,k4,e4,hd,h4⟩:=intOk h3 (l:=[1,1,2,3,7]) (by simp) (by simp)
 have hd':1≤d∧d≤7:=by simp only[List.mem_cons,List.not_mem_nil,or_false] at hd;omega
 have w:∀{x:Int},0≤x∧x<21→w64 (x-10)=x-10:=fun h=>w64_id (by omega) (by omega)
 obtain⟨q,e5,hq⟩:=spotOf (a:=a-10) (b:=b-10) (c:=c-10) (d:=d) (by omega) (by omega) (by omega) (by omega) (by omega)
 refine⟨q,k4,fun n hn=>?_,hq,h4⟩
 unfold Dspec_l5Draw_0
 simp only[e1,e2,e3,e4,Option.bind_some,w ha,w hb,w hc,e5 n hn]
theorem spotDraw{k:Cur}(h:CurOk k):∃q k',(∀n,1000000001≤n→Dspec_l5Draw n k=some (q,k'))∧SpOk q∧CurOk k':=by
 obtain⟨o,k1,e1,h1⟩:=onceOk h (a:=3) (by omega) (by omega)
 cases o with
 | false =>
  obtain⟨q,k',g1,g2,g3⟩:=spotDraw0 h1
  refine⟨q,k',fun n hn=>?_,g2,g3⟩
  unfold Dspec_l5Draw
  simp only[e1,Option.bind_some,frk_f,g1 n hn]
 | true =>
  obtain⟨p,k2,e2,hp,h2⟩:=drawOk h1
  obtain⟨q,k3,e3,hq,h3⟩:=drawOk h2
  obtain⟨r,k4,e4,hr,h4⟩:=drawOk h3
  obtain⟨s,b,e5,hs⟩:=meetOk (pOk_PB hp) (pOk_PB hq) (pOk_PB hr)
  cases b with
  | true =>
   refine⟨s,k4,fun n hn=>?_,hs rfl,h4⟩
   unfold Dspec_l5Draw
   simp only[e1,e2 n (by omega),e3 n (by omega),e4 n (by omega),e5 n hn,Option.bind_some,frk_t]
  | false =>
   obtain⟨q',k',g1,g2,g3⟩:=spotDraw0 h4
   refine⟨q',k',fun n hn=>?_,g2,g3⟩
   unfold Dspec_l5Draw
   simp only[e1,e2 n (by omega),e3 n (by omega),e4 n (by omega),e5 n hn,Option.bind_some,frk_t,frk_f,g1 n hn]
end Evl.T
namespace Evl.T
open Go Evl
theorem cellStep(n:Nat)(rec0:(Int×List Pl×Cur)→Option (List Pl×Cur))(t:Int)(l:List Pl)(k:Cur) :
  Dspec_l6Cell_1 n rec0 (t,l,k)=frk (decide (t>0)) ((Dspec_l3Draw n k).bind fun v3=>(Dspec_l6With n l v3.1).bind fun v4=>frk (!v4) (chk (apB 32 (l.length+1)) (rec0 (w64 (t-1),(l++[v3.1]),v3.2.1,v3.2.2.1,v3.2.2.2))) (rec0 (w64 (t-1),l,v3.2.1,v3.2.2.1,v3.2.2.2))) (some (l,k)):=rfl
theorem ap32{n:Nat}(h:n≤1000000):apB 32 n=true:=by
 simp only[apB,Bool.and_eq_true,decide_eq_true_eq];omega
theorem cellLoop{F:Nat→((Int×List Pl×Cur)→Option (List Pl×Cur))→(Int×List Pl×Cur)→Option (List Pl×Cur)}(hF:∀n rec0 t l k,F n rec0 (t,l,k)=Dspec_l6Cell_1 n rec0 (t,l,k)) :
  ∀(j:Nat) (l:List Pl) (k:Cur),(∀q∈l,PB q)→l.length+j≤100→CurOk k→∃l' k',(∀n m,1000≤n→j<m→loopN (F n) m ((j:Int),l,k)=some (l',k'))∧l'.length≤l.length+j∧CurOk k':=by
 intro j
 induction j with
 | zero =>
  intro l k hl hlen hk
  refine⟨l,k,fun n m hn hm=>?_,by omega,hk⟩
  obtain⟨m,rfl⟩:∃j,m=j+1:=⟨m-1,by omega⟩
  rw[loop_suc,hF,cellStep,dec_f (by omega),frk_f]
 | succ j ih =>
  intro l k hl hlen hk
  obtain⟨p,k1,e1,hp,h1⟩:=drawOk hk
  have hpb:=pOk_PB hp
  have e:w64 (((j+1:Nat):Int)-1)=(j:Int):=by rw[w64_id (by omega) (by omega)];omega
  cases hw:wth l p with
  | true =>
   obtain⟨l',k',g1,g2,g3⟩:=ih l k1 hl (by omega) h1
   refine⟨l',k',fun n m hn hm=>?_,by omega,g3⟩
   obtain⟨m,rfl⟩:∃j,m=j+1:=⟨m-1,by omega⟩
   rw[loop_suc,hF,cellStep,dec_t (by omega),frk_t,e1 n hn,Option.bind_some]
   simp only[sWith l p hl hpb (by unfold big;omega) n (by omega),Option.bind_some,e,hw,Bool.not_true,frk_f]
   exact g1 n m hn (by omega)
  | false =>
   obtain⟨l',k',g1,g2,g3⟩:=ih (l++[p]) k1 (path_PB hl hpb) (by simp;omega) h1
   refine⟨l',k',fun n m hn hm=>?_,by simp at g2;omega,g3⟩
   obtain⟨m,rfl⟩:∃j,m=j+1:=⟨m-1,by omega⟩
   rw[loop_suc,hF,cellStep,dec_t (by omega),frk_t,e1 n hn,Option.bind_some]
   simp only[sWith l p hl hpb (by unfold big;omega) n (by omega),Option.bind_some,e,hw,Bool.not_false,frk_t]
   rw[chk_eq (ap32 (by omega))]
   exact g1 n m hn (by omega)
theorem cellOk{k:Cur}(hk:CurOk k){a:Int}(h1:1≤a)(h2:a≤10):∃l k',(∀n,1000≤n→Dspec_l6Cell n k a=some (l,k'))∧(l.length:Int)≤5+a∧CurOk k':=by
 obtain⟨o,k1,e1,c1⟩:=onceOk hk (a:=4) (by omega) (by omega)
 cases o with
 | true =>
  obtain⟨v,k2,e2,hv,c2⟩:=belowOk (c:=(k1.1,k1.2.1,k1.2.2)) c1 (a:=a) h1 (by omega)
  obtain⟨j,rfl⟩:∃j:Nat,v=j:=⟨v.toNat,by omega⟩
  obtain⟨l',k',g1,g2,g3⟩:=cellLoop (F:=Dspec_l6Cell_3) (fun _ _ _ _ _=>rfl) j [] k2 (by simp) (by simp;omega) c2
  refine⟨l',k',fun n hn=>?_,by simp at g2;omega,g3⟩
  unfold Dspec_l6Cell Dspec_l6Cell_2
  simp only[e1,Option.bind_some,Bool.not_true,frk_f,e2]
  exact g1 n n hn (by omega)
 | false =>
  obtain⟨u,k2,e2,hu,c2⟩:=belowOk c1 (a:=5) (by omega) (by omega)
  obtain⟨v,k3,e3,hv,c3⟩:=belowOk (c:=(k2.1,k2.2.1,k2.2.2)) c2 (a:=a) h1 (by omega)
  obtain⟨j,rfl⟩:∃j:Nat,v=j:=⟨v.toNat,by omega⟩
  have w1:w64 (1+u)=1+u:=w64_id (by omega) (by omega)
  have w2:w64 (1+u+1)=1+u+1:=w64_id (by omega) (by omega)
  have bb:∀{x y z t:Int},(-500≤x∧x≤500)→(-500≤y∧y≤500)→(-500≤z∧z≤500)→(-500≤t∧t≤500)→PB ⟨x,y,z,t⟩:=fun {x y z t} h1 h2 h3 h4=>⟨(B.of (by omega) (by omega):B 500 x),(B.of (by omega) (by omega):B 500 y),(B.of (by omega) (by omega):B 500 z),(B.of (by omega) (by omega):B 500 t)⟩
  obtain⟨l',k',g1,g2,g3⟩:=cellLoop (F:=Dspec_l6Cell_1) (fun _ _ _ _ _=>rfl) j [⟨1,0,0,1+u⟩,⟨-1,0,0,1+u⟩,⟨0,1,0,1+u⟩,⟨0,-1,0,1+u+1⟩,⟨0,0,1,1+u⟩,⟨0,0,-1,1+u⟩] k3 (fun q hq=>by
   simp only[List.mem_cons,List.not_mem_nil,or_false] at hq
   rcases hq with rfl | rfl | rfl | rfl | rfl | rfl <;> exact bb (by omega) (by omega) (by omega) (by omega)) (by simp;omega) c3
  refine⟨l',k',fun n hn=>?_,by simp at g2;omega,g3⟩
  unfold Dspec_l6Cell Dspec_l6Cell_0
  simp only[e1,e2,Option.bind_some,Bool.not_false,frk_t,e3,w1,w2]
  exact g1 n n hn (by omega)
theorem cvT_dp:∀k:List Pl,Dp (cvT k) k.length
 | []=>.leaf
 | _::k=>.node (cvT_dp k) .leaf
theorem cvR_dp(l:List Pl):Dp (cvR l).1 l.length:=by
 unfold cvR
 split
 ·exact .leaf
 ·split
  ·exact .leaf
  ·exact(cvT_dp _).up (cvK_len l [])
end Evl.T
namespace Evl.T
open Go Evl
theorem drawS(l:List Int)(hl:l.length≤1048576):∃s q,Right s∧Dp s 9∧SpOk q∧Ev fun n=>Dspec_DrawSolid n l=some (s,q):=by
 obtain⟨k0,e0,c0⟩:=newOk hl
 obtain⟨v,k1,e1,hv,c1⟩:=belowOk c0 (a:=5) (by omega) (by omega)
 have w1:w64 (1+v)=1+v:=w64_id (by omega) (by omega)
 obtain⟨s,k2,e2,hR,hN,hD,c2⟩:=growOk 5 [] (1+v) k1 (by simp) (by simp) (by omega) (by omega) c1
 have e2':∀n,1000≤n→Dspec_l8Grow n k1 [] (w64 (1+v))=some (s,k2):=fun n hn=>by rw[w1];exact e2 n n hn (by omega)
 obtain⟨o,k3,e3,c3⟩:=onceOk c2 (a:=3) (by omega) (by omega)
 have fin:∀(s:Sol) (k:Cur),Right s→CurOk k→∃q,SpOk q∧∀n,1000000001≤n→Dspec_DrawSolid_0 n false 0 0 0 0 0 0 0 0 s.inn s.pl.A s.pl.B s.pl.C s.pl.D s.kids k.1 k.2.1 k.2.2=some (s,q):=by
  intro s k hs hk
  obtain⟨q,k',e,hq,-⟩:=spotDraw (k:=(k.1,k.2.1,k.2.2)) hk
  refine⟨q,hq,fun n hn=>?_⟩
  unfold Dspec_DrawSolid_0
  rw[e n hn,Option.bind_some,sol_eq']
 have e5:Ev fun n=>1000000001≤n∧l.length<n:=⟨1000000001+l.length,fun n hn=>by omega⟩
 cases o with
 | false =>
  have hr:Right s:=⟨hR,by omega⟩
  obtain⟨q,hq,g⟩:=fin s k3 hr c3
  refine⟨s,q,hr,hD.up (by omega),hq,e5.mono fun n ⟨h1,h2⟩=>?_⟩
  unfold Dspec_DrawSolid
  simp only[e0 n h2,e1,e2' n (by omega),e3,Option.bind_some,frk_f]
  exact g n h1
 | true =>
  obtain⟨c,k4,e4,hc,c4⟩:=cellOk c3 (a:=4) (by omega) (by omega)
  have hr:=cvR_right c
  obtain⟨q,hq,g⟩:=fin (cvR c).1 k4 hr c4
  refine⟨_,q,hr,(cvR_dp c).up (by omega),hq,(e5.and (sConvex c (by unfold big;omega))).mono fun n ⟨⟨h1,h2⟩,h3⟩=>?_⟩
  unfold Dspec_DrawSolid
  simp only[e0 n h2,e1,e2' n (by omega),e3,e4 n (by omega),h3,Option.bind_some,frk_t]
  exact g n h1
end Evl.T
namespace Evl.T
open Go Evl
theorem iPlanesC(l:List Pl)(hb:l.length≤big):Ev fun n=>Dimpl_planesOk n l=some (l.all pOk):=by
 refine(e_ge (l.length+502)).mono fun n hn=>?_
 have h:=search (F:=Dimpl_planesOk_0 n l (l.length:Int)) (len:=l.length) (b:=fun i=>!pOk (gt l i)) (hit:=some false) (miss:=some true) hb ?_ ?_ l.length 0 n (by omega) (by omega)
 ·show loopN _ _ _=_
  rw[show (0:Int)=((0:Nat):Int) from rfl,h,any_gt l fun x=>!pOk x,all_any]
  cases l.any fun x=>!pOk x <;> rfl
 ·intro rec i hi
  unfold Dimpl_planesOk_0
  simp only[lt_dec hi,frk_t,lget_nat,gt_some hi,Option.bind_some,iPlaneOk n _ (by omega)]
  cases pOk (gt l i) <;> rfl
 ·intro rec
  unfold Dimpl_planesOk_0
  simp only[lt_self,frk_f]
theorem iOpenC(l:List Pl)(hl:∀q∈l,PB q)(hb:l.length≤big):Ev fun n=>Dimpl_open n l=some (opB l):=by
 refine(e_ge (l.length+502)).mono fun n hn=>?_
 have h:=search (F:=Dimpl_open_0 n l l (l.length:Int)) (len:=l.length) (b:=fun i=>wth (l.take i) (gt l i)) (hit:=some false) (miss:=some true) hb ?_ ?_ l.length 0 n (by omega) (by omega)
 ·show loopN _ _ _=_
  rw[show (0:Int)=((0:Nat):Int) from rfl,h]
  unfold opB
  cases (List.range' 0 l.length).any fun i=>wth (l.take i) (gt l i) <;> rfl
 ·intro rec i hi
  unfold Dimpl_open_0
  simp only[lt_dec hi,frk_t,lget_nat,gt_some hi,Option.bind_some,lsl_take l i (by omega)]
  rw[iRoom (l.take i) (gt l i) (fun q hq=>hl q (List.mem_of_mem_take hq)) (hl _ (gt_mem hi)) (by rw[List.length_take];omega) n (by rw[List.length_take];omega),Option.bind_some,Bool.not_not,frk_cond]
 ·intro rec
  unfold Dimpl_open_0
  simp only[lt_self,frk_f]
def mnv (q:Spot)(t:Int)(l:List Pl):Int:=l.foldl (fun t p=>minN t [sgn (at4 p q)]) t
theorem mn_sgn(t x:Int):minN t [x]=if x<t then x else t:=rfl
open Classical in
theorem mnv_val(q:Spot):∀(l:List Pl) (t:Int),-1≤t→t≤1→mnv q t l=if t<0∨∃r∈l,at4 r q<0 then -1 else if t≤0∨∃r∈l,at4 r q=0 then 0 else 1:=by
 intro l
 induction l with
 | nil =>
  intro t h1 h2
  show t=_
  by_cases h:t<0
  ·rw[if_pos (.inl h)];omega
  ·rw[if_neg (by simpa using (by omega:(0:Int)≤t))]
   by_cases h':t≤0
   ·rw[if_pos (.inl h')];omega
   ·rw[if_neg (by simpa using (by omega:(0:Int)<t))];omega
 | cons p l ih =>
  intro t h1 h2
  show mnv q (minN t [sgn (at4 p q)]) l=_
  have hs:sgn (at4 p q)=if at4 p q>0 then 1 else if at4 p q<0 then -1 else 0:=rfl
  have hm:=mn_sgn t (sgn (at4 p q))
  generalize hv:minN t [sgn (at4 p q)]=v at *
  rw[ih v (by rw[hm,hs];split <;> (try split) <;> (try split) <;> omega) (by rw[hm,hs];split <;> (try split) <;> (try split) <;> omega)]
  have e1:v<0↔t<0∨at4 p q<0:=by rw[hm,hs];split <;> (try split) <;> (try split) <;> omega
  have e2:v≤0↔t≤0∨at4 p q≤0:=by rw[hm,hs];split <;> (try split) <;> (try split) <;> omega
  by_cases c1:t<0∨∃r∈p::l,at4 r q<0
  ·rw[if_pos c1,if_pos]
   rcases c1 with c | ⟨r,hr,c⟩
   ·exact .inl (e1.2 (.inl c))
   ·rcases List.mem_cons.1 hr with rfl | hr
    ·exact .inl (e1.2 (.inr c))
    ·exact .inr ⟨r,hr,c⟩
  ·have c1':¬(v<0∨∃r∈l,at4 r q<0):=by
    rintro(c | ⟨r,hr,c⟩)
    ·rcases e1.1 c with c | c
     ·exact c1 (.inl c)
     ·exact c1 (.inr ⟨p,List.mem_cons_self,c⟩)
    ·exact c1 (.inr ⟨r,List.mem_cons_of_mem _ hr,c⟩)
   have hp:¬at4 p q<0:=fun c=>c1 (.inr ⟨p,List.mem_cons_self,c⟩)
   rw[if_neg c1,if_neg c1']
   by_cases c2:t≤0∨∃r∈p::l,at4 r q=0
   ·rw[if_pos c2,if_pos]
    rcases c2 with c | ⟨r,hr,c⟩
    ·exact .inl (e2.2 (.inl c))
    ·rcases List.mem_cons.1 hr with rfl | hr
     ·exact .inl (e2.2 (.inr (by omega)))
     ·exact .inr ⟨r,hr,c⟩
   ·rw[if_neg c2,if_neg]
    rintro(c | ⟨r,hr,c⟩)
    ·rcases e2.1 c with c | c
     ·exact c2 (.inl c)
     ·exact c2 (.inr ⟨p,List.mem_cons_self,by omega⟩)
    ·exact c2 (.inr ⟨r,List.mem_cons_of_mem _ hr,c⟩)
theorem icStep(n:Nat)(l:List Pl)(t9:Int)(x y z w:Int)(rec0:(Int×Int)→Option Int)(t i:Int) :
  Dimpl_inCell_0 n l t9 x y z w rec0 (t,i)=frk (decide (i<t9)) ((lget l i).bind fun v0=>(Dimpl_sideAt v0 (Spot.mk x y z w)).bind fun v1=>rec0 (minN t [v1],w64 (i+1))) (some t):=rfl
theorem icLoop(n:Nat)(l:List Pl)(q:Spot)(hl:∀p∈l,PB p)(hq:SpOk q)(hb:l.length≤big):∀(k i m:Nat) (t:Int),i+k=l.length→k<m →
  loopN (Dimpl_inCell_0 n l (l.length:Int) q.X q.Y q.Z q.W) m (t,(i:Int))=some (mnv q t (l.drop i)):=by
 intro k
 induction k with
 | zero =>
  intro i m t h hm
  obtain⟨m,rfl⟩:∃j,m=j+1:=⟨m-1,by omega⟩
  rw[loop_suc,icStep,dec_f (by omega),frk_f,List.drop_eq_nil_of_le (by omega)];rfl
 | succ k ih =>
  intro i m t h hm
  obtain⟨m,rfl⟩:∃j,m=j+1:=⟨m-1,by omega⟩
  have hi:i<l.length:=by omega
  have hs:=iSideR (hl l[i] (List.getElem_mem hi)) hq
  have hs':Dimpl_sideAt l[i] (Spot.mk q.X q.Y q.Z q.W)=_:=hs
  rw[loop_suc,icStep,dec_t (by omega),frk_t,lget_nat,List.getElem?_eq_getElem hi,Option.bind_some,hs',Option.bind_some,w64_suc (by omega),List.drop_eq_getElem_cons hi]
  exact ih (i+1) m _ (by omega) (by omega)
theorem iInCell{l:List Pl}(hp:∀p∈l,pOk p=true)(hl:l.length≤24)(ho:opB l=true){q:Spot}(hq:SpOk q):Ev fun n=>Dimpl_InCell n l q=some (mnv q 1 l):=by
 have hb:l.length≤big:=by unfold big;omega
 refine(((iPlanesC l hb).and (iOpenC l (fun r hr=>pOk_PB (hp r hr)) hb)).and (e_ge 1000000001)).mono fun n ⟨⟨h1,h2⟩,hn⟩=>?_
 have ha:l.all pOk=true:=List.all_eq_true.2 hp
 have e:=icLoop n l q (fun r hr=>pOk_PB (hp r hr)) hq hb l.length 0 n 1 (by omega) (by omega)
 have hO:Dimpl_Open n l=some true:=by
  unfold Dimpl_Open
  rw[dec_t (by omega),frk_t,h1,ha,Option.bind_some,frk_t,h2,ho];rfl
 unfold Dimpl_InCell Dimpl_InCell_0
 rw[iSpOk hq hn,Option.bind_some,Bool.not_true,frk_f,hO,Option.bind_some,Bool.not_true,frk_f]
 unfold Dimpl_inCell
 show ((loopN (Dimpl_inCell_0 n l (l.length:Int) q.X q.Y q.Z q.W) n (1,((0:Nat):Int))).bind _)=_
 rw[e];rfl
end Evl.T
namespace Evl.T
open Go Evl
theorem srtP_len(l:List Pl):(srtP l).length=l.length:=List.length_mergeSort _
theorem orD4'(m:Nat)(a b c d:Int):Dcmp_Or (m+9) [a,b,c,d]=some (or4 a b c d):=by
 unfold Dcmp_Or or4
 by_cases ha:a=0
 ·by_cases hb:b=0
  ·by_cases hc:c=0
   ·by_cases hd:d=0
    ·subst ha hb hc hd;simp[loopN,Dcmp_Or_0,frk,lget,w64,IntKind.wrap,IntKind.bits,IntKind.signed]
    ·subst ha hb hc;simp[loopN,Dcmp_Or_0,frk,lget,w64,IntKind.wrap,IntKind.bits,IntKind.signed,hd]
   ·subst ha hb;simp[loopN,Dcmp_Or_0,frk,lget,w64,IntKind.wrap,IntKind.bits,IntKind.signed,hc]
  ·subst ha;simp[loopN,Dcmp_Or_0,frk,lget,w64,IntKind.wrap,IntKind.bits,IntKind.signed,hb]
 ·simp[loopN,Dcmp_Or_0,frk,lget,ha]
def gtr (p:Pl):Pl:=if cmpP (flp p) p>0 then flp p else p
theorem iGreater{p:Pl}(h:PB p):Ev fun n=>Dimpl_greater n p=some (gtr p):=by
 refine(e_ge 9).mono fun n hn=>?_
 obtain⟨m,rfl⟩:∃m,n=m+9:=⟨n-9,by omega⟩
 unfold Dimpl_greater Dimpl_CmpPlane gtr
 rw[iFlip p h,Option.bind_some]
 simp only[cmpD,Option.bind_some,orD4']
 unfold cmpP
 by_cases hc:or4 (cmpI (flp p).A p.A) (cmpI (flp p).B p.B) (cmpI (flp p).C p.C) (cmpI (flp p).D p.D)>0
 ·rw[dec_t hc,frk_t,if_pos hc]
 ·rw[dec_f hc,frk_f,if_neg hc]
inductive Pls:Sol→List Pl→Prop
 | leaf {i p}:Pls (.mk i p []) []
 | node {i p a b la lb}:Pls a la→Pls b lb→Pls (.mk i p [a,b]) ((la++[gtr p])++lb)
theorem plsStep(n:Nat)(self:Sol→Option (List Pl))(i:Bool)(p:Pl)(k:List Sol):Dimpl_Solid_planes_b n self (.mk i p k)=frk ((k.length:Int)==0) (some []) ((lget k 0).bind fun v1=>(self v1).bind fun v2=>(Dimpl_greater n p).bind fun v3=>chk (apB 32 (v2.length+1)) ((lget k 1).bind fun v5=>(self v5).bind fun v6=>chk (apB 32 ((v2++[v3]).length+v6.length)) (some ((v2++[v3])++v6)))):=rfl
theorem plsOk{s:Sol}{l:List Pl}(h:Rt s l):nod s≤300→∃L,Pls s L∧L.length=nod s∧E2 fun n m=>loopN (Dimpl_Solid_planes_b n) m s=some L:=by
 induction h with
 | @leaf i p _ _=>exact fun _=>⟨[],.leaf,(nod_leaf _ _).symm,E2.suc (E2.of fun n m=>by rw[loop_suc,plsStep];rfl)⟩
 | @node p a b _ hp _ _ _ _ _ iha ihb =>
  intro hn
  rw[nod2] at hn
  obtain⟨la,a1,a2,a3⟩:=iha (by omega)
  obtain⟨lb,b1,b2,b3⟩:=ihb (by omega)
  refine⟨_,.node a1 b1,by rw[nod2];simp;omega,E2.suc (((a3.and b3).and ((iGreater (pOk_PB hp)).e2)).mono fun n m ⟨⟨h2,h4⟩,h5⟩=>?_)⟩
  rw[loop_suc,plsStep,show ((([a,b]:List Sol).length:Int)==0)=false from rfl,frk_f]
  show ((some a).bind _)=_
  rw[Option.bind_some,h2,Option.bind_some,h5,Option.bind_some,chk_eq (ap32 (by omega))]
  show ((some b).bind _)=_
  rw[Option.bind_some,h4,Option.bind_some,chk_eq (ap32 (by simp;omega))]
open Classical in
theorem planesOfOk{s:Sol}(h:Right s):∃L,Pls s L∧L.length=nod s∧Ev fun n=>Dimpl_Solid_planesOf n s=some (once (srtP L))∧Dimpl_PlanesOf n s=some (once (srtP L)):=by
 obtain⟨L,h1,h2,h3⟩:=plsOk h.1 h.2
 have hl:L.length<lim62:=by have:=h.2;unfold lim62;omega
 have h4:Ev fun n=>Dimpl_Solid_planesOf n s=some (once (srtP L)):=h3.ev.mono fun n h=>by
  unfold Dimpl_Solid_planesOf Dimpl_Solid_planes Dimpl_Solid_planesOf_0 DsrtPl Dimpl_Solid_planesOf_1 DcutPl
  rw[h,Option.bind_some,if_pos hl,Option.bind_some,if_pos (by rw[srtP_len];exact hl)];rfl
 refine⟨L,h1,h2,(h4.and (iSolidOk s)).mono fun n ⟨g1,g2⟩=>⟨g1,?_⟩⟩
 unfold Dimpl_PlanesOf
 rw[g2,Option.bind_some,decide_eq_true h]
 show frk false _ _=_
 rw[frk_f,g1];rfl
inductive Aln(G:Pl→Prop):Sol→Prop
 | leaf {i p}:Aln G (.mk i p [])
 | node {i p a b}:G p→Aln G a→Aln G b→Aln G (.mk i p [a,b])
theorem Pls.has{s:Sol}{l:List Pl}(h:Pls s l){G:Pl→Prop}(ha:Aln G s):∀q∈l,∃p,G p∧q=gtr p:=by
 induction h with
 | leaf=>simp
 | node _ _ iha ihb =>
  cases ha with
  | node hp h1 h2 =>
   intro q hq
   simp only[List.mem_append,List.mem_singleton] at hq
   rcases hq with (hq | rfl) | hq
   ·exact iha h1 q hq
   ·exact⟨_,hp,rfl⟩
   ·exact ihb h2 q hq
end Evl.T
namespace Evl.T
open Go Evl
theorem iNodesStep(n:Nat)(self:Sol→Option Int)(i:Bool)(p:Pl)(k:List Sol):Dimpl_Solid_nodes_b n self (.mk i p k)=frk ((k.length:Int)==0) (some 0) ((lget k 0).bind fun v1=>(self v1).bind fun v2=>(lget k 1).bind fun v3=>(self v3).bind fun v4=>some (w64 ((w64 (1+v2))+v4))):=rfl
theorem iNodes{s:Sol}{path:List Pl}(h:Rt s path):nod s≤1000000→E2 fun n m=>loopN (Dimpl_Solid_nodes_b n) m s=some ((nod s:Nat):Int):=by
 induction h with
 | @leaf i p path hz=>intro _;exact E2.suc (E2.of fun n m=>by rw[loop_suc,iNodesStep,nod_leaf];rfl)
 | @node p a b path h1 h2 h3 h4 _ _ iha ihb =>
  intro hn
  rw[nod2] at hn
  refine E2.suc (((iha (by omega)).and (ihb (by omega))).mono fun n m ⟨h1,h2⟩=>?_)
  rw[loop_suc,iNodesStep,show ((([a,b]:List Sol).length:Int)==0)=false from rfl,frk_f]
  show ((some a).bind _)=_
  rw[Option.bind_some,h1,Option.bind_some]
  show ((some b).bind _)=_
  rw[Option.bind_some,h2,Option.bind_some,w64_id (x:=1+((nod a:Nat):Int)) (by omega) (by omega),w64_id (by omega) (by omega),nod2]
  congr 1;omega
end Evl.T
namespace Evl.T
open Go Evl
structure Cel(c:List Pl):Prop where
 op:Opn c
 ok:∀q∈c,pOk q=true
 len:c.length≤24
theorem ok_flp{p:Pl}(h:pOk p=true):pOk (flp p)=true:=by
 have hp:=pOk_PB h
 unfold pOk at h ⊢
 revert h
 obtain⟨a,b,c,d⟩:=p
 obtain⟨h1,h2,h3,h4⟩:=hp
 unfold B at h1 h2 h3 h4
 simp only at h1 h2 h3 h4
 unfold flp
 simp only[Int.zero_sub,Int.natAbs_neg,Bool.and_eq_true,Bool.or_eq_true,decide_eq_true_eq,bne_iff_ne,ne_eq,beq_iff_eq,rIn_iff,Int.neg_eq_zero]
 omega
theorem Cel.snoc{c:List Pl}{p:Pl}(h:Cel c)(hl:c.length<24)(hp:pOk p=true)(hw:wth c p=false):Cel (c++[p]) :=
 ⟨.snoc h.op hw,fun q hq=>by
  rcases List.mem_append.1 hq with hq | hq
  ·exact h.ok q hq
  ·rw[List.mem_singleton.1 hq];exact hp,by rw[List.length_append,List.length_singleton];omega⟩
theorem opB_of{l:List Pl}(h:Opn l):opB l=true:=by
 unfold opB
 simp only[Bool.not_eq_true',List.any_eq_false]
 intro i hi
 have hi:i<l.length:=by simpa using hi
 have e:l=l.take i++gt l i::l.drop (i+1):=by
  have:=List.take_append_drop i l
  rw[List.drop_eq_getElem_cons hi] at this
  have g:gt l i=l[i]:=by have:=gt_some hi;rw[List.getElem?_eq_getElem hi] at this;exact(Option.some.inj this).symm
  rw[g];exact this.symm
 have:=cnd_of h _ _ _ e (l.take i) (List.Sublist.refl _)
 simpa using this
theorem aB24{n:Nat}(h:n≤1000000):apB 24 n=true:=by
 unfold apB;simp only[Bool.and_eq_true,decide_eq_true_eq];omega
theorem cln{l:List Pl}(h:l.length≤1000):Dslices_Clone l=some l:=by
 unfold Dslices_Clone
 rw[chk_eq (ap32 (by omega))];rfl
theorem iClStep(n:Nat)(self:(Sol×Bool×(List Pl))→Option (List (List Pl)))(s:Sol)(b:Bool)(path:List Pl) :
  Dimpl_Solid_cells_b n self (s,b,path)=(Dimpl_Solid_isLeaf s).bind fun v0=>frk v0 (frk (s.inn==b) ((Dslices_Clone path).bind fun v1=>some [v1]) (some [])) ((lget s.kids 0).bind fun v2=>(Dimpl_with path s.pl).bind fun v3=>(self (v2,b,v3)).bind fun v4=>(lget s.kids 1).bind fun v5=>(Dimpl_flip s.pl).bind fun v6=>(Dimpl_with path v6).bind fun v7=>(self (v5,b,v7)).bind fun v8=>chk (apB 24 (v4.length+v8.length)) (some (v4++v8))):=rfl
theorem dpStep(n:Nat)(self:Sol→Option Int)(s:Sol):Dimpl_Solid_depth_b n self s=(Dimpl_Solid_isLeaf s).bind fun v0=>frk v0 (some 0) ((lget s.kids 0).bind fun v1=>(self v1).bind fun v2=>(lget s.kids 1).bind fun v3=>(self v3).bind fun v4=>some (w64 (1+(maxN v2 [v4])))):=rfl
def strict(q:Spot)(c:List Pl):Bool:=c.all fun p=>decide (0<at4 p q)
def cnt (q:Spot)(L:List (List Pl)):Nat:=(L.filter (strict q)).length
theorem cnt_app(q:Spot)(L M:List (List Pl)):cnt q (L++M)=cnt q L+cnt q M:=by unfold cnt;rw[List.filter_append,List.length_append]
theorem cnt_cons(q:Spot)(p:Pl)(L:List (List Pl)):cnt q (L.map (p::·))=if 0<at4 p q then cnt q L else 0:=by
 unfold cnt
 induction L with
 | nil=>simp
 | cons c L ih =>
  rw[List.map_cons,List.filter_cons,List.filter_cons]
  have e:strict q (p::c)=(decide (0<at4 p q)&&strict q c):=by unfold strict;rw[List.all_cons]
  rw[e]
  by_cases h:0<at4 p q
  ·rw[decide_eq_true h,Bool.true_and,if_pos h]
   rw[if_pos h] at ih
   split
   ·rw[List.length_cons,List.length_cons,ih]
   ·exact ih
  ·rw[decide_eq_false h,Bool.false_and,if_neg h]
   rw[if_neg h] at ih
   simpa using ih
theorem pre_map(path:List Pl)(p:Pl)(L:List (List Pl)):(L.map (p::·)).map (path++·)=L.map ((path++[p])++·):=by
 rw[List.map_map];congr 1;funext c;simp
theorem cellAll{s:Sol}{path:List Pl}(h:Rt s path){q:Spot}(hq:SpOk q):Cel path→nod s≤1000→∃(L1 L2:List (List Pl)) (d a b:Nat),
  (∀c∈L1++L2,Cel (path++c)∧c.length≤d)∧path.length+d≤24∧L1.length+L2.length=nod s+1∧1≤a+b∧a+b≤nod s+1∧cnt q L1+cnt q L2≤1∧(cnt q L1+cnt q L2=1→a+b=1) ∧
  E2 fun n m=>(loopN (Dimpl_Solid_cells_b n) m (s,true,path)=some (L1.map (path++·))∧loopN (Dimpl_Solid_cells_b n) m (s,false,path)=some (L2.map (path++·)))∧loopN (Dimpl_Solid_depth_b n) m s=some (d:Int)∧loopN (Dimpl_Solid_around_b n) m (s,q)=some ((a:Int),(b:Int)):=by
 induction h with
 | @leaf i p path _ =>
  intro hc _
  have hl:=hc.len
  have e1:Dslices_Clone path=some path:=cln (by omega)
  have c0:cnt q [[]]=1:=rfl
  have c1:cnt q []=0:=rfl
  have hm:([[]]:List (List Pl)).map (path++·)=[path]:=by simp
  cases i with
  | true =>
   refine⟨[[]],[],0,1,0,fun c h=>?_,by omega,by rw[nod_leaf];rfl,by omega,by omega,by rw[c0,c1];omega,fun _=>rfl,E2.suc (E2.of fun n m=>⟨⟨?_,?_⟩,?_,?_⟩)⟩
   ·simp only[List.append_nil,List.mem_singleton] at h;subst h;rw[List.append_nil];exact⟨hc,Nat.le_refl _⟩
   ·rw[loop_suc,iClStep,hm];show ((Dslices_Clone path).bind fun v1=>some [v1])=_;rw[e1];rfl
   ·rw[loop_suc,iClStep];rfl
   ·rw[loop_suc,dpStep];rfl
   ·rw[loop_suc];rfl
  | false =>
   refine⟨[],[[]],0,0,1,fun c h=>?_,by omega,by rw[nod_leaf];rfl,by omega,by omega,by rw[c0,c1];omega,fun _=>rfl,E2.suc (E2.of fun n m=>⟨⟨?_,?_⟩,?_,?_⟩)⟩
   ·simp only[List.nil_append,List.mem_singleton] at h;subst h;rw[List.append_nil];exact⟨hc,Nat.le_refl _⟩
   ·rw[loop_suc,iClStep];rfl
   ·rw[loop_suc,iClStep,hm];show ((Dslices_Clone path).bind fun v1=>some [v1])=_;rw[e1];rfl
   ·rw[loop_suc,dpStep];rfl
   ·rw[loop_suc];rfl
 | @node p x y path hp hl h1 h2 hx hy ihx ihy =>
  intro hc hn
  have hpb:=pOk_PB hp
  rw[nod2] at hn
  obtain⟨A1,A2,da,a1,b1,ka,la,na,oa,ua,ca,wa,ea⟩:=ihx (hc.snoc hl hp h1) (by omega)
  obtain⟨C1,C2,dc,a2,b2,kc,lc,nc,oc,uc,cc,wc,ec⟩:=ihy (hc.snoc hl (ok_flp hp) h2) (by omega)
  have hv:=iSideR (pOk_PB hp) hq
  have hge:=sgn_ge (at4 p q)
  have hle:=sgn_le (at4 p q)
  have hfl:=at_flp p q
  have kin:∀c,c∈(A1.map (p::·)++C1.map (flp p::·))++(A2.map (p::·)++C2.map (flp p::·))→Cel (path++c)∧c.length≤max da dc+1:=fun c h=>by
   have ia:∀e∈A1++A2,Cel (path++p::e)∧(p::e).length≤max da dc+1:=fun e he=>by
    obtain⟨g1,g2⟩:=ka e he
    rw[show path++p::e=path++[p]++e by simp]
    exact⟨g1,by rw[List.length_cons];omega⟩
   have ic:∀e∈C1++C2,Cel (path++flp p::e)∧(flp p::e).length≤max da dc+1:=fun e he=>by
    obtain⟨g1,g2⟩:=kc e he
    rw[show path++flp p::e=path++[flp p]++e by simp]
    exact⟨g1,by rw[List.length_cons];omega⟩
   simp only[List.mem_append,List.mem_map] at h ia ic
   rcases h with (⟨e,he,rfl⟩ | ⟨e,he,rfl⟩) | (⟨e,he,rfl⟩ | ⟨e,he,rfl⟩)
   ·exact ia e (.inl he)
   ·exact ic e (.inl he)
   ·exact ia e (.inr he)
   ·exact ic e (.inr he)
  have hd24:path.length+(max da dc+1)≤24:=by rw[List.length_append,List.length_singleton] at la lc;omega
  have hlen:(A1.map (p::·)++C1.map (flp p::·)).length+(A2.map (p::·)++C2.map (flp p::·)).length=nod (.mk false p [x,y])+1:=by
   rw[nod2];simp only[List.length_append,List.length_map];omega
  have hcn:cnt q (A1.map (p::·)++C1.map (flp p::·))+cnt q (A2.map (p::·)++C2.map (flp p::·))=(if 0<at4 p q then cnt q A1+cnt q A2 else 0)+(if at4 p q<0 then cnt q C1+cnt q C2 else 0):=by
   rw[cnt_app,cnt_app,cnt_cons,cnt_cons,cnt_cons,cnt_cons,hfl]
   by_cases g1:0<at4 p q
   ·simp only[if_pos g1,if_neg (show ¬0<0-at4 p q by omega),if_neg (show ¬at4 p q<0 by omega)];omega
   ·by_cases g2:at4 p q<0
    ·simp only[if_neg g1,if_pos (show 0<0-at4 p q by omega),if_pos g2];omega
    ·simp only[if_neg g1,if_neg (show ¬0<0-at4 p q by omega),if_neg g2]
  have hcell:∀(n m:Nat) (b:Bool) (A C:List (List Pl)),loopN (Dimpl_Solid_cells_b n) m (x,b,path++[p])=some (A.map ((path++[p])++·))→loopN (Dimpl_Solid_cells_b n) m (y,b,path++[flp p])=some (C.map ((path++[flp p])++·))→A.length+C.length≤2000→loopN (Dimpl_Solid_cells_b n) (m+1) (.mk false p [x,y],b,path)=some ((A.map (p::·)++C.map (flp p::·)).map (path++·)):=fun n m b A C g1 g2 g3=>by
   rw[loop_suc,iClStep]
   show ((Dimpl_with path p).bind fun v3=>(loopN (Dimpl_Solid_cells_b n) m (x,b,v3)).bind fun v4=>(some y).bind fun v5=>(Dimpl_flip p).bind fun v6=>(Dimpl_with path v6).bind fun v7=>(loopN (Dimpl_Solid_cells_b n) m (v5,b,v7)).bind fun v8=>chk (apB 24 (v4.length+v8.length)) (some (v4++v8)))=_
   rw[iPath _ _ (by omega),Option.bind_some,g1,Option.bind_some,Option.bind_some,iFlip p hpb,Option.bind_some,iPath _ _ (by omega),Option.bind_some,g2,Option.bind_some,chk_eq (aB24 (by simp only[List.length_map];omega)),List.map_append,pre_map,pre_map]
  have hdep:∀(n m:Nat),loopN (Dimpl_Solid_depth_b n) m x=some (da:Int)→loopN (Dimpl_Solid_depth_b n) m y=some (dc:Int)→loopN (Dimpl_Solid_depth_b n) (m+1) (.mk false p [x,y])=some ((max da dc+1:Nat):Int):=fun n m g1 g2=>by
   rw[loop_suc,dpStep]
   show ((loopN (Dimpl_Solid_depth_b n) m x).bind fun v2=>(some y).bind fun v3=>(loopN (Dimpl_Solid_depth_b n) m v3).bind fun v4=>some (w64 (1+(maxN v2 [v4]))))=_
   rw[g1,Option.bind_some,Option.bind_some,g2,Option.bind_some]
   have e:maxN (da:Int) [(dc:Int)]=((max da dc:Nat):Int):=by
    show (if (dc:Int)>(da:Int) then (dc:Int) else (da:Int))=_
    split <;> omega
   rw[e,w64_id (by omega) (by omega)]
   congr 1;omega
  have hstep:∀(n m:Nat),loopN (Dimpl_Solid_around_b n) (m+1) (.mk false p [x,y],q)=frk (decide (sgn (at4 p q)≥0)) ((loopN (Dimpl_Solid_around_b n) m (x,q)).bind fun v3=>Dimpl_Solid_around_0 n (loopN (Dimpl_Solid_around_b n) m) false p.A p.B p.C p.D [x,y] v3.1 v3.2 (decide (sgn (at4 p q)≤0)) q.X q.Y q.Z q.W) (Dimpl_Solid_around_0 n (loopN (Dimpl_Solid_around_b n) m) false p.A p.B p.C p.D [x,y] 0 0 (decide (sgn (at4 p q)≤0)) q.X q.Y q.Z q.W):=fun n m=>by
   have e:∀self:Sol×Spot→Option (Int×Int),Dimpl_Solid_around_b n self (.mk false p [x,y],q)=frk false (frk false (some (1,0)) (some (0,1))) ((Dimpl_sideAt p q).bind fun v1=>frk (decide (v1≥0)) ((self (x,q)).bind fun v3=>Dimpl_Solid_around_0 n self false p.A p.B p.C p.D [x,y] v3.1 v3.2 (decide (v1≤0)) q.X q.Y q.Z q.W) (Dimpl_Solid_around_0 n self false p.A p.B p.C p.D [x,y] 0 0 (decide (v1≤0)) q.X q.Y q.Z q.W)):=fun self=>rfl
   rw[loop_suc,e,frk_f,hv,Option.bind_some]
  have hend:∀(n m:Nat) (c d:Int) (t:Bool),Dimpl_Solid_around_0 n (loopN (Dimpl_Solid_around_b n) m) false p.A p.B p.C p.D [x,y] c d t q.X q.Y q.Z q.W=frk t ((loopN (Dimpl_Solid_around_b n) m (y,q)).bind fun v5=>some (w64 (c+v5.1),w64 (d+v5.2))) (some (c,d)):=fun n m c d t=>rfl
  have wz:∀{u v:Nat},u≤5000→v≤5000→w64 ((u:Int)+(v:Int))=((u+v:Nat):Int):=fun {u v} h1 h2=>by rw[w64_id (by omega) (by omega)];omega
  have fin:∀(a b:Nat),1≤a+b→a+b≤nod (.mk false p [x,y])+1→((if 0<at4 p q then cnt q A1+cnt q A2 else 0)+(if at4 p q<0 then cnt q C1+cnt q C2 else 0)≤1)→((if 0<at4 p q then cnt q A1+cnt q A2 else 0)+(if at4 p q<0 then cnt q C1+cnt q C2 else 0)=1→a+b=1) →
    (∀n m,loopN (Dimpl_Solid_around_b n) m (x,q)=some ((a1:Int),(b1:Int))→loopN (Dimpl_Solid_around_b n) m (y,q)=some ((a2:Int),(b2:Int))→loopN (Dimpl_Solid_around_b n) (m+1) (.mk false p [x,y],q)=some ((a:Int),(b:Int)))→_:=fun a b g1 g2 g3 g4 g5 =>
   (⟨A1.map (p::·)++C1.map (flp p::·),A2.map (p::·)++C2.map (flp p::·),max da dc+1,a,b,kin,hd24,hlen,g1,g2,by rw[hcn];exact g3,by rw[hcn];exact g4,
    E2.suc ((ea.and ec).mono fun n m ⟨⟨⟨e1,e2⟩,e3,e4⟩,⟨f1,f2⟩,f3,f4⟩=>⟨⟨hcell n m true A1 C1 e1 f1 (by omega),hcell n m false A2 C2 e2 f2 (by omega)⟩,hdep n m e3 f3,g5 n m e4 f4⟩)⟩:∃(L1 L2:List (List Pl)) (d a b:Nat),
     (∀c∈L1++L2,Cel (path++c)∧c.length≤d)∧path.length+d≤24∧L1.length+L2.length=nod (.mk false p [x,y])+1∧1≤a+b∧a+b≤nod (.mk false p [x,y])+1∧cnt q L1+cnt q L2≤1∧(cnt q L1+cnt q L2=1→a+b=1) ∧
     E2 fun n m=>(loopN (Dimpl_Solid_cells_b n) m (.mk false p [x,y],true,path)=some (L1.map (path++·))∧loopN (Dimpl_Solid_cells_b n) m (.mk false p [x,y],false,path)=some (L2.map (path++·)))∧loopN (Dimpl_Solid_depth_b n) m (.mk false p [x,y])=some (d:Int)∧loopN (Dimpl_Solid_around_b n) m (.mk false p [x,y],q)=some ((a:Int),(b:Int)))
  have hnn:nod (.mk false p [x,y])=1+(nod x+nod y):=nod2 _ _ _ _
  by_cases g1:0<at4 p q
  ·refine fin a1 b1 oa (by omega) (by rw[if_pos g1,if_neg (by omega)];omega) (by rw[if_pos g1,if_neg (by omega)];simpa using wa) fun n m e1 e2=>?_
   rw[hstep,dec_t (show sgn (at4 p q)≥0 by omega),dec_f (show ¬sgn (at4 p q)≤0 by omega),frk_t,e1,Option.bind_some,hend,frk_f]
  ·by_cases g2:at4 p q<0
   ·refine fin a2 b2 oc (by omega) (by rw[if_neg g1,if_pos g2];omega) (by rw[if_neg g1,if_pos g2];simpa using wc) fun n m e1 e2=>?_
    have z1:w64 ((0:Int)+(a2:Int))=(a2:Int):=by rw[w64_id (by omega) (by omega)];omega
    have z2:w64 ((0:Int)+(b2:Int))=(b2:Int):=by rw[w64_id (by omega) (by omega)];omega
    rw[hstep,dec_f (show ¬sgn (at4 p q)≥0 by omega),dec_t (show sgn (at4 p q)≤0 by omega),frk_f,hend,frk_t,e2,Option.bind_some,z1,z2]
   ·refine fin (a1+a2) (b1+b2) (by omega) (by omega) (by rw[if_neg g1,if_neg g2];omega) (by rw[if_neg g1,if_neg g2];intro h;omega) fun n m e1 e2=>?_
    rw[hstep,dec_t (show sgn (at4 p q)≥0 by omega),dec_t (show sgn (at4 p q)≤0 by omega),frk_t,e1,Option.bind_some,hend,frk_t,e2,Option.bind_some,wz (by omega) (by omega),wz (by omega) (by omega)]
end Evl.T
namespace Evl.T
open Go Evl
theorem big_small{l:List Int}(h:l.length≤1048576):Dlaws_big l=some false:=by unfold Dlaws_big;rw[dec_f (by omega)]
theorem big_big{l:List Int}(h:¬l.length≤1048576):Dlaws_big l=some true:=by unfold Dlaws_big;rw[dec_t (by omega)]
theorem rt_lensC{s:Sol}{path:List Pl}(h:Rt s path):Lens s:=by
 induction h with
 | leaf _=>exact .mk (by simp) (by simp)
 | node _ _ _ _ _ _ iha ihb =>
  refine .mk (by simp[big]) (fun x hx=>?_)
  simp only[List.mem_cons,List.not_mem_nil,or_false] at hx
  rcases hx with rfl | rfl
  ·exact iha
  ·exact ihb
theorem strict_mnv(q:Spot)(c:List Pl):(mnv q 1 c==1)=strict q c:=by
 rw[mnv_val q c 1 (by omega) (by omega),Bool.eq_iff_iff,beq_iff_eq]
 unfold strict
 rw[List.all_eq_true]
 constructor
 ·intro h r hr
  rw[decide_eq_true_iff]
  by_cases h1:(1:Int)<0∨∃r∈c,at4 r q<0
  ·rw[if_pos h1] at h;omega
  ·rw[if_neg h1] at h
   by_cases h2:(1:Int)≤0∨∃r∈c,at4 r q=0
   ·rw[if_pos h2] at h;omega
   ·have g1:¬at4 r q<0:=fun e=>h1 (.inr ⟨r,hr,e⟩)
    have g2:¬at4 r q=0:=fun e=>h2 (.inr ⟨r,hr,e⟩)
    omega
 ·intro h
  have g:∀r∈c,0<at4 r q:=fun r hr=>by have:=h r hr;simpa using this
  rw[if_neg,if_neg]
  ·rintro(e | ⟨r,hr,e⟩)
   ·omega
   ·have:=g r hr;omega
  ·rintro(e | ⟨r,hr,e⟩)
   ·omega
   ·have:=g r hr;omega
theorem openOk{c:List Pl}(h:Cel c):Ev fun n=>Dimpl_Open n c=some true:=by
 have hl:=h.len
 have hb:c.length≤big:=by unfold big;omega
 refine((iPlanesC c hb).and (iOpenC c (fun r hr=>pOk_PB (h.ok r hr)) hb)).mono fun n ⟨h1,h2⟩=>?_
 unfold Dimpl_Open
 rw[dec_t (by omega),frk_t,h1,List.all_eq_true.2 h.ok,Option.bind_some,frk_t,h2,opB_of h.op];rfl
theorem fcStep(n:Nat)(s:Sol)(q:Spot)(rec0:(Int×Int×List (List Pl))→Option Bool)(t8 t9:Int)(l:List (List Pl)) :
  Dlaws_FnCells_2 n s.inn s.pl.A s.pl.B s.pl.C s.pl.D s.kids q.X q.Y q.Z q.W rec0 (t8,t9,l)=frk (decide (t9<(l.length:Int))) ((lget l t9).bind fun v6=>(Dimpl_Open n v6).bind fun v7=>frk (!v7) (some false) ((lget l t9).bind fun v8=>(Dimpl_DepthOf n (Sol.mk s.inn (Pl.mk s.pl.A s.pl.B s.pl.C s.pl.D) s.kids)).bind fun v9=>frk (decide ((v8.length:Int)>v9)) (some false) ((lget l t9).bind fun v10=>(Dimpl_InCell n v10 q).bind fun v11=>frk (v11==1) (rec0 (w64 (t8+1),w64 (t9+1),l)) (rec0 (t8,w64 (t9+1),l))))) (Dlaws_FnCells_1 n t8 s.inn s.pl.A s.pl.B s.pl.C s.pl.D s.kids q.X q.Y q.Z q.W l):=rfl
theorem fcLoop(n:Nat)(s:Sol)(q:Spot)(L:List (List Pl))(d:Nat)(hL:L.length≤5000)(hd:Dimpl_DepthOf n s=some (d:Int))
  (H:∀c∈L,c.length≤d∧Dimpl_Open n c=some true∧Dimpl_InCell n c q=some (mnv q 1 c)) (hf:Dlaws_FnCells_1 n (cnt q L:Int) s.inn s.pl.A s.pl.B s.pl.C s.pl.D s.kids q.X q.Y q.Z q.W L=some true) :
  ∀(k m i:Nat),i+k=L.length→k<m→loopN (Dlaws_FnCells_2 n s.inn s.pl.A s.pl.B s.pl.C s.pl.D s.kids q.X q.Y q.Z q.W) m ((cnt q (L.take i):Int),(i:Int),L)=some true:=by
 intro k
 induction k with
 | zero =>
  intro m i hi hm
  obtain⟨m,rfl⟩:∃j,m=j+1:=⟨m-1,by omega⟩
  rw[loop_suc,fcStep,dec_f (by omega),frk_f,List.take_of_length_le (by omega)];exact hf
 | succ k ih =>
  intro m i hi hm
  obtain⟨m,rfl⟩:∃j,m=j+1:=⟨m-1,by omega⟩
  have hl:i<L.length:=by omega
  obtain⟨g1,g2,g3⟩:=H L[i] (List.getElem_mem hl)
  have ht:L.take (i+1)=L.take i++[L[i]]:=by rw[List.take_add_one,List.getElem?_eq_getElem hl];rfl
  have hc:cnt q (L.take (i+1))=cnt q (L.take i)+(if strict q L[i] then 1 else 0):=by
   rw[ht,cnt_app];congr 1;unfold cnt;rw[List.filter_cons];split <;> rfl
  have hle:cnt q (L.take i)≤5000:=by
   unfold cnt
   have h1:=List.length_filter_le (strict q) (L.take i)
   rw[List.length_take] at h1;omega
  have r:=ih m (i+1) (by omega) (by omega)
  rw[loop_suc,fcStep,dec_t (by omega),frk_t,lget_nat,List.getElem?_eq_getElem hl,Option.bind_some,g2,Option.bind_some,Bool.not_true,frk_f,Option.bind_some,sol_eq',hd,Option.bind_some,dec_f (by omega),frk_f,Option.bind_some,g3,Option.bind_some,strict_mnv,w64_suc (by unfold big;omega)]
  rw[hc] at r
  cases hs:strict q L[i] with
  | true=>rw[hs,if_pos rfl] at r;rw[frk_t,w64_suc (by unfold big;omega)];exact r
  | false=>rw[hs,if_neg (by simp)] at r;rw[frk_f,w64_suc (by unfold big;omega)];exact r
open Classical in
theorem plain_FnCells{F:Int→Prop}(l:List Int)(_:l.length≤maxLen∧∀x∈l,F x):∃n,Dlaws_FnCells n l=some true:=by
 by_cases hb:l.length≤1048576
 ·obtain⟨s,q,hs,-,hq,eD⟩:=drawS l hb
  have hn:=hs.2
  obtain⟨L1,L2,d,a,b,h1,h2,h3,h4,h5,h6,h7,hE⟩:=cellAll hs.1 hq ⟨.nil,by simp,by simp⟩ (by omega)
  obtain⟨P,p1,p2,p3⟩:=planesOfOk hs
  have e0:∀L:List (List Pl),L.map (([]:List Pl)++·)=L:=fun L=>by simp
  have hC:Ev fun n=>∀c∈L1++L2,Dimpl_Open n c=some true∧Dimpl_InCell n c q=some (mnv q 1 c):=Ev.all fun c hc=>by
   have g:=(h1 c hc).1
   rw[List.nil_append] at g
   exact(openOk g).and (iInCell g.ok g.len (opB_of g.op) hq)
  obtain⟨n,hN⟩:=(eD.and (hE.ev.and (p3.and hC))).and ((iSolidOk s).and ((iSame s (rt_lensC hs.1)).ev.and ((iNodes hs.1 (by omega)).ev.and (e_ge 1000010001))))
  obtain⟨⟨g0,⟨⟨g1,g2⟩,g3,g4⟩,⟨-,g5⟩,g6⟩,g7,g8,g9,hn'⟩:=hN n (Nat.le_refl n)
  rw[decide_eq_true hs] at g7
  rw[e0] at g1 g2
  have hT:Dimpl_Cells n s true=some L1:=by unfold Dimpl_Cells Dimpl_Solid_cells;rw[g7,Option.bind_some,Bool.not_true,frk_f,g1];rfl
  have hF:Dimpl_Cells n s false=some L2:=by unfold Dimpl_Cells Dimpl_Solid_cells;rw[g7,Option.bind_some,Bool.not_true,frk_f,g2];rfl
  have hD:Dimpl_DepthOf n s=some (d:Int):=by unfold Dimpl_DepthOf Dimpl_Solid_depth;rw[g7,Option.bind_some,Bool.not_true,frk_f,g3];rfl
  have hNo:Dimpl_NodesOf n s=some (nod s:Int):=by unfold Dimpl_NodesOf Dimpl_Solid_nodes;rw[g7,Option.bind_some,Bool.not_true,frk_f,g9];rfl
  have hA:Dimpl_Around n s q=some ((a:Int),(b:Int)):=by
   unfold Dimpl_Around
   rw[iSpOk hq (by omega),Option.bind_some,Bool.not_true,frk_f,g7,Option.bind_some]
   unfold Dimpl_Around_0 Dimpl_Solid_around
   show frk false _ ((loopN (Dimpl_Solid_around_b n) n (Sol.mk s.inn (Pl.mk s.pl.A s.pl.B s.pl.C s.pl.D) s.kids,q)).bind _)=_
   rw[frk_f,sol_eq',g4];rfl
  have hS:Dimpl_SameTree n s s=some true:=by
   have:=g8 s
   rw[decide_eq_true rfl] at this
   exact this
  have hPl:(once (srtP P)).length≤nod s:=by have:=once_len (srtP P);rw[srtP_len] at this;omega
  have hcnt:cnt q (L1++L2)=cnt q L1+cnt q L2:=cnt_app _ _ _
  have hll:(L1++L2).length=nod s+1:=by rw[List.length_append];omega
  have hf:Dlaws_FnCells_1 n (cnt q (L1++L2):Int) s.inn s.pl.A s.pl.B s.pl.C s.pl.D s.kids q.X q.Y q.Z q.W (L1++L2)=some true:=by
   unfold Dlaws_FnCells_1
   have hA':Dimpl_Around n s (Spot.mk q.X q.Y q.Z q.W)=_:=hA
   have w1:w64 ((nod s:Int)+1)=((L1++L2).length:Int):=by rw[hll,w64_id (by omega) (by omega)];omega
   have w2:w64 ((a:Int)+(b:Int))=((a+b:Nat):Int):=by rw[w64_id (by omega) (by omega)];omega
   simp only[sol_eq',hA',g7,hNo,hS,g5,Option.bind_some,frk_t,w1,w2,beq_self_eq_true,dec_t (show (cnt q (L1++L2):Int)≤1 by omega),dec_t (show ((a+b:Nat):Int)≥1 by omega),dec_t (show ((once (srtP P)).length:Int)≤(nod s:Int) by omega)]
   by_cases hz:cnt q (L1++L2)=0
   ·rw[show ((cnt q (L1++L2):Int)==0)=true by rw[hz];rfl,frk_t]
   ·rw[show ((cnt q (L1++L2):Int)==0)=false by rw[beq_eq_false_iff_ne];omega,frk_f]
    have:=h7 (by omega)
    rw[show (((a+b:Nat):Int)==1)=true by rw[this];rfl,frk_t]
  have hLoop:=fcLoop n s q (L1++L2) d (by omega) hD (fun c hc=>⟨(h1 c hc).2,g6 c hc⟩) hf (L1++L2).length n 0 (by omega) (by omega)
  refine⟨n,?_⟩
  unfold Dlaws_FnCells
  rw[big_small hb,Option.bind_some,frk_f,g0,Option.bind_some]
  show ((Dimpl_Cells n s true).bind _)=_
  rw[hT,Option.bind_some]
  show ((Dimpl_Cells n s false).bind _)=_
  rw[hF,Option.bind_some,chk_eq (aB24 (by omega)),chk_eq (aB24 (by simp only[List.nil_append];omega)),List.nil_append]
  exact hLoop
 ·refine⟨0,?_⟩
  unfold Dlaws_FnCells
  rw[big_big hb];rfl
end Evl.T
