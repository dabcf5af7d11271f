
/- Texts that belong together,joined. No condition. -/
import Derived.Test.YtjmnnljfhoeaaaaGreatJp
namespace Evl.T
open Go Evl
def vl:List Int→Int
 | []=>0
 | d::l=>d+10000*vl l
def Dg (l:List Int):Prop:=∀d∈l,0≤d∧d≤9999
theorem Dg.head{d:Int}{l:List Int}(h:Dg (d::l)):0≤d∧d≤9999:=h d (by simp)
theorem Dg.tail{d:Int}{l:List Int}(h:Dg (d::l)):Dg l:=fun x hx=>h x (by simp[hx])
theorem Dg.cons{d:Int}{l:List Int}(h1:0≤d)(h2:d≤9999)(h:Dg l):Dg (d::l):=by
 intro x hx
 rcases List.mem_cons.1 hx with rfl | hx
 ·exact⟨h1,h2⟩
 ·exact h x hx
theorem Dg.nil:Dg []:=fun _ h=>absurd h (by simp)
theorem Dg.get{l:List Int}(h:Dg l){i:Nat}{d:Int}(hd:l[i]?=some d):0≤d∧d≤9999:=h d (List.mem_of_getElem? hd)
theorem Dg.take{l:List Int}(h:Dg l)(i:Nat):Dg (l.take i):=fun d hd=>h d (List.mem_of_mem_take hd)
theorem Dg.drop{l:List Int}(h:Dg l)(i:Nat):Dg (l.drop i):=fun d hd=>h d (List.mem_of_mem_drop hd)
theorem vl_nn:∀{l:List Int},Dg l→0≤vl l
 | [],_=>Int.le_refl _
 | d::l,h=>by have:=vl_nn h.tail;have:=h.head;unfold vl;omega
def dg (v:Nat):List Int:=if v=0 then [] else ((v % 10000:Nat):Int)::dg (v / 10000)
theorem dg_zero:dg 0=[]:=by rw[dg,if_pos rfl]
theorem dg_pos{v:Nat}(h:0<v):dg v=((v % 10000:Nat):Int)::dg (v / 10000):=by rw[dg,if_neg (by omega)]
theorem Dg_dg(v:Nat):Dg (dg v):=by
 induction v using Nat.strongRecOn with
 | ind v ih =>
  by_cases h:v=0
  ·subst h;rw[dg_zero];exact Dg.nil
  ·rw[dg_pos (by omega)];exact Dg.cons (by omega) (by omega) (ih _ (by omega))
theorem vl_dg(v:Nat):vl (dg v)=v:=by
 induction v using Nat.strongRecOn with
 | ind v ih =>
  by_cases h:v=0
  ·subst h;rw[dg_zero];rfl
  ·rw[dg_pos (by omega)];unfold vl;rw[ih _ (by omega)];omega
theorem dg_len:∀(k v:Nat),v<10000 ^ k→(dg v).length≤k
 | 0,v,h=>by
   have:v=0:=by simpa using h
   subst this;rw[dg_zero];exact Nat.le_refl 0
 | k+1,v,h=>by
  by_cases h0:v=0
  ·subst h0;rw[dg_zero];simp
  ·rw[dg_pos (by omega),List.length_cons]
   have:=dg_len k (v / 10000) (by rw[Nat.pow_succ] at h;omega)
   omega
theorem dg_len3{v:Nat}(h:v<1000000000000):(dg v).length≤3:=dg_len 3 v (by simpa using h)
theorem dg_mono{a b:Nat}(h:b≤a):(dg b).length≤(dg a).length:=by
 induction a using Nat.strongRecOn generalizing b with
 | ind a ih =>
  by_cases h0:b=0
  ·subst h0;rw[dg_zero];simp
  ·rw[dg_pos (v:=b) (by omega),dg_pos (v:=a) (by omega),List.length_cons,List.length_cons]
   have:=ih (a / 10000) (by omega) (b:=b / 10000) (by omega)
   omega
theorem dg_ne{v:Nat}:dg v≠[]↔0<v:=by
 constructor
 ·intro h
  by_cases h0:v=0
  ·subst h0;exact absurd dg_zero h
  ·omega
 ·intro h;rw[dg_pos h];simp
theorem dg_last(v:Nat):(dg v).getLast?≠some 0:=by
 induction v using Nat.strongRecOn with
 | ind v ih =>
  by_cases h:v=0
  ·subst h;rw[dg_zero];simp
  ·rw[dg_pos (by omega)]
   by_cases h2:v / 10000=0
   ·rw[h2,dg_zero];simp;omega
   ·have:=ih (v / 10000) (by omega)
    rw[dg_pos (v:=v / 10000) (by omega)] at this ⊢
    rw[List.getLast?_cons_cons];exact this
theorem dg_of:∀{l:List Int},Dg l→l.getLast?≠some 0→l=dg (vl l).toNat∧(l≠[]→0<vl l)
 | [],_,_=>⟨by show []=dg 0;rw[dg_zero],fun h=>absurd rfl h⟩
 | [d],h,hl=>by
  have hd:=h.head
  have h0:d≠0:=by simpa using hl
  have e:vl [d]=d:=by simp[vl]
  refine⟨?_,fun _=>by rw[e];omega⟩
  rw[e,dg_pos (by omega),show d.toNat / 10000=0 by omega,dg_zero]
  congr 1;omega
 | d::e::l,h,hl=>by
  rw[List.getLast?_cons_cons] at hl
  obtain⟨h1,h2⟩:=dg_of h.tail hl
  have h2:=h2 (by simp)
  have hd:=h.head
  have e1:vl (d::e::l)=d+10000*vl (e::l):=rfl
  refine⟨?_,fun _=>by omega⟩
  rw[e1,dg_pos (by omega),show (d+10000*vl (e::l)).toNat / 10000=(vl (e::l)).toNat by omega,←h1]
  congr 1;omega
theorem dg_of'{l:List Int}(h:Dg l)(hl:l.getLast?≠some 0){v:Nat}(hv:vl l=v):l=dg v:=by
 have:=(dg_of h hl).1;rw[hv] at this;exact this
theorem vl_app:∀(a b:List Int),vl (a++b)=vl a+10000 ^ a.length*vl b
 | [],b=>by simp[vl]
 | d::a,b=>by
  rw[List.cons_append];show d+10000*vl (a++b)=(d+10000*vl a)+10000 ^ (d::a).length*vl b;rw[vl_app a b,List.length_cons,Int.pow_succ,Int.mul_add]
  have:(10000:Int) ^ a.length*10000*vl b=10000*((10000:Int) ^ a.length*vl b):=by rw[Int.mul_comm ((10000:Int) ^ a.length) 10000,Int.mul_assoc]
  omega
theorem vl_lt:∀{l:List Int},Dg l→vl l<10000 ^ l.length
 | [],_=>by simp[vl]
 | d::l,h=>by
  have:=vl_lt h.tail;have:=h.head
  unfold vl;rw[List.length_cons,Int.pow_succ];omega
theorem vl_take_s{l:List Int}{i:Nat}{d:Int}(hd:l[i]?=some d):vl (l.take (i+1))=vl (l.take i)+10000 ^ i*d:=by
 have hi:=(List.getElem?_eq_some_iff.1 hd).1
 rw[List.take_add_one,hd,vl_app,List.length_take,Nat.min_eq_left (by omega)]
 simp[vl]
theorem vl_drop_s{l:List Int}{i:Nat}{d:Int}(hd:l[i]?=some d):vl (l.drop i)=d+10000*vl (l.drop (i+1)):=by
 obtain⟨hi,he⟩:=List.getElem?_eq_some_iff.1 hd
 rw[List.drop_eq_getElem_cons hi,he];rfl
theorem vl_drop_le{l:List Int}(h:Dg l):∀(i:Nat),vl (l.drop i)≤vl l:=by
 intro i
 induction i generalizing l with
 | zero=>exact Int.le_refl _
 | succ i ih =>
  cases l with
  | nil=>exact Int.le_refl _
  | cons d l =>
   have:=ih h.tail;have:=h.head;have:=vl_nn h.tail
   rw[List.drop_succ_cons]
   have e:vl (d::l)=d+10000*vl l:=rfl
   omega
theorem apB8{n:Nat}(h:n≤1000000):apB 8 n=true:=by
 simp only[apB,Bool.and_eq_true,decide_eq_true_eq];omega
theorem w64_prd{i:Nat}(h:i≤1000000):w64 (((i+1:Nat):Int)-1)=(i:Int):=by
 rw[w64_id (by omega) (by omega)];omega
theorem dec_t{p:Prop} [Decidable p](h:p):decide p=true:=by simp[h]
theorem dec_f{p:Prop} [Decidable p](h:¬p):decide p=false:=by simp[h]
theorem numStep(n:Nat)(t0:Bool)(t1:List Int)(b:Bool)(rec0:Int→Option Num)(a:Int) :
  Dspec_l1Num_2 n t0 t1 b rec0 a=frk (decide (a>0)) ((lget t1 (w64 (a-1))).bind fun v0=>frk (v0==0) (rec0 (w64 (a-1))) (Dspec_l1Num_1 n t0 t1 a b)) (Dspec_l1Num_1 n t0 t1 a b):=rfl
theorem numEnd(n:Nat)(t0:Bool)(l:List Int)(i:Nat)(b:Bool)(hi:i≤l.length)(hl:l.length≤1000) :
  Dspec_l1Num_1 n t0 l (i:Int) b=some ⟨t0&&decide (0<i),l.take i⟩:=by
 unfold Dspec_l1Num_1
 have hc:apB 8 (0+(l.take i).length)=true:=apB8 (by rw[List.length_take];omega)
 rw[lsl_take _ _ hi]
 simp only[Option.bind_some]
 rw[chk_eq hc,chk_eq hc]
 cases t0
 ·rw[frk_f];rfl
 ·rw[frk_t]
  have:decide ((i:Int)>0)=decide (0<i):=dec_iff (by omega)
  rw[this];simp
theorem numLoop(n:Nat)(t0 b:Bool)(l:List Int)(hD:Dg l)(hl:l.length≤1000){v:Nat}(hv:vl l=v):∀(i m:Nat),i≤l.length→vl (l.take i)=v→i<m →
  loopN (Dspec_l1Num_2 n t0 l b) m (i:Int)=some ⟨t0&&decide (0<v),dg v⟩:=by
 intro i
 induction i with
 | zero =>
  intro m _ h0 hm
  obtain⟨m,rfl⟩:∃j,m=j+1:=⟨m-1,by omega⟩
  have:v=0:=by simp[vl] at h0;omega
  subst this
  rw[loop_suc,numStep,dec_f (by simp),frk_f,numEnd n t0 l 0 b (by omega) hl,dg_zero]
  rfl
 | succ i ih =>
  intro m hi h0 hm
  obtain⟨m,rfl⟩:∃j,m=j+1:=⟨m-1,by omega⟩
  obtain⟨d,hd⟩:∃d,l[i]?=some d:=⟨l[i],List.getElem?_eq_getElem (by omega)⟩
  rw[loop_suc,numStep,dec_t (by omega),frk_t,w64_prd (by omega),lget_nat,hd,Option.bind_some]
  by_cases h:d=0
  ·subst h
   rw[show ((0:Int)==0)=true from rfl,frk_t]
   refine ih m (by omega) ?_ (by omega)
   rw[vl_take_s hd] at h0;omega
  ·rw[show (d==0)=false by simpa using h,frk_f,numEnd n t0 l (i+1) b hi hl]
   have hlast:(l.take (i+1)).getLast?≠some 0:=by
    rw[List.take_add_one,hd];simpa using h
   have e:=dg_of' (hD.take (i+1)) hlast h0
   have hp:=(dg_of (hD.take (i+1)) hlast).2 (by rw[List.take_add_one,hd];simp)
   rw[←e]
   have:decide (0<i+1)=decide (0<v):=dec_iff ⟨fun _=>by omega,fun _=>by omega⟩
   rw[this]
theorem numOk(n:Nat)(t0:Bool)(l:List Int)(hD:Dg l)(hl:l.length≤1000){v:Nat}(hv:vl l=v)(hn:l.length<n):Dspec_l1Num n t0 l=some ⟨t0&&decide (0<v),dg v⟩:=by
 unfold Dspec_l1Num
 exact numLoop n t0 false l hD hl hv l.length n (Nat.le_refl _) (by rw[List.take_length];exact hv) hn
theorem ofStep(n:Nat)(t0:Int)(b:Bool)(rec0:(Int×List Int)→Option Num)(t3:Int)(l:List Int) :
  Dspec_Of_2 n t0 b rec0 (t3,l)=frk (decide (t3>0)) (chk (apB 8 (l.length+1)) (rec0 (IntKind.u64.wrap (Int.tdiv t3 10000),(l++[w64 (Int.tmod t3 10000)])))) (Dspec_Of_1 n t0 b l):=rfl
theorem u64w{x:Int}(h:0≤x)(h2:x<18446744073709551616):IntKind.u64.wrap x=x:=by
 have:IntKind.u64.wrap x=x % 18446744073709551616:=rfl
 omega
theorem ofLoop(n:Nat)(t0:Int)(b:Bool):∀(v:Nat) (l:List Int) (m:Nat),v<18446744073709551616→l.length+(dg v).length≤1000→(dg v).length<m →
  loopN (Dspec_Of_2 n t0 b) m ((v:Int),l)=Dspec_Of_1 n t0 b (l++dg v):=by
 intro v
 induction v using Nat.strongRecOn with
 | ind v ih =>
  intro l m h0 h1 hm
  obtain⟨m,rfl⟩:∃j,m=j+1:=⟨m-1,by omega⟩
  rw[loop_suc,ofStep]
  by_cases h:v=0
  ·subst h;rw[dec_f (by simp),frk_f,dg_zero,List.append_nil]
  ·rw[dec_t (by omega),frk_t]
   rw[dg_pos (by omega)] at h1 hm ⊢
   rw[List.length_cons] at h1 hm
   rw[chk_eq (apB8 (by omega))]
   have e1:IntKind.u64.wrap (Int.tdiv (v:Int) 10000)=((v / 10000:Nat):Int):=by
    rw[Int.tdiv_eq_ediv_of_nonneg (by omega),u64w (by omega) (by omega)];omega
   have e2:w64 (Int.tmod (v:Int) 10000)=((v % 10000:Nat):Int):=by
    rw[Int.tmod_eq_emod_of_nonneg (by omega),w64_id (by omega) (by omega)];omega
   rw[e1,e2,ih (v / 10000) (by omega) _ m (by omega) (by rw[List.length_append,List.length_singleton];omega) (by omega),List.append_assoc]
   rfl
theorem ofOk(n:Nat)(x:Int)(h:x.natAbs<1000000000000)(hn:5≤n):Dspec_Of n x=some ⟨decide (x<0),dg x.natAbs⟩:=by
 have hl:=dg_len3 h
 have key:∀b,Dspec_Of_0 n x (x.natAbs:Int) b []=some ⟨decide (x<0),dg x.natAbs⟩:=by
  intro b
  unfold Dspec_Of_0
  rw[ofLoop n x b x.natAbs [] n (by omega) (by simp;omega) (by omega),List.nil_append]
  unfold Dspec_Of_1
  rw[numOk n _ _ (Dg_dg _) (by omega) (vl_dg _) (by omega),Option.bind_some]
  by_cases hx:x<0
  ·simp[hx];omega
  ·simp[hx]
 unfold Dspec_Of
 by_cases hx:x<0
 ·rw[dec_t hx,frk_t]
  have e:IntKind.u64.wrap ((IntKind.u64.wrap (w64 (0-(w64 (x+1)))))+1)=(x.natAbs:Int):=by
   rw[w64_id (x:=x+1) (by omega) (by omega),w64_id (by omega) (by omega),u64w (x:=0-(x+1)) (by omega) (by omega),u64w (by omega) (by omega)];omega
  rw[e,key];rw[dec_t hx]
 ·rw[dec_f hx,frk_f]
  have e:IntKind.u64.wrap x=(x.natAbs:Int):=by rw[u64w (by omega) (by omega)];omega
  rw[e,key];rw[dec_f hx]
theorem nokStep(n:Nat)(t3:Int)(g:Bool)(l:List Int)(rec0:Int→Option Bool)(a:Int) :
  Dspec_NumOk_2 n t3 g l rec0 a=frk (decide (a<t3)) (frk (decide (a≤120)) ((lget l a).bind fun v0=>(Dspec_l1In v0 0 9999).bind fun v1=>frk (!v1) (some false) (rec0 (w64 (a+1)))) (Dspec_NumOk_1 n t3 g l)) (Dspec_NumOk_1 n t3 g l):=rfl
theorem nokEnd(n:Nat)(g:Bool)(v:Nat)(hl:(dg v).length≤100)(hg:g=true→0<v):Dspec_NumOk_1 n ((dg v).length:Int) g (dg v)=some true:=by
 unfold Dspec_NumOk_1
 rw[dec_t (by omega),frk_t]
 by_cases h:v=0
 ·subst h
  rw[dg_zero]
  have:g=false:=by cases g with
   | false=>rfl
   | true=>have:=hg rfl;omega
  subst this;rfl
 ·have hp:=List.length_pos_iff.2 (dg_ne.2 (show 0<v by omega))
  obtain⟨k,hk⟩:∃k,(dg v).length=k+1:=⟨(dg v).length-1,by omega⟩
  have hla:=dg_last v
  rw[List.getLast?_eq_getElem?,hk] at hla
  obtain⟨d,hd⟩:∃d,(dg v)[k]?=some d:=⟨(dg v)[k],List.getElem?_eq_getElem (by omega)⟩
  rw[Nat.add_sub_cancel,hd] at hla
  have hd0:d≠0:=by simpa using hla
  rw[hk,show (((k+1:Nat):Int)==0)=false by simp;omega,frk_f,dec_t (by omega),frk_t,w64_prd (by omega),lget_nat,hd,Option.bind_some]
  simpa using hd0
theorem nokLoop(n:Nat)(g:Bool)(v:Nat)(hl:(dg v).length≤100)(hg:g=true→0<v):∀(k i m:Nat),i+k=(dg v).length→k<m →
  loopN (Dspec_NumOk_2 n ((dg v).length:Int) g (dg v)) m (i:Int)=some true:=by
 intro k
 induction k with
 | zero =>
  intro i m h0 hm
  obtain⟨m,rfl⟩:∃j,m=j+1:=⟨m-1,by omega⟩
  rw[loop_suc,nokStep,dec_f (by omega),frk_f,nokEnd n g v hl hg]
 | succ k ih =>
  intro i m h0 hm
  obtain⟨m,rfl⟩:∃j,m=j+1:=⟨m-1,by omega⟩
  obtain⟨d,hd⟩:∃d,(dg v)[i]?=some d:=⟨(dg v)[i],List.getElem?_eq_getElem (by omega)⟩
  have:=(Dg_dg v).get hd
  rw[loop_suc,nokStep,dec_t (by omega),frk_t,dec_t (by omega),frk_t,lget_nat,hd,Option.bind_some,sIn,Option.bind_some,rIn_iff.2 this,Bool.not_true,frk_f,w64_suc (by unfold big;omega)]
  exact ih (i+1) m (by omega) (by omega)
theorem nokOk(n:Nat)(g:Bool)(v:Nat)(hv:v<1000000000000)(hg:g=true→0<v)(hn:5≤n):Dspec_NumOk n ⟨g,dg v⟩=some true:=by
 have hl:=dg_len3 hv
 unfold Dspec_NumOk
 exact nokLoop n g v (by omega) hg (dg v).length 0 n (by omega) (by omega)
theorem magOk(n:Nat)(g:Bool)(v:Nat)(hv:v<1000000000000)(hg:g=true→0<v)(hn:5≤n):Dspec_l1Mag n ⟨g,dg v⟩=some (dg v):=by
 unfold Dspec_l1Mag;rw[nokOk n g v hv hg hn];rfl
theorem signOk(n:Nat)(g:Bool)(v:Nat)(hv:v<1000000000000)(hg:g=true→0<v)(hn:5≤n):Dspec_l1Sign n ⟨g,dg v⟩=some g:=by
 unfold Dspec_l1Sign;rw[nokOk n g v hv hg hn];rfl
end Evl.T
namespace Evl.T
open Go Evl
theorem cmpStep(n:Nat)(a b:List Int)(rec0:Int→Option Int)(i:Int) :
  Dspec_l1CmpMag_0 n a b rec0 i=frk (decide (i≥0)) ((lget a i).bind fun v0=>(lget b i).bind fun v1=>frk (v0 != v1) ((lget a i).bind fun v2=>(lget b i).bind fun v3=>frk (decide (v2<v3)) (some (-1)) (some 1)) (rec0 (w64 (i-1)))) (some 0):=rfl
theorem pow_step{x y P:Int}(hP:0≤P)(h:x<y):P*x+P≤P*y:=by
 have:P*(x+1)≤P*y:=Int.mul_le_mul_of_nonneg_left (by omega) hP
 rw[Int.mul_add,Int.mul_one] at this;exact this
theorem cmpLoop(n:Nat){a b:List Int}(ha:Dg a)(hb:Dg b)(hl:a.length=b.length)(hl2:a.length≤1000):∀(i m:Nat),i≤a.length→i<m →
  ∃r,loopN (Dspec_l1CmpMag_0 n a b) m ((i:Int)-1)=some r∧(r≥0↔vl (b.take i)≤vl (a.take i)):=by
 intro i
 induction i with
 | zero =>
  intro m _ hm
  obtain⟨m,rfl⟩:∃j,m=j+1:=⟨m-1,by omega⟩
  refine⟨0,?_,by simp[vl]⟩
  rw[loop_suc,cmpStep,dec_f (by omega),frk_f]
 | succ i ih =>
  intro m hi hm
  obtain⟨m,rfl⟩:∃j,m=j+1:=⟨m-1,by omega⟩
  obtain⟨x,hx⟩:∃d,a[i]?=some d:=⟨a[i],List.getElem?_eq_getElem (by omega)⟩
  obtain⟨y,hy⟩:∃d,b[i]?=some d:=⟨b[i],List.getElem?_eq_getElem (by omega)⟩
  have e:((i+1:Nat):Int)-1=(i:Int):=by omega
  rw[loop_suc,cmpStep,e,dec_t (by omega),frk_t,lget_nat,lget_nat,hx,hy,Option.bind_some,Option.bind_some]
  simp only[Option.bind_some]
  have p1:=vl_lt (ha.take i)
  have p2:=vl_lt (hb.take i)
  rw[List.length_take,Nat.min_eq_left (by omega)] at p1 p2
  have q1:=vl_nn (ha.take i)
  have q2:=vl_nn (hb.take i)
  have hP:(0:Int)≤10000 ^ i:=Int.pow_nonneg (by omega)
  rw[vl_take_s hx,vl_take_s hy]
  by_cases h:x=y
  ·subst h
   rw[show (x != x)=false by simp,frk_f,w64_id (by omega) (by omega)]
   obtain⟨r,h1,h2⟩:=ih m (by omega) (by omega)
   exact⟨r,h1,h2.trans (by omega)⟩
  ·rw[show (x != y)=true by simpa using h,frk_t]
   by_cases h2:x<y
   ·refine⟨-1,by rw[dec_t h2,frk_t],?_⟩
    have:=pow_step hP h2
    omega
   ·refine⟨1,by rw[dec_f h2,frk_f],?_⟩
    have:=pow_step hP (show y<x by omega)
    omega
theorem cmpOk(n:Nat)(a b:Nat)(hl:(dg a).length≤100)(hl2:(dg b).length≤100)(hn:101≤n):∃r,Dspec_l1CmpMag n (dg a) (dg b)=some r∧(r≥0↔b≤a):=by
 unfold Dspec_l1CmpMag
 by_cases h:(dg a).length=(dg b).length
 ·rw[show (((dg a).length:Int) != ((dg b).length:Int))=false by rw[h];simp,frk_f,w64_id (by omega) (by omega)]
  obtain⟨r,h1,h2⟩:=cmpLoop n (Dg_dg a) (Dg_dg b) h (by omega) (dg a).length n (Nat.le_refl _) (by omega)
  refine⟨r,h1,h2.trans ?_⟩
  rw[List.take_length,h,List.take_length,vl_dg,vl_dg];omega
 ·rw[show (((dg a).length:Int) != ((dg b).length:Int))=true by simpa using by omega,frk_t]
  by_cases h2:(dg a).length<(dg b).length
  ·refine⟨-1,by rw[dec_t (by omega),frk_t],?_⟩
   constructor
   ·intro h;omega
   ·intro h;have:=dg_mono h;omega
  ·refine⟨1,by rw[dec_f (by omega),frk_f],?_⟩
   constructor
   ·intro _
    by_cases hh:b≤a
    ·exact hh
    ·have:=dg_mono (show a≤b by omega);omega
   ·intro _;omega
theorem guessStep1(n:Nat)(a b:List Int)(rec0:Int×Int→Option Int)(t5 t6:Int) :
  Dspec_l1Guess_6 n a b rec0 (t5,t6)=frk (decide (t6≥0)) (frk (decide (t6≥(w64 ((b.length:Int)-3)))) ((lget a t6).bind fun v0=>rec0 (w64 ((w64 (t5*10000))+v0),w64 (t6-1))) (Dspec_l1Guess_1 n b t5 0 (w64 ((b.length:Int)-1)))) (Dspec_l1Guess_1 n b t5 0 (w64 ((b.length:Int)-1))):=rfl
theorem guessStep2(n:Nat)(b:List Int)(t5:Int)(rec1:Int×Int→Option Int)(t7 t8:Int) :
  Dspec_l1Guess_5 n b t5 rec1 (t7,t8)=frk (decide (t8≥0)) (frk (decide (t8≥(w64 ((b.length:Int)-3)))) ((lget b t8).bind fun v1=>rec1 (w64 ((w64 (t7*10000))+v1),w64 (t8-1))) (Dspec_l1Guess_3 n t5 t7 (decide ((b.length:Int)>3)))) (Dspec_l1Guess_3 n t5 t7 (decide ((b.length:Int)>3))):=rfl
theorem vl_small{a:List Int}(ha:Dg a)(hl:a.length≤3):vl a<1000000000000:=by
 have h:=vl_lt ha
 have:a.length=0∨a.length=1∨a.length=2∨a.length=3:=by omega
 rcases this with e | e | e | e <;> rw[e] at h <;> omega
theorem guessL1(n:Nat){a b:List Int}(ha:Dg a)(hl:a.length≤3)(hlb:b.length≤3):∀(i m:Nat),i≤a.length→i<m →
  loopN (Dspec_l1Guess_6 n a b) m (vl (a.drop i),(i:Int)-1)=Dspec_l1Guess_1 n b (vl a) 0 (w64 ((b.length:Int)-1)):=by
 intro i
 induction i with
 | zero =>
  intro m _ hm
  obtain⟨m,rfl⟩:∃j,m=j+1:=⟨m-1,by omega⟩
  rw[loop_suc,guessStep1,dec_f (by omega),frk_f];rfl
 | succ i ih =>
  intro m hi hm
  obtain⟨m,rfl⟩:∃j,m=j+1:=⟨m-1,by omega⟩
  obtain⟨x,hx⟩:∃d,a[i]?=some d:=⟨a[i],List.getElem?_eq_getElem (by omega)⟩
  have e:((i+1:Nat):Int)-1=(i:Int):=by omega
  have b1:=vl_small ha hl
  have b2:=vl_drop_le ha i
  have b3:=vl_nn (ha.drop i)
  have b4:=vl_nn (ha.drop (i+1))
  have b5:=ha.get hx
  have e2:=vl_drop_s hx
  rw[loop_suc,guessStep1,e,dec_t (by omega),frk_t,dec_t (by rw[w64_id (by omega) (by omega)];omega),frk_t,lget_nat,hx,Option.bind_some]
  rw[w64_id (x:=vl (a.drop (i+1))*10000) (by omega) (by omega),show vl (a.drop (i+1))*10000+x=vl (a.drop i) by omega,w64_id (x:=vl (a.drop i)) (by omega) (by omega),w64_id (x:=(i:Int)-1) (by omega) (by omega)]
  exact ih m (by omega) (by omega)
theorem guessL2(n:Nat){b:List Int}(ha:Dg b)(hl:b.length≤3)(t5:Int):∀(i m:Nat),i≤b.length→i<m →
  loopN (Dspec_l1Guess_5 n b t5) m (vl (b.drop i),(i:Int)-1)=Dspec_l1Guess_3 n t5 (vl b) false:=by
 intro i
 induction i with
 | zero =>
  intro m _ hm
  obtain⟨m,rfl⟩:∃j,m=j+1:=⟨m-1,by omega⟩
  rw[loop_suc,guessStep2,dec_f (by omega),frk_f,dec_f (by omega)];rfl
 | succ i ih =>
  intro m hi hm
  obtain⟨m,rfl⟩:∃j,m=j+1:=⟨m-1,by omega⟩
  obtain⟨x,hx⟩:∃d,b[i]?=some d:=⟨b[i],List.getElem?_eq_getElem (by omega)⟩
  have e:((i+1:Nat):Int)-1=(i:Int):=by omega
  have b1:=vl_small ha hl
  have b2:=vl_drop_le ha i
  have b3:=vl_nn (ha.drop i)
  have b4:=vl_nn (ha.drop (i+1))
  have b5:=ha.get hx
  have e2:=vl_drop_s hx
  rw[loop_suc,guessStep2,e,dec_t (by omega),frk_t,dec_t (by rw[w64_id (by omega) (by omega)];omega),frk_t,lget_nat,hx,Option.bind_some]
  rw[w64_id (x:=vl (b.drop (i+1))*10000) (by omega) (by omega),show vl (b.drop (i+1))*10000+x=vl (b.drop i) by omega,w64_id (x:=vl (b.drop i)) (by omega) (by omega),w64_id (x:=(i:Int)-1) (by omega) (by omega)]
  exact ih m (by omega) (by omega)
theorem guessOk(n a b:Nat)(ha:a<1000000000000)(hb:0<b)(hab:b≤a)(hn:5≤n):Dspec_l1Guess n (dg a) (dg b)=some ((a / b:Nat):Int):=by
 have l1:=dg_len3 ha
 have l2:=dg_len3 (show b<1000000000000 by omega)
 unfold Dspec_l1Guess
 rw[w64_id (by omega) (by omega)]
 have e1:=guessL1 n (b:=dg b) (Dg_dg a) l1 l2 (dg a).length n (Nat.le_refl _) (by omega)
 rw[List.drop_length] at e1
 have e1':loopN (Dspec_l1Guess_6 n (dg a) (dg b)) n ((0:Int),((dg a).length:Int)-1)=_:=e1
 rw[e1']
 unfold Dspec_l1Guess_1
 rw[w64_id (by omega) (by omega)]
 have e2:=guessL2 n (Dg_dg b) l2 (vl (dg a)) (dg b).length n (Nat.le_refl _) (by omega)
 rw[List.drop_length] at e2
 have e2':loopN (Dspec_l1Guess_5 n (dg b) (vl (dg a))) n ((0:Int),((dg b).length:Int)-1)=_:=e2
 rw[e2',vl_dg,vl_dg]
 unfold Dspec_l1Guess_3 Dspec_l1Guess_4
 rw[frk_f]
 have hq:0<a / b:=Nat.div_pos hab hb
 have hq2:a / b≤a:=Nat.div_le_self a b
 have e3:qt .i64 (a:Int) (b:Int)=some ((a / b:Nat):Int):=by
  unfold qt
  rw[if_neg (by omega),Int.tdiv_eq_ediv_of_nonneg (by omega)]
  have:IntKind.i64.wrap ((a:Int) / (b:Int))=((a / b:Nat):Int):=by
   have e:(a:Int) / (b:Int)=((a / b:Nat):Int):=by simp
   rw[e];exact w64_id (by omega) (by omega)
  rw[this]
 rw[e3]
 simp only[Option.bind_some]
 rw[dec_t (by omega),frk_t]
def subR:List Int→List Int→Int→List Int
 | [],_,_=>[]
 | x::xs,ys,c=>if x-c-ys.headD 0<0 then (x-c-ys.headD 0+10000)::subR xs ys.tail 1 else (x-c-ys.headD 0)::subR xs ys.tail 0
theorem hd_ok{ys:List Int}(h:Dg ys):0≤ys.headD 0∧ys.headD 0≤9999:=by
 cases ys with
 | nil=>simp
 | cons y ys=>exact h.head
theorem tl_ok{ys:List Int}(h:Dg ys):Dg ys.tail:=by
 cases ys with
 | nil=>exact Dg.nil
 | cons y ys=>exact h.tail
theorem vl_hd(ys:List Int):vl ys=ys.headD 0+10000*vl ys.tail:=by
 cases ys with
 | nil=>rfl
 | cons y ys=>rfl
theorem subR_Dg:∀(xs ys:List Int) (c:Int),Dg xs→Dg ys→0≤c→c≤1→Dg (subR xs ys c)
 | [],_,_,_,_,_,_=>Dg.nil
 | x::xs,ys,c,h1,h2,h3,h4=>by
  have:=h1.head;have:=hd_ok h2
  unfold subR
  split
  ·exact Dg.cons (by omega) (by omega) (subR_Dg xs ys.tail 1 h1.tail (tl_ok h2) (by omega) (by omega))
  ·exact Dg.cons (by omega) (by omega) (subR_Dg xs ys.tail 0 h1.tail (tl_ok h2) (by omega) (by omega))
theorem subR_vl:∀(xs ys:List Int) (c:Int),Dg xs→Dg ys→0≤c→c≤1→vl ys+c≤vl xs→vl (subR xs ys c)=vl xs-vl ys-c
 | [],ys,c,_,h2,h3,_,h5=>by
  have:=vl_nn h2
  have e:vl []=0:=rfl
  show vl []=_
  omega
 | x::xs,ys,c,h1,h2,h3,h4,h5=>by
  have:=h1.head;have:=hd_ok h2
  have e1:=vl_hd ys
  have e2:vl (x::xs)=x+10000*vl xs:=rfl
  unfold subR
  split
  ·have:=subR_vl xs ys.tail 1 h1.tail (tl_ok h2) (by omega) (by omega) (by omega)
   show x-c-ys.headD 0+10000+10000*vl (subR xs ys.tail 1)=_
   omega
  ·have:=subR_vl xs ys.tail 0 h1.tail (tl_ok h2) (by omega) (by omega) (by omega)
   show x-c-ys.headD 0+10000*vl (subR xs ys.tail 0)=_
   omega
theorem subR_len:∀(xs ys:List Int) (c:Int),(subR xs ys c).length=xs.length
 | [],_,_=>rfl
 | x::xs,ys,c=>by
  unfold subR
  split
  ·rw[List.length_cons,List.length_cons,subR_len]
  ·rw[List.length_cons,List.length_cons,subR_len]
theorem subStep(n:Nat)(a b:List Int)(rec0:Int×Int×List Int→Option (List Int))(t6 t7:Int)(l:List Int) :
  Dspec_l1SubMag_2 n a b rec0 (t6,t7,l)=frk (decide (t7<(a.length:Int))) ((lget a t7).bind fun v0=>frk (decide (t7<(b.length:Int))) ((lget b t7).bind fun v1=>Dspec_l1SubMag_0 n rec0 a b 0 t7 (w64 ((w64 (v0-t6))-v1)) (decide ((w64 ((w64 (v0-t6))-v1))<0)) l) (Dspec_l1SubMag_0 n rec0 a b 0 t7 (w64 (v0-t6)) (decide ((w64 (v0-t6))<0)) l)) (some l):=rfl
theorem subMid(n:Nat)(a b:List Int)(rec0:Int×Int×List Int→Option (List Int))(t:Int)(i:Nat)(l:List Int)(ht:-20000≤t)(ht2:t≤20000)(hl:l.length≤1000)(hi:i≤1000) :
  Dspec_l1SubMag_0 n rec0 a b 0 (i:Int) t (decide (t<0)) l=if t<0 then rec0 (1,((i+1:Nat):Int),l++[t+10000]) else rec0 (0,((i+1:Nat):Int),l++[t]):=by
 unfold Dspec_l1SubMag_0 Dspec_l1SubMag_1
 rw[chk_eq (apB8 (by omega)),chk_eq (apB8 (by omega)),w64_suc (by unfold big;omega),w64_id (x:=t+10000) (by omega) (by omega),frk_if]
 by_cases h:t<0
 ·rw[if_pos h,dec_t h,if_pos rfl]
 ·rw[if_neg h,dec_f h,if_neg (by decide)]
theorem subLoop(n:Nat){a b:List Int}(ha:Dg a)(hb:Dg b)(hl:a.length≤100):∀(k i m:Nat) (c:Int) (l:List Int),i+k=a.length→k<m→0≤c→c≤1→l.length=i →
  loopN (Dspec_l1SubMag_2 n a b) m (c,(i:Int),l)=some (l++subR (a.drop i) (b.drop i) c):=by
 intro k
 induction k with
 | zero =>
  intro i m c l h0 hm _ _ _
  obtain⟨m,rfl⟩:∃j,m=j+1:=⟨m-1,by omega⟩
  rw[loop_suc,subStep,dec_f (by omega),frk_f,show a.drop i=[] from List.drop_eq_nil_of_le (by omega)]
  show some l=some (l++[])
  rw[List.append_nil]
 | succ k ih =>
  intro i m c l h0 hm hc hc2 hll
  obtain⟨m,rfl⟩:∃j,m=j+1:=⟨m-1,by omega⟩
  obtain⟨x,hx⟩:∃d,a[i]?=some d:=⟨a[i],List.getElem?_eq_getElem (by omega)⟩
  obtain⟨hi,he⟩:=List.getElem?_eq_some_iff.1 hx
  have hxd:=ha.get hx
  have fin:∀y:Int,y=(b.drop i).headD 0→Dspec_l1SubMag_0 n (loopN (Dspec_l1SubMag_2 n a b) m) a b 0 (i:Int) (x-c-y) (decide (x-c-y<0)) l=some (l++subR (a.drop i) (b.drop i) c):=by
   intro y hy
   have hyd:=hd_ok (hb.drop i)
   rw[←hy] at hyd
   rw[subMid n a b _ (x-c-y) i l (by omega) (by omega) (by omega) (by omega),List.drop_eq_getElem_cons hi,he]
   unfold subR
   rw[←hy,List.tail_drop]
   by_cases h:x-c-y<0
   ·rw[if_pos h,if_pos h,ih (i+1) m 1 _ (by omega) (by omega) (by omega) (by omega) (by simp[hll]),List.append_assoc];rfl
   ·rw[if_neg h,if_neg h,ih (i+1) m 0 _ (by omega) (by omega) (by omega) (by omega) (by simp[hll]),List.append_assoc];rfl
  rw[loop_suc,subStep,dec_t (by omega),frk_t,lget_nat,hx,Option.bind_some]
  by_cases hb2:i<b.length
  ·obtain⟨y,hy⟩:∃d,b[i]?=some d:=⟨b[i],List.getElem?_eq_getElem hb2⟩
   have hyd:=hb.get hy
   rw[dec_t (by omega),frk_t,lget_nat,hy,Option.bind_some,w64_id (x:=x-c) (by omega) (by omega),w64_id (by omega) (by omega)]
   refine fin y ?_
   rw[List.drop_eq_getElem_cons hb2]
   have:=(List.getElem?_eq_some_iff.1 hy).2
   rw[this];rfl
  ·rw[dec_f (by omega),frk_f,w64_id (x:=x-c) (by omega) (by omega)]
   have:=fin 0 (by rw[show b.drop i=[] from List.drop_eq_nil_of_le (by omega)];rfl)
   rw[show x-c-0=x-c by omega] at this
   exact this
theorem subOk(n:Nat){a b:List Int}(ha:Dg a)(hb:Dg b)(hl:a.length≤100)(hv:vl b≤vl a)(hn:101≤n):∃r,Dspec_l1SubMag n a b=some r∧Dg r∧vl r=vl a-vl b∧r.length=a.length:=by
 refine⟨subR a b 0,?_,subR_Dg a b 0 ha hb (by omega) (by omega),?_,subR_len a b 0⟩
 ·unfold Dspec_l1SubMag
  exact subLoop n ha hb hl a.length 0 n 0 [] (by omega) (by omega) (by omega) (by omega) rfl
 ·have:=subR_vl a b 0 ha hb (by omega) (by omega) (by omega);omega
theorem mulStep1(n:Nat)(rec0:(Int×List Int)→Option (List Int))(t0 t1:List Int)(t6:Int)(rec1:(Int×Int×List Int)→Option (List Int))(t7 t8:Int)(l15:List Int) :
  Dspec_l1MulMag_1 n rec0 t0 t1 t6 rec1 (t7,t8,l15)=frk (decide (t8<(t1.length:Int))) ((lget t0 t6).bind fun v1=>(lget t1 t8).bind fun v2=>(lget l15 (w64 (t6+t8))).bind fun v3=>(lget l15 (w64 (t6+t8))).bind fun _v4=>rec1 (w64 (Int.tdiv (w64 ((w64 ((w64 (v1*v2))+v3))+t7)) 10000),w64 (t8+1),(l15.set (Int.toNat (w64 (t6+t8))) (Int.tmod (w64 ((w64 ((w64 (v1*v2))+v3))+t7)) 10000)))) (Dspec_l1MulMag_0 n rec0 t0 t1 t6 t7 l15):=rfl
theorem mulStep2(n:Nat)(t0 t1:List Int)(rec0:(Int×List Int)→Option (List Int))(t6:Int)(l15:List Int) :
  Dspec_l1MulMag_2 n t0 t1 rec0 (t6,l15)=frk (decide (t6<(t0.length:Int))) (loopN (Dspec_l1MulMag_1 n rec0 t0 t1 t6) n (0,0,l15)) (some l15):=rfl
theorem get_pre{α:Type}(p:List α)(k:Nat)(z:List α):(p++z)[p.length+k]?=z[k]?:=by
 rw[List.getElem?_append_right (by omega)];congr 1;omega
theorem set_pre{α:Type}(p:List α)(k:Nat)(z:List α)(x:α):(p++z).set (p.length+k) x=p++z.set k x:=by
 rw[List.set_append_right _ _ (by omega)];congr 2;omega
theorem mul_nn{x y:Int}(hx:0≤x∧x≤9999)(hy:0≤y∧y≤9999):0≤x*y∧x*y≤99980001:=by
 refine⟨Int.mul_nonneg hx.1 hy.1,?_⟩
 have h1:x*y≤9999*y:=Int.mul_le_mul_of_nonneg_right hx.2 hy.1
 omega
theorem mulCell(n:Nat)(rec0:(Int×List Int)→Option (List Int))(xs ys:List Int)(rec1:(Int×Int×List Int)→Option (List Int))(c:Int)(j:Nat)(p zs:List Int){x y z:Int}
  (hx:xs[p.length]?=some x) (hy:ys[j]?=some y) (hz:zs[j]?=some z) (hp:p.length≤1000) (hj:j≤1000)
  (bx:0≤x∧x≤9999) (by':0≤y∧y≤9999) (bz:0≤z∧z≤9999) (bc:0≤c∧c≤9999) :
  Dspec_l1MulMag_1 n rec0 xs ys (p.length:Int) rec1 (c,(j:Int),p++zs)=rec1 ((x*y+z+c) / 10000,((j+1:Nat):Int),p++zs.set j ((x*y+z+c) % 10000)):=by
 have hjl:j<ys.length:=(List.getElem?_eq_some_iff.1 hy).1
 have hb:=mul_nn bx by'
 have e:w64 ((p.length:Int)+(j:Int))=((p.length+j:Nat):Int):=by rw[w64_id (by omega) (by omega)];omega
 rw[mulStep1,dec_t (by omega),frk_t,lget_nat,hx,Option.bind_some,lget_nat,hy,Option.bind_some,e,lget_nat,get_pre,hz,Option.bind_some,Option.bind_some,Int.toNat_natCast,set_pre]
 rw[w64_id (x:=x*y) (by omega) (by omega),w64_id (x:=x*y+z) (by omega) (by omega),w64_id (x:=x*y+z+c) (by omega) (by omega),Int.tdiv_eq_ediv_of_nonneg (by omega),Int.tmod_eq_emod_of_nonneg (by omega),w64_id (by omega) (by omega),w64_suc (by unfold big;omega)]
theorem mulRow(n:Nat)(rec0:(Int×List Int)→Option (List Int))(xs:List Int)(y0 y1:Int)(m:Nat)(p zs:List Int){x z0 z1 z2:Int}
  (hx:xs[p.length]?=some x) (hp:p.length≤1000) (hm:3≤m)
  (bx:0≤x∧x≤9999) (by0:0≤y0∧y0≤9999) (by1:0≤y1∧y1≤9999) (bz0:0≤z0∧z0≤9999) (bz1:0≤z1∧z1≤9999) :
  ∃d0 d1 c,loopN (Dspec_l1MulMag_1 n rec0 xs [y0,y1] (p.length:Int)) m (0,0,p++z0::z1::z2::zs)=rec0 (((p.length+1:Nat):Int),p++d0::d1::c::zs) ∧
   (0≤d0∧d0≤9999)∧(0≤d1∧d1≤9999)∧(0≤c∧c≤9999)∧d0+10000*d1+100000000*c=x*y0+10000*(x*y1)+z0+10000*z1:=by
 obtain⟨m,rfl⟩:∃j,m=j+3:=⟨m-3,by omega⟩
 have h0:=mul_nn bx by0
 have h1:=mul_nn bx by1
 have s1:=mulCell n rec0 xs [y0,y1] (loopN (Dspec_l1MulMag_1 n rec0 xs [y0,y1] (p.length:Int)) (m+2)) 0 0 p (z0::z1::z2::zs) hx (y:=y0) rfl rfl hp (by omega) bx by0 bz0 (by omega)
 have s2:=mulCell n rec0 xs [y0,y1] (loopN (Dspec_l1MulMag_1 n rec0 xs [y0,y1] (p.length:Int)) (m+1)) ((x*y0+z0+0) / 10000) 1 p ((x*y0+z0+0) % 10000::z1::z2::zs) hx (y:=y1) rfl rfl hp (by omega) bx by1 bz1 (by omega)
 refine⟨(x*y0+z0+0) % 10000,(x*y1+z1+(x*y0+z0+0) / 10000) % 10000,(x*y1+z1+(x*y0+z0+0) / 10000) / 10000,?_,by omega,by omega,by omega,by omega⟩
 rw[loop_suc]
 refine s1.trans ?_
 rw[loop_suc]
 refine s2.trans ?_
 rw[loop_suc,mulStep1,dec_f (by show ¬(((1+1:Nat):Int)<((2:Nat):Int));omega),frk_f]
 unfold Dspec_l1MulMag_0
 have e:w64 ((p.length:Int)+(([y0,y1]:List Int).length:Int))=((p.length+2:Nat):Int):=by
  show w64 ((p.length:Int)+((2:Nat):Int))=_
  rw[w64_id (by omega) (by omega)];omega
 rw[e,lget_nat,get_pre,Int.toNat_natCast,set_pre,w64_suc (by unfold big;omega)]
 rfl
theorem mulLoop(n:Nat)(y0 y1:Int)(by0:0≤y0∧y0≤9999)(by1:0≤y1∧y1≤9999)(hn:3≤n){xs:List Int}(hD:Dg xs)(hl:xs.length≤100) :
  ∀(k m:Nat) (p:List Int) (z0 z1:Int),p.length+k=xs.length→k<m→0≤z0∧z0≤9999→0≤z1∧z1≤9999 →
  ∃r,loopN (Dspec_l1MulMag_2 n xs [y0,y1]) m ((p.length:Int),p++z0::z1::List.replicate k 0)=some (p++r)∧Dg r∧vl r=z0+10000*z1+vl (xs.drop p.length)*(y0+10000*y1)∧r.length=k+2:=by
 intro k
 induction k with
 | zero =>
  intro m p z0 z1 h0 hm b0 b1
  obtain⟨m,rfl⟩:∃j,m=j+1:=⟨m-1,by omega⟩
  refine⟨[z0,z1],?_,Dg.cons b0.1 b0.2 (Dg.cons b1.1 b1.2 Dg.nil),?_,rfl⟩
  ·rw[loop_suc,mulStep2,dec_f (by omega),frk_f];rfl
  ·rw[List.drop_eq_nil_of_le (by omega)];simp[vl]
 | succ k ih =>
  intro m p z0 z1 h0 hm b0 b1
  obtain⟨m,rfl⟩:∃j,m=j+1:=⟨m-1,by omega⟩
  obtain⟨x,hx⟩:∃d,xs[p.length]?=some d:=⟨xs[p.length],List.getElem?_eq_getElem (by omega)⟩
  have bx:=hD.get hx
  obtain⟨d0,d1,c,e1,q0,q1,q2,q3⟩:=mulRow n (loopN (Dspec_l1MulMag_2 n xs [y0,y1]) m) xs y0 y1 n p (List.replicate k 0) (z2:=0) hx (by omega) hn bx by0 by1 b0 b1
  obtain⟨r,r1,r2,r3,r4⟩:=ih m (p++[d0]) d1 c (by simp;omega) (by omega) q1 q2
  refine⟨d0::r,?_,Dg.cons q0.1 q0.2 r2,?_,by rw[List.length_cons,r4]⟩
  ·rw[loop_suc,mulStep2,dec_t (by omega),frk_t,List.replicate_succ,e1]
   have e2:(p++[d0]).length=p.length+1:=by simp
   rw[e2,List.append_assoc,List.append_assoc] at r1
   exact r1
  ·have e2:(p++[d0]).length=p.length+1:=by simp
   rw[e2] at r3
   rw[vl_drop_s hx]
   show d0+10000*vl r=_
   rw[r3]
   generalize vl (xs.drop (p.length+1))=V
   have e3:(x+10000*V)*(y0+10000*y1)=(x*y0+10000*(x*y1))+10000*(V*(y0+10000*y1)):=by
    rw[Int.add_mul,Int.mul_add,Int.mul_assoc 10000]
    congr 2
    rw[←Int.mul_assoc,Int.mul_comm x 10000,Int.mul_assoc]
   rw[e3]
   generalize V*(y0+10000*y1)=W
   omega
theorem mkB8{k:Int}(h:0≤k)(h2:k≤1000000):mkB k 8=true:=by
 simp only[mkB,Bool.and_eq_true,decide_eq_true_eq];omega
theorem mulOk(n:Nat)(y0 y1:Int)(by0:0≤y0∧y0≤9999)(by1:0≤y1∧y1≤9999){xs:List Int}(hD:Dg xs)(hl:xs.length≤100)(hn:101≤n) :
  ∃r,Dspec_l1MulMag n xs [y0,y1]=some r∧Dg r∧vl r=vl xs*(y0+10000*y1)∧r.length=xs.length+2:=by
 have e:w64 ((xs.length:Int)+(([y0,y1]:List Int).length:Int))=((xs.length+2:Nat):Int):=by
  show w64 ((xs.length:Int)+((2:Nat):Int))=_
  rw[w64_id (by omega) (by omega)];omega
 obtain⟨r,r1,r2,r3,r4⟩:=mulLoop n y0 y1 by0 by1 (by omega) hD hl xs.length n [] 0 0 (by simp) (by omega) (by omega) (by omega)
 refine⟨r,?_,r2,by rw[r3];show 0+10000*0+vl (xs.drop 0)*_=_;rw[List.drop_zero];omega,r4⟩
 unfold Dspec_l1MulMag
 rw[e,chk_eq (mkB8 (by omega) (by omega)),Int.toNat_natCast]
 exact r1
end Evl.T
namespace Evl.T
open Go Evl
theorem divStep0(n:Nat)(rec0:(Int×List Int×List Int)→Option ((List Int)×(List Int)))(t0 t1:List Int)(t8:Int)(rec1:(List Int×List Int)→Option ((List Int)×(List Int)))(l12 l29:List Int) :
  Dspec_l1DivMag_0 n rec0 t0 t1 t8 rec1 (l12,l29)=(Dspec_l1CmpMag n l29 t1).bind fun v4=>frk (decide (v4≥0)) ((Dspec_l1Guess n l29 t1).bind fun v5=>(lget l12 t8).bind fun v6=>(lget l12 t8).bind fun _v7=>(Dspec_l1MulMag n t1 [Int.tmod v5 10000,w64 (Int.tdiv v5 10000)]).bind fun v8=>(Dspec_l1Num n false v8).bind fun v9=>(Dspec_l1SubMag n l29 v9.D).bind fun v10=>(Dspec_l1Num n false v10).bind fun v11=>rec1 ((l12.set (Int.toNat t8) (w64 (v6+v5))),v11.D)) (rec0 (w64 (t8-1),l12,l29)):=rfl
theorem divStep1(n:Nat)(t0 t1:List Int)(rec0:(Int×List Int×List Int)→Option ((List Int)×(List Int)))(t8:Int)(l12 l13:List Int) :
  Dspec_l1DivMag_1 n t0 t1 rec0 (t8,l12,l13)=frk (decide (t8≥0)) ((lget t0 t8).bind fun v1=>chk (apB 8 (1+l13.length)) ((Dspec_l1Num n false ([v1]++l13)).bind fun v3=>loopN (Dspec_l1DivMag_0 n rec0 t0 t1 t8) n (l12,v3.D))) (some (l12,l13)):=rfl
theorem divOut(n:Nat)(rec0:(Int×List Int×List Int)→Option ((List Int)×(List Int)))(t0:List Int)(i:Nat)(q:List Int)(x b m:Nat)(hx:x<b)(hb:b<1000000000000)(hn:101≤n)(hi:i≤1000)(hm:1≤m) :
  loopN (Dspec_l1DivMag_0 n rec0 t0 (dg b) (i:Int)) m (q,dg x)=rec0 ((i:Int)-1,q,dg x):=by
 obtain⟨m,rfl⟩:∃j,m=j+1:=⟨m-1,by omega⟩
 obtain⟨r,h1,h2⟩:=cmpOk n x b (by have:=dg_len3 (show x<1000000000000 by omega);omega) (by have:=dg_len3 hb;omega) hn
 rw[loop_suc,divStep0,h1,Option.bind_some,dec_f (by omega),frk_f,w64_id (by omega) (by omega)]
theorem set_same{l:List Int}{i:Nat}(h:l[i]?=some 0):l.set i 0=l:=by
 apply List.ext_getElem?
 intro j
 rw[List.getElem?_set]
 split
 ·rename_i hj
  subst hj
  have:=(List.getElem?_eq_some_iff.1 h).1
  rw[if_pos this,h]
 ·rfl
theorem divIn(n:Nat)(rec0:(Int×List Int×List Int)→Option ((List Int)×(List Int)))(t0:List Int)(i:Nat)(q:List Int)(x b:Nat)(hx:x<1000000000000)(hb0:0<b)(hb:b<1000000000000)(hq:x / b≤9999)(hi:i≤1000)(hz:q[i]?=some 0)(hn:101≤n) :
  loopN (Dspec_l1DivMag_0 n rec0 t0 (dg b) (i:Int)) n (q,dg x)=rec0 ((i:Int)-1,q.set i ((x / b:Nat):Int),dg (x % b)):=by
 by_cases h:x<b
 ·rw[divOut n rec0 t0 i q x b n h hb hn hi (by omega),Nat.div_eq_of_lt h,Nat.mod_eq_of_lt h]
  rw[show ((0:Nat):Int)=0 from rfl,set_same hz]
 ·obtain⟨m,hm⟩:∃j,n=j+1:=⟨n-1,by omega⟩
  have l1:=dg_len3 hx
  have l2:=dg_len3 hb
  obtain⟨r,h1,h2⟩:=cmpOk n x b (by omega) (by omega) hn
  have hg:=guessOk n x b hx hb0 (by omega) (by omega)
  have hy0:(0:Int)≤((x / b:Nat):Int):=Int.natCast_nonneg _
  have hy:(0:Int)≤((x / b:Nat):Int)∧((x / b:Nat):Int)≤9999:=by omega
  obtain⟨P,p1,p2,p3,p4⟩:=mulOk n ((x / b:Nat):Int) 0 hy (by omega) (Dg_dg b) (by omega) hn
  have hmul:b*(x / b)≤x:=Nat.mul_div_le x b
  have hmod:x % b=x-b*(x / b):=by have:=Nat.div_add_mod x b;omega
  have p3':vl P=((b*(x / b):Nat):Int):=by
   rw[p3,vl_dg,show ((x / b:Nat):Int)+10000*0=((x / b:Nat):Int) by omega];exact(Int.natCast_mul _ _).symm
  have hP:=numOk n false P p2 (by omega) p3' (by omega)
  obtain⟨R,r1,r2,r3,r4⟩:=subOk n (Dg_dg x) (Dg_dg (b*(x / b))) (by omega) (by rw[vl_dg,vl_dg];omega) hn
  have r3':vl R=((x % b:Nat):Int):=by rw[r3,vl_dg,vl_dg];omega
  have hR:=numOk n false R r2 (by omega) r3' (by omega)
  have hgen:loopN (Dspec_l1DivMag_0 n rec0 t0 (dg b) (i:Int)) (m+1) (q,dg x)=rec0 ((i:Int)-1,q.set i ((x / b:Nat):Int),dg (x % b)):=by
   rw[loop_suc,divStep0,h1,Option.bind_some,dec_t (by omega),frk_t,hg,Option.bind_some,lget_nat,hz,Option.bind_some,Option.bind_some]
   have e1:Int.tmod ((x / b:Nat):Int) 10000=((x / b:Nat):Int):=by rw[Int.tmod_eq_emod_of_nonneg (by omega)];omega
   have e2:w64 (Int.tdiv ((x / b:Nat):Int) 10000)=0:=by rw[Int.tdiv_eq_ediv_of_nonneg (by omega),w64_id (by omega) (by omega)];omega
   rw[e1,e2,p1,Option.bind_some,hP,Option.bind_some]
   show ((Dspec_l1SubMag n (dg x) (dg (b*(x / b)))).bind _)=_
   rw[r1,Option.bind_some,hR,Option.bind_some]
   rw[w64_id (x:=0+((x / b:Nat):Int)) (by omega) (by omega),show (0:Int)+((x / b:Nat):Int)=((x / b:Nat):Int) by omega,Int.toNat_natCast]
   exact divOut n rec0 t0 i _ (x % b) b m (Nat.mod_lt _ hb0) hb hn hi (by omega)
  rw[←hm] at hgen
  exact hgen
theorem divLoop(n A b:Nat)(hA:A<1000000000000)(hb0:0<b)(hb:b<1000000000000)(hn:101≤n):∀(i m:Nat) (qh:List Int) (H:Nat),i≤(dg A).length→i<m→vl ((dg A).drop i)=H→Dg qh→vl qh=((H / b:Nat):Int) →
  ∃q,loopN (Dspec_l1DivMag_1 n (dg A) (dg b)) m ((i:Int)-1,List.replicate i 0++qh,dg (H % b))=some (q,dg (A % b))∧Dg q∧vl q=((A / b:Nat):Int)∧q.length=i+qh.length:=by
 have l1:=dg_len3 hA
 intro i
 induction i with
 | zero =>
  intro m qh H _ hm hH hD hv
  obtain⟨m,rfl⟩:∃j,m=j+1:=⟨m-1,by omega⟩
  rw[List.drop_zero,vl_dg] at hH
  have:A=H:=by omega
  subst this
  exact⟨qh,by rw[loop_suc,divStep1,dec_f (by omega),frk_f];rfl,hD,hv,by omega⟩
 | succ i ih =>
  intro m qh H hi hm hH hD hv
  obtain⟨m,rfl⟩:∃j,m=j+1:=⟨m-1,by omega⟩
  obtain⟨d,hd⟩:∃d,(dg A)[i]?=some d:=⟨(dg A)[i],List.getElem?_eq_getElem (by omega)⟩
  have hdb:=(Dg_dg A).get hd
  obtain⟨e,rfl⟩:∃e:Nat,d=e:=⟨d.toNat,by omega⟩
  have hlt:=Nat.mod_lt H hb0
  have hdm:=Nat.div_add_mod H b
  have hH':vl ((dg A).drop i)=((e+10000*H:Nat):Int):=by rw[vl_drop_s hd,hH];omega
  have hle:=vl_drop_le (Dg_dg A) i
  rw[hH',vl_dg] at hle
  have hmodle:H % b≤H:=Nat.mod_le H b
  have lr:=dg_len3 (show H % b<1000000000000 by omega)
  have hx:e+10000*(H % b)<1000000000000:=by omega
  have hsplit:e+10000*H=(e+10000*(H % b))+b*(10000*(H / b)):=by
   have:b*(10000*(H / b))=10000*(b*(H / b)):=by rw[←Nat.mul_assoc,Nat.mul_comm b 10000,Nat.mul_assoc]
   omega
  have hdiv:(e+10000*H) / b=(e+10000*(H % b)) / b+10000*(H / b):=by rw[hsplit,Nat.add_mul_div_left _ _ hb0]
  have hmod:(e+10000*H) % b=(e+10000*(H % b)) % b:=by rw[hsplit,Nat.add_mul_mod_self_left]
  have hq:(e+10000*(H % b)) / b≤9999:=by
   have:(e+10000*(H % b)) / b<10000:=by rw[Nat.div_lt_iff_lt_mul hb0];omega
   omega
  have hnum:=numOk n false ([(e:Int)]++dg (H % b)) (Dg.cons hdb.1 hdb.2 (Dg_dg _)) (by simp;omega) (v:=e+10000*(H % b)) (by show (e:Int)+10000*vl (dg (H % b))=_;rw[vl_dg];omega) (by simp;omega)
  have hz:(List.replicate (i+1) (0:Int)++qh)[i]?=some 0:=by
   rw[List.getElem?_append_left (by simp)];simp
  have hin:=divIn n (loopN (Dspec_l1DivMag_1 n (dg A) (dg b)) m) (dg A) i (List.replicate (i+1) 0++qh) (e+10000*(H % b)) b hx hb0 hb hq (by omega) hz hn
  have hset:(List.replicate (i+1) (0:Int)++qh).set i (((e+10000*(H % b)) / b:Nat):Int)=List.replicate i 0++((((e+10000*(H % b)) / b:Nat):Int)::qh):=by
   have e1:List.replicate (i+1) (0:Int)++qh=List.replicate i 0++(0::qh):=by
    rw[List.replicate_succ'];simp
   have e2:=set_pre (List.replicate i (0:Int)) 0 (0::qh) (((e+10000*(H % b)) / b:Nat):Int)
   rw[List.length_replicate] at e2
   rw[e1];exact e2
  have hy0:(0:Int)≤(((e+10000*(H % b)) / b:Nat):Int):=Int.natCast_nonneg _
  obtain⟨q,q1,q2,q3,q4⟩:=ih m ((((e+10000*(H % b)) / b:Nat):Int)::qh) (e+10000*H) (by omega) (by omega) hH' (Dg.cons hy0 (by omega) hD) (by
   show (((e+10000*(H % b)) / b:Nat):Int)+10000*vl qh=_
   rw[hv,hdiv];omega)
  refine⟨q,?_,q2,q3,by rw[q4,List.length_cons];omega⟩
  have ei:((i+1:Nat):Int)-1=(i:Int):=by omega
  rw[loop_suc,divStep1,ei,dec_t (by omega),frk_t,lget_nat,hd,Option.bind_some,chk_eq (apB8 (by omega)),hnum,Option.bind_some]
  refine hin.trans ?_
  rw[hset,←hmod]
  exact q1
theorem divOk(n A b:Nat)(hA:A<1000000000000)(hb0:0<b)(hb:b<1000000000000)(hn:101≤n) :
  ∃q,Dspec_l1DivMag n (dg A) (dg b)=some (q,dg (A % b))∧Dg q∧vl q=((A / b:Nat):Int)∧q.length≤3:=by
 have l1:=dg_len3 hA
 obtain⟨q,q1,q2,q3,q4⟩:=divLoop n A b hA hb0 hb hn (dg A).length n [] 0 (Nat.le_refl _) (by omega) (by rw[List.drop_length];rfl) Dg.nil (by simp[vl])
 refine⟨q,?_,q2,q3,by rw[q4];simpa using l1⟩
 unfold Dspec_l1DivMag
 rw[chk_eq (mkB8 (by omega) (by omega)),w64_id (by omega) (by omega),Int.toNat_natCast]
 rw[Nat.zero_mod,dg_zero,List.append_nil] at q1
 exact q1
theorem gcdStep(n:Nat)(rec0:(List Int×List Int)→Option (List Int))(t0 t1:List Int) :
  Dspec_l1Gcd_0 n rec0 (t0,t1)=frk (decide ((t1.length:Int)>0)) ((Dspec_l1DivMag n t0 t1).bind fun v0=>rec0 (t1,v0.2)) (some t0):=rfl
theorem gcdLoop(n:Nat)(hn:101≤n):∀(b a m:Nat),b<m→a<1000000000000→b<1000000000000→loopN (Dspec_l1Gcd_0 n) m (dg a,dg b)=some (dg (Nat.gcd a b)):=by
 intro b
 induction b using Nat.strongRecOn with
 | ind b ih =>
  intro a m hm ha hb
  obtain⟨m,rfl⟩:∃j,m=j+1:=⟨m-1,by omega⟩
  rw[loop_suc,gcdStep]
  by_cases h:b=0
  ·subst h;rw[dg_zero,dec_f (by simp),frk_f,Nat.gcd_zero_right]
  ·have hp:=List.length_pos_iff.2 (dg_ne.2 (show 0<b by omega))
   obtain⟨q,q1,-,-,-⟩:=divOk n a b ha (by omega) hb hn
   have hlt:=Nat.mod_lt a (show b>0 by omega)
   rw[dec_t (by omega),frk_t,q1,Option.bind_some]
   refine(ih (a % b) hlt b m (by omega) hb (by omega)).trans ?_
   rw[Nat.gcd_comm b,Nat.gcd_comm a,Nat.gcd_rec b a]
theorem gcd_lt{a b:Nat}(ha:a<1000000000000)(hb:b<1000000000000):Nat.gcd a b<1000000000000:=by
 by_cases h:b=0
 ·subst h;rw[Nat.gcd_zero_right];exact ha
 ·exact Nat.lt_of_le_of_lt (Nat.gcd_le_right a (by omega)) hb
theorem gcdOk(n:Nat)(g1 g2:Bool)(a b:Nat)(ha:a<1000000000000)(hb:b<1000000000000)(h1:g1=true→0<a)(h2:g2=true→0<b)(hbn:b<n)(hn:101≤n) :
  Dspec_Gcd n ⟨g1,dg a⟩ ⟨g2,dg b⟩=some ⟨false,dg (Nat.gcd a b)⟩:=by
 unfold Dspec_Gcd
 rw[magOk n g1 a ha h1 (by omega),Option.bind_some,magOk n g2 b hb h2 (by omega),Option.bind_some]
 unfold Dspec_l1Gcd
 rw[gcdLoop n hn b a n hbn ha hb,Option.bind_some,numOk n false _ (Dg_dg _) (by have:=dg_len3 (gcd_lt ha hb);omega) (vl_dg _) (by have:=dg_len3 (gcd_lt ha hb);omega)]
 rfl
def nm (x:Int):Num:=⟨decide (x<0),dg x.natAbs⟩
theorem ngStep(n:Nat)(t0:List Num)(b:Bool)(rec0:(Int×Bool×List Int)→Option Num)(t4:Int)(b3_0:Bool)(b3_1:List Int) :
  Dspec_l3NumGcd_0 n t0 b rec0 (t4,b3_0,b3_1)=frk (decide (t4<(t0.length:Int))) ((lget t0 t4).bind fun v1=>(Dspec_Gcd n (Num.mk b3_0 b3_1) v1).bind fun v2=>rec0 (w64 (t4+1),v2.Neg,v2.D)) (some (Num.mk b3_0 b3_1)):=rfl
theorem ngOne(n:Nat)(l:List Num)(b:Bool)(rec0:(Int×Bool×List Int)→Option Num)(i:Nat)(g:Nat){x:Int}(hx:l[i]?=some (nm x))(hg:g<1000000000000)(hb:x.natAbs<1000000000000)(hbn:x.natAbs<n)(hn:101≤n)(hi:i≤100) :
  Dspec_l3NumGcd_0 n l b rec0 ((i:Int),false,dg g)=rec0 (((i+1:Nat):Int),false,dg (Nat.gcd g x.natAbs)):=by
 have hil:=(List.getElem?_eq_some_iff.1 hx).1
 have hk:Dspec_Gcd n ⟨false,dg g⟩ (nm x)=_:=gcdOk n false (decide (x<0)) g x.natAbs hg hb (by simp) (by intro h;have:=of_decide_eq_true h;omega) hbn hn
 rw[ngStep,dec_t (by omega),frk_t,lget_nat,hx,Option.bind_some,hk,Option.bind_some,w64_suc (by unfold big;omega)]
def g4 (a b c d:Int):Nat:=Nat.gcd (Nat.gcd (Nat.gcd a.natAbs b.natAbs) c.natAbs) d.natAbs
theorem ngOk(n:Nat)(a b c d:Int)(ha:a.natAbs<1000000000000)(hb:b.natAbs<1000000000000)(hc:c.natAbs<1000000000000)(hd:d.natAbs<1000000000000)
  (na:a.natAbs<n) (nb:b.natAbs<n) (nc:c.natAbs<n) (nd:d.natAbs<n) (hn:101≤n):Dspec_l3NumGcd n [nm a,nm b,nm c,nm d]=some ⟨false,dg (g4 a b c d)⟩:=by
 unfold Dspec_l3NumGcd
 rw[ofOk n 0 (by decide) (by omega),Option.bind_some]
 obtain⟨m,hm⟩:∃j,n=j+5:=⟨n-5,by omega⟩
 have key:loopN (Dspec_l3NumGcd_0 n [nm a,nm b,nm c,nm d] false) (m+5) (((0:Nat):Int),false,dg 0)=some ⟨false,dg (g4 a b c d)⟩:=by
  rw[loop_suc,ngOne n _ _ _ 0 0 (x:=a) rfl (by omega) ha na hn (by omega),Nat.gcd_zero_left]
  rw[loop_suc,ngOne n _ _ _ 1 _ (x:=b) rfl ha hb nb hn (by omega)]
  rw[loop_suc,ngOne n _ _ _ 2 _ (x:=c) rfl (gcd_lt ha hb) hc nc hn (by omega)]
  rw[loop_suc,ngOne n _ _ _ 3 _ (x:=d) rfl (gcd_lt (gcd_lt ha hb) hc) hd nd hn (by omega)]
  rw[loop_suc,ngStep,dec_f (by show ¬(((3+1:Nat):Int)<((4:Nat):Int));omega),frk_f]
  rfl
 rw[←hm] at key
 exact key
theorem smallStep(n:Nat)(l:List Int)(b0:Bool)(b1:List Int)(rec0:(Int×Int)→Option (Int×Bool))(t5 t6:Int) :
  Dspec_Small_1 n l b0 b1 rec0 (t5,t6)=frk (decide (t6≥0)) (frk (decide (t5>922337203685477)) (some (0,false)) ((lget l t6).bind fun v1=>rec0 (IntKind.u64.wrap ((IntKind.u64.wrap (t5*10000))+(IntKind.u64.wrap v1)),w64 (t6-1)))) (Dspec_Small_0 n t5 b0 b1):=rfl
theorem smallLoop(n:Nat)(b0:Bool)(b1:List Int){a:List Int}(ha:Dg a)(hl:a.length≤3):∀(i m:Nat),i≤a.length→i<m →
  loopN (Dspec_Small_1 n a b0 b1) m (vl (a.drop i),(i:Int)-1)=Dspec_Small_0 n (vl a) b0 b1:=by
 intro i
 induction i with
 | zero =>
  intro m _ hm
  obtain⟨m,rfl⟩:∃j,m=j+1:=⟨m-1,by omega⟩
  rw[loop_suc,smallStep,dec_f (by omega),frk_f];rfl
 | succ i ih =>
  intro m hi hm
  obtain⟨m,rfl⟩:∃j,m=j+1:=⟨m-1,by omega⟩
  obtain⟨x,hx⟩:∃d,a[i]?=some d:=⟨a[i],List.getElem?_eq_getElem (by omega)⟩
  have e:((i+1:Nat):Int)-1=(i:Int):=by omega
  have b1':=vl_small ha hl
  have b2:=vl_drop_le ha i
  have b3:=vl_nn (ha.drop i)
  have b4:=vl_nn (ha.drop (i+1))
  have b5:=ha.get hx
  have e2:=vl_drop_s hx
  rw[loop_suc,smallStep,e,dec_t (by omega),frk_t,dec_f (by omega),frk_f,lget_nat,hx,Option.bind_some]
  rw[u64w (x:=vl (a.drop (i+1))*10000) (by omega) (by omega),u64w (x:=x) (by omega) (by omega),show vl (a.drop (i+1))*10000+x=vl (a.drop i) by omega,u64w (x:=vl (a.drop i)) (by omega) (by omega),w64_id (x:=(i:Int)-1) (by omega) (by omega)]
  exact ih m (by omega) (by omega)
theorem smallOk(n:Nat)(g:Bool)(v:Nat)(hv:v<1000000000000)(hg:g=true→0<v)(hn:5≤n):Dspec_Small n ⟨g,dg v⟩=some (if g then -(v:Int) else (v:Int),true):=by
 have l1:=dg_len3 hv
 unfold Dspec_Small
 rw[magOk n g v hv hg hn,Option.bind_some,dec_f (by omega),frk_f,w64_id (by omega) (by omega)]
 have e1:=smallLoop n g (dg v) (Dg_dg v) l1 (dg v).length n (Nat.le_refl _) (by omega)
 rw[List.drop_length] at e1
 have e1':loopN (Dspec_Small_1 n (dg v) g (dg v)) n ((0:Int),((dg v).length:Int)-1)=_:=e1
 rw[e1',vl_dg]
 unfold Dspec_Small_0
 rw[signOk n g v hv hg hn,Option.bind_some]
 cases g with
 | true =>
  have:=hg rfl
  rw[frk_t,dec_f (by omega),frk_f,u64w (by omega) (by omega),w64_id (x:=(v:Int)-1) (by omega) (by omega),w64_id (x:=0-((v:Int)-1)) (by omega) (by omega),w64_id (by omega) (by omega)]
  simp only[if_true];congr 2;omega
 | false =>
  rw[frk_f,dec_f (by omega),frk_f,w64_id (by omega) (by omega)];rfl
def pq (x:Int)(g:Nat):Int:=if x<0 then -((x.natAbs / g:Nat):Int) else ((x.natAbs / g:Nat):Int)
theorem compStep{β:Type}(n:Nat)(x:Int)(g:Nat)(hx:x.natAbs<1000000000000)(hg0:0<g)(hg:g<1000000000000)(hn:101≤n)(K:Int×Bool→Option β) :
  ((Dspec_l1DivMag n (dg x.natAbs) (dg g)).bind fun v5=>(Dspec_l1Num n (decide (x<0)) v5.1).bind fun v6=>(Dspec_Small n v6).bind K)=K (pq x g,true):=by
 obtain⟨q,q1,q2,q3,q4⟩:=divOk n x.natAbs g hx hg0 hg hn
 have hle:x.natAbs / g≤x.natAbs:=Nat.div_le_self _ _
 have h00:(0:Int)≤((x.natAbs / g:Nat):Int):=Int.natCast_nonneg _
 rw[q1,Option.bind_some,numOk n _ q q2 (by omega) q3 (by omega),Option.bind_some,smallOk n _ _ (by omega) (by simp) (by omega),Option.bind_some]
 congr 2
 unfold pq
 by_cases h:x<0
 ·by_cases h2:0<x.natAbs / g
  ·rw[dec_t h,dec_t h2,if_pos h];rfl
  ·rw[dec_t h,dec_f h2,if_pos h];simp only[Bool.and_false,Bool.false_eq_true,if_false];omega
 ·rw[dec_f h,if_neg h];rfl
def prim (a b c d:Int):Pl×Int :=
 if a=0∧b=0∧c=0 then (⟨0,0,0,0⟩,1)
 else if rIn (pq a (g4 a b c d)) (-500) 500&&(rIn (pq b (g4 a b c d)) (-500) 500&&(rIn (pq c (g4 a b c d)) (-500) 500&&rIn (pq d (g4 a b c d)) (-500) 500)) then (⟨pq a (g4 a b c d),pq b (g4 a b c d),pq c (g4 a b c d),pq d (g4 a b c d)⟩,0)
 else (⟨0,0,0,0⟩,2)
theorem g4_pos{a b c d:Int}(h:¬(a=0∧b=0∧c=0)):0<g4 a b c d:=by
 unfold g4
 apply Nat.pos_of_ne_zero
 intro h0
 have h1:=(Nat.gcd_eq_zero_iff.1 h0).1
 have h2:=Nat.gcd_eq_zero_iff.1 h1
 have h3:=Nat.gcd_eq_zero_iff.1 h2.1
 omega
theorem prim_body(n:Nat)(a b c d:Int)(ha:a.natAbs<1000000000000)(hb:b.natAbs<1000000000000)(hc:c.natAbs<1000000000000)(hd:d.natAbs<1000000000000)
  (na:a.natAbs<n) (nb:b.natAbs<n) (nc:c.natAbs<n) (nd:d.natAbs<n) (hn:101≤n) (h0:¬(a=0∧b=0∧c=0)):Dspec_Primitive_5 n a b c d 0 0 0 0=some (prim a b c d):=by
 have hp:=g4_pos (d:=d) h0
 have hg:g4 a b c d<1000000000000:=gcd_lt (gcd_lt (gcd_lt ha hb) hc) hd
 unfold prim
 rw[if_neg h0]
 unfold Dspec_Primitive_5
 have ea:Dspec_Of n a=some (nm a):=ofOk n a ha (by omega)
 have eb:Dspec_Of n b=some (nm b):=ofOk n b hb (by omega)
 have ec:Dspec_Of n c=some (nm c):=ofOk n c hc (by omega)
 have ed:Dspec_Of n d=some (nm d):=ofOk n d hd (by omega)
 rw[ea,Option.bind_some,eb,Option.bind_some,ec,Option.bind_some,ed,Option.bind_some,ngOk n a b c d ha hb hc hd na nb nc nd hn,Option.bind_some]
 refine(compStep n a (g4 a b c d) ha hp hg hn _).trans ?_
 rw[show (!(pq a (g4 a b c d),true).2)=false from rfl,frk_f,sIn,Option.bind_some]
 unfold Dspec_Primitive_1
 cases hA:rIn (pq a (g4 a b c d)) (-500) 500
 ·rfl
 rw[show (!true)=false from rfl,frk_f,chk_eq (apB8 (by simp)),show lget [nm a,nm b,nm c,nm d] 1=some (nm b) from rfl,Option.bind_some]
 refine(compStep n b (g4 a b c d) hb hp hg hn _).trans ?_
 rw[show (!(pq b (g4 a b c d),true).2)=false from rfl,frk_f,sIn,Option.bind_some]
 unfold Dspec_Primitive_2
 cases hB:rIn (pq b (g4 a b c d)) (-500) 500
 ·rfl
 rw[show (!true)=false from rfl,frk_f,chk_eq (apB8 (by simp)),show lget [nm a,nm b,nm c,nm d] 2=some (nm c) from rfl,Option.bind_some]
 refine(compStep n c (g4 a b c d) hc hp hg hn _).trans ?_
 rw[show (!(pq c (g4 a b c d),true).2)=false from rfl,frk_f,sIn,Option.bind_some]
 unfold Dspec_Primitive_3
 cases hC:rIn (pq c (g4 a b c d)) (-500) 500
 ·rfl
 rw[show (!true)=false from rfl,frk_f,chk_eq (apB8 (by simp)),show lget [nm a,nm b,nm c,nm d] 3=some (nm d) from rfl,Option.bind_some]
 refine(compStep n d (g4 a b c d) hd hp hg hn _).trans ?_
 rw[show (!(pq d (g4 a b c d),true).2)=false from rfl,frk_f,sIn,Option.bind_some]
 unfold Dspec_Primitive_4
 cases hE:rIn (pq d (g4 a b c d)) (-500) 500
 ·rfl
 rw[show (!true)=false from rfl,frk_f,chk_eq (apB8 (by simp))]
 rfl
theorem primOk(n:Nat)(a b c d:Int)(ha:a.natAbs<1000000000000)(hb:b.natAbs<1000000000000)(hc:c.natAbs<1000000000000)(hd:d.natAbs<1000000000000)
  (na:a.natAbs<n) (nb:b.natAbs<n) (nc:c.natAbs<n) (nd:d.natAbs<n) (hn:101≤n):Dspec_Primitive n a b c d=some (prim a b c d):=by
 unfold Dspec_Primitive
 by_cases h1:a=0
 ·by_cases h2:b=0
  ·by_cases h3:c=0
   ·subst h1;subst h2;subst h3;rfl
   ·have e:=prim_body n a b c d ha hb hc hd na nb nc nd hn (by omega)
    rw[show (a==0)=true by simpa using h1,frk_t,show (b==0)=true by simpa using h2,frk_t]
    rw[show (c==0)=false by simpa using h3]
    exact e
  ·have e:=prim_body n a b c d ha hb hc hd na nb nc nd hn (by omega)
   rw[show (a==0)=true by simpa using h1,frk_t,show (b==0)=false by simpa using h2,frk_f]
   exact e
 ·have e:=prim_body n a b c d ha hb hc hd na nb nc nd hn (by omega)
  rw[show (a==0)=false by simpa using h1,frk_f]
  exact e
end Evl.T
namespace Evl.T
open Go Evl
theorem wth_iff(l:List Pl)(p:Pl):wth l p=true↔∃i,i<l.length∧(cl2 (gt l i) p=true∨∃j,i<j∧j<l.length∧(cl3 (gt l i) (gt l j) p=true∨∃k,j<k∧k<l.length∧cl4 (gt l i) (gt l j) (gt l k) p=true)):=by
 unfold wth sAny3 sAny4
 simp only[List.any_eq_true,List.mem_range'_1,Bool.or_eq_true]
 constructor
 ·rintro⟨i,hi,h | ⟨j,hj,h | ⟨k,hk,h⟩⟩⟩
  ·exact⟨i,by omega,.inl h⟩
  ·exact⟨i,by omega,.inr ⟨j,by omega,by omega,.inl h⟩⟩
  ·exact⟨i,by omega,.inr ⟨j,by omega,by omega,.inr ⟨k,by omega,by omega,h⟩⟩⟩
 ·rintro⟨i,hi,h | ⟨j,hj,hj2,h | ⟨k,hk,hk2,h⟩⟩⟩
  ·exact⟨i,by omega,.inl h⟩
  ·exact⟨i,by omega,.inr ⟨j,by omega,.inl h⟩⟩
  ·exact⟨i,by omega,.inr ⟨j,by omega,.inr ⟨k,by omega,h⟩⟩⟩
theorem Rt.lens{s:Sol}{path:List Pl}(h:Rt s path):Lens s:=by
 induction h with
 | leaf hz=>exact .mk (by simp[big]) (by simp)
 | node _ _ _ _ _ _ iha ihb =>
  refine .mk (by simp[big]) fun x hx=>?_
  simp only[List.mem_cons,List.not_mem_nil,or_false] at hx
  rcases hx with rfl | rfl
  ·exact iha
  ·exact ihb
end Evl.T
namespace Evl.T
open Go Evl
def sm (f:Pl→Int):List (Int×Pl)→Int
 | []=>0
 | x::r=>x.1*f x.2+sm f r
theorem sm_cons(f:Pl→Int)(x:Int×Pl)(r:List (Int×Pl)):sm f (x::r)=x.1*f x.2+sm f r:=rfl
theorem sm_nil(f:Pl→Int):sm f []=0:=rfl
structure Cert(c:List (Int×Pl)):Prop where
 pos:∀x∈c,0<x.1
 a:sm Pl.A c=0
 b:sm Pl.B c=0
 cc:sm Pl.C c=0
 d:sm Pl.D c≤0
 ne:c≠[]
def tw (t:List (Int×Int×Pl)):List (Int×Pl):=t.map fun x=>(x.1,x.2.2)
def tv (t:List (Int×Int×Pl)):List (Int×Pl):=t.map fun x=>(x.2.1,x.2.2)
def tm (a b:Int)(t:List (Int×Int×Pl)):List (Int×Pl):=t.map fun x=>(a*x.1+b*x.2.1,x.2.2)
theorem sm_tm(f:Pl→Int)(a b:Int)(t:List (Int×Int×Pl)):sm f (tm a b t)=a*sm f (tw t)+b*sm f (tv t):=by
 induction t with
 | nil=>simp[tm,tw,tv,sm]
 | cons x r ih =>
  simp only[tm,tw,tv,List.map_cons,sm_cons] at ih ⊢
  rw[ih];grind
def pst (c:List (Int×Pl)):List (Int×Pl):=c.filter fun x=>decide (0<x.1)
theorem sm_pst(f:Pl→Int)(c:List (Int×Pl))(h:∀x∈c,0≤x.1):sm f (pst c)=sm f c:=by
 induction c with
 | nil=>rfl
 | cons x r ih =>
  have ih:=ih fun y hy=>h y (List.mem_cons_of_mem _ hy)
  have hx:=h x List.mem_cons_self
  unfold pst at ih ⊢
  by_cases hp:0<x.1
  ·rw[List.filter_cons_of_pos (by simpa using hp),sm_cons,sm_cons,ih]
  ·rw[List.filter_cons_of_neg (by simpa using hp),sm_cons,ih,show x.1=0 by omega];omega
theorem pst_pos{c:List (Int×Pl)}{x:Int×Pl}(h:x∈pst c):0<x.1:=by
 unfold pst at h;simpa using (List.mem_filter.1 h).2
theorem pst_sub(c:List (Int×Pl)):(pst c).Sublist c:=List.filter_sublist
theorem pst_lt{c:List (Int×Pl)}{x:Int×Pl}(h:x∈c)(h0:x.1=0):(pst c).length<c.length:=by
 rcases Nat.lt_or_ge (pst c).length c.length with h1 | h1
 ·exact h1
 ·have e:=(pst_sub c).eq_of_length_le h1
  rw[←e] at h;have:=pst_pos h;omega
theorem mul_can{a b c:Int}(h:a*c≤b*c)(hc:0<c):a≤b:=Int.le_of_mul_le_mul_right h hc
theorem most(t:List (Int×Int×Pl))(h:∀x∈t,0<x.1)(hn:t≠[]):∃m∈t,∀x∈t,x.2.1*m.1≤m.2.1*x.1:=by
 induction t with
 | nil=>exact absurd rfl hn
 | cons x r ih =>
  have hx:=h x List.mem_cons_self
  by_cases hr:r=[]
  ·subst hr
   exact⟨x,List.mem_cons_self,fun y hy=>by rw[List.mem_singleton.1 hy];exact Int.le_refl _⟩
  ·obtain⟨m,hm,h1⟩:=ih (fun y hy=>h y (List.mem_cons_of_mem _ hy)) hr
   have hmp:=h m (List.mem_cons_of_mem _ hm)
   by_cases hc:x.2.1*m.1≤m.2.1*x.1
   ·refine⟨m,List.mem_cons_of_mem _ hm,fun y hy=>?_⟩
    rcases List.mem_cons.1 hy with rfl | hy
    ·exact hc
    ·exact h1 y hy
   ·refine⟨x,List.mem_cons_self,fun y hy=>?_⟩
    rcases List.mem_cons.1 hy with rfl | hy
    ·exact Int.le_refl _
    ·have hyp:=h y (List.mem_cons_of_mem _ hy)
     have h2:=h1 y hy
     refine mul_can (c:=m.1) ?_ hmp
     have h3:y.2.1*m.1*x.1≤m.2.1*y.1*x.1:=Int.mul_le_mul_of_nonneg_right h2 (by omega)
     have h4:m.2.1*x.1*y.1≤x.2.1*m.1*y.1:=Int.mul_le_mul_of_nonneg_right (by omega) (by omega)
     have e1:y.2.1*x.1*m.1=y.2.1*m.1*x.1:=by grind
     have e2:m.2.1*y.1*x.1=m.2.1*x.1*y.1:=by grind
     have e3:x.2.1*y.1*m.1=x.2.1*m.1*y.1:=by grind
     omega
theorem least(t:List (Int×Int×Pl))(h:∀x∈t,0<x.1)(hn:t≠[]):∃m∈t,∀x∈t,m.2.1*x.1≤x.2.1*m.1:=by
 obtain⟨m,hm,h1⟩:=most (t.map fun x=>(x.1,-x.2.1,x.2.2)) (fun x hx=>by
  obtain⟨y,hy,rfl⟩:=List.mem_map.1 hx;exact h y hy) (by simpa using hn)
 obtain⟨k,hk,rfl⟩:=List.mem_map.1 hm
 refine⟨k,hk,fun x hx=>?_⟩
 have:=h1 _ (List.mem_map.2 ⟨x,hx,rfl⟩)
 simp only[Int.neg_mul] at this
 omega
theorem snd_tm(a b:Int)(t:List (Int×Int×Pl)):(tm a b t).map (·.2)=t.map (·.2.2):=by simp[tm]
theorem red(t:List (Int×Int×Pl))(hc:Cert (tw t))(ha:sm Pl.A (tv t)=0)(hb:sm Pl.B (tv t)=0)(hcc:sm Pl.C (tv t)=0)
  (hne:∃x∈t,∃y∈t,x.1*y.2.1≠y.1*x.2.1):∃c,Cert c∧c.length<t.length∧(c.map (·.2)).Sublist (t.map (·.2.2)):=by
 have hp:∀x∈t,0<x.1:=fun x hx=>hc.pos _ (List.mem_map.2 ⟨x,hx,rfl⟩)
 obtain⟨x,hx,y,hy,hxy⟩:=hne
 have hn:t≠[]:=fun h=>by rw[h] at hx;cases hx
 obtain⟨m,hm,h1⟩:=most t hp hn
 obtain⟨k,hk,h2⟩:=least t hp hn
 have hmp:=hp m hm;have hkp:=hp k hk
 have hlt:k.2.1*m.1<m.2.1*k.1:=by
  rcases Int.lt_or_le (k.2.1*m.1) (m.2.1*k.1) with h | h
  ·exact h
  ·exfalso
   have same:∀z∈t,z.2.1*m.1=m.2.1*z.1:=fun z hz=>by
    have a1:=h1 z hz;have a2:=h2 z hz
    have hzp:=hp z hz
    have b1:m.2.1*k.1*z.1≤k.2.1*m.1*z.1:=Int.mul_le_mul_of_nonneg_right h (by omega)
    have b2:k.2.1*z.1*m.1≤z.2.1*k.1*m.1:=Int.mul_le_mul_of_nonneg_right a2 (by omega)
    have b3:m.2.1*z.1≤z.2.1*m.1:=mul_can (c:=k.1) (by
     have e1:m.2.1*z.1*k.1=m.2.1*k.1*z.1:=by grind
     have e2:k.2.1*m.1*z.1=k.2.1*z.1*m.1:=by grind
     have e3:z.2.1*m.1*k.1=z.2.1*k.1*m.1:=by grind
     omega) hkp
    omega
   have s1:=same x hx;have s2:=same y hy
   apply hxy
   have:(x.1*y.2.1)*m.1=(y.1*x.2.1)*m.1:=by grind
   exact Int.eq_of_mul_eq_mul_right (by omega) this
 have main:∀(a b:Int),(∀z∈t,0≤a*z.1+b*z.2.1)→(∃z∈t,0<a*z.1+b*z.2.1)→(∃z∈t,a*z.1+b*z.2.1=0)→a*sm Pl.D (tw t)+b*sm Pl.D (tv t)≤0 →
   ∃c,Cert c∧c.length<t.length∧(c.map (·.2)).Sublist (t.map (·.2.2)):=by
  intro a b q1 q2 q3 q4
  have hge:∀z∈tm a b t,0≤z.1:=fun z hz=>by obtain⟨w,hw,rfl⟩:=List.mem_map.1 hz;exact q1 w hw
  refine⟨pst (tm a b t),⟨fun z hz=>pst_pos hz,?_,?_,?_,?_,?_⟩,?_,?_⟩
  ·rw[sm_pst _ _ hge,sm_tm,hc.a,ha];simp
  ·rw[sm_pst _ _ hge,sm_tm,hc.b,hb];simp
  ·rw[sm_pst _ _ hge,sm_tm,hc.cc,hcc];simp
  ·rw[sm_pst _ _ hge,sm_tm];exact q4
  ·obtain⟨z,hz,h0⟩:=q2
   intro h
   have:(a*z.1+b*z.2.1,z.2.2)∈pst (tm a b t):=List.mem_filter.2 ⟨List.mem_map.2 ⟨z,hz,rfl⟩,by simpa using h0⟩
   rw[h] at this;cases this
  ·obtain⟨z,hz,h0⟩:=q3
   have:=pst_lt (c:=tm a b t) (x:=(a*z.1+b*z.2.1,z.2.2)) (List.mem_map.2 ⟨z,hz,rfl⟩) h0
   rwa [show (tm a b t).length=t.length by simp[tm]] at this
  ·rw[←snd_tm a b t];exact(pst_sub _).map _
 have hD:=hc.d
 by_cases hs:m.2.1*sm Pl.D (tw t)+(-m.1)*sm Pl.D (tv t)≤0
 ·refine main m.2.1 (-m.1) (fun z hz=>?_) ⟨k,hk,?_⟩ ⟨m,hm,?_⟩ hs
  ·have:=h1 z hz;rw[Int.neg_mul,Int.mul_comm m.1];omega
  ·rw[Int.neg_mul,Int.mul_comm m.1];omega
  ·grind
 ·refine main (-k.2.1) k.1 (fun z hz=>?_) ⟨m,hm,?_⟩ ⟨k,hk,?_⟩ ?_
  ·have:=h2 z hz;rw[Int.neg_mul,Int.mul_comm k.1];omega
  ·rw[Int.neg_mul,Int.mul_comm k.1];omega
  ·grind
  ·have q1:0<(m.2.1*sm Pl.D (tw t)+(-m.1)*sm Pl.D (tv t))*k.1:=Int.mul_pos (by omega) hkp
   have q2:(m.2.1*k.1-k.2.1*m.1)*sm Pl.D (tw t)≤0:=Int.mul_nonpos_of_nonneg_of_nonpos (by omega) hD
   refine mul_can (c:=m.1) ?_ hmp
   have e:((-k.2.1)*sm Pl.D (tw t)+k.1*sm Pl.D (tv t))*m.1=(m.2.1*k.1-k.2.1*m.1)*sm Pl.D (tw t)-(m.2.1*sm Pl.D (tw t)+(-m.1)*sm Pl.D (tv t))*k.1:=by grind
   rw[e];omega
theorem sub_get{x:Pl}{r:List Pl}:∀{l:List Pl},(x::r).Sublist l→∃j,j<l.length∧gt l j=x∧r.Sublist (l.drop (j+1)):=by
 intro l
 induction l with
 | nil=>intro h;cases h
 | cons y l ih =>
  intro h
  cases h with
  | cons _ h =>
   obtain⟨j,h1,h2,h3⟩:=ih h
   exact⟨j+1,by simp only[List.length_cons];omega,h2,h3⟩
  | cons_cons _ h=>exact⟨0,by simp,rfl,h⟩
theorem gt_drop(l:List Pl)(i j:Nat):gt (l.drop i) j=gt l (i+j):=by unfold gt;rw[List.getElem?_drop]
theorem get_sub{l:List Pl}{i:Nat}{r:List Pl}(h:i<l.length)(hr:r.Sublist (l.drop (i+1))):(gt l i::r).Sublist (l.drop i):=by
 rw[List.drop_eq_getElem_cons h,show gt l i=l[i] by unfold gt;rw[List.getElem?_eq_getElem h];rfl]
 exact hr.cons_cons _
theorem drop_up{l r:List Pl}{i j:Nat}(h:i≤j)(hr:r.Sublist (l.drop j)):r.Sublist (l.drop i):=by
 have e:l.drop j=(l.drop i).drop (j-i):=by rw[List.drop_drop];congr 1;omega
 rw[e] at hr
 exact hr.trans (List.drop_sublist _ _)
theorem drop_any{l r:List Pl}{j:Nat}(hr:r.Sublist (l.drop j)):r.Sublist l:=drop_up (Nat.zero_le j) hr
theorem wth_sub(l:List Pl)(p:Pl):wth l p=true↔(∃q,[q].Sublist l∧cl2 q p=true)∨(∃q r,[q,r].Sublist l∧cl3 q r p=true)∨(∃q r s,[q,r,s].Sublist l∧cl4 q r s p=true):=by
 rw[wth_iff]
 constructor
 ·rintro⟨i,hi,h | ⟨j,hj,hj2,h | ⟨k,hk,hk2,h⟩⟩⟩
  ·exact .inl ⟨_,drop_any (get_sub hi (List.nil_sublist _)),h⟩
  ·exact .inr (.inl ⟨_,_,drop_any (get_sub hi (drop_up (j:=j) hj (get_sub hj2 (List.nil_sublist _)))),h⟩)
  ·exact .inr (.inr ⟨_,_,_,drop_any (get_sub hi (drop_up (j:=j) hj (get_sub hj2 (drop_up (j:=k) hk (get_sub hk2 (List.nil_sublist _)))))),h⟩)
 ·rintro(⟨q,h1,h⟩ | ⟨q,r,h1,h⟩ | ⟨q,r,s,h1,h⟩)
  ·obtain⟨i,hi,rfl,_⟩:=sub_get h1
   exact⟨i,hi,.inl h⟩
  ·obtain⟨i,hi,rfl,h2⟩:=sub_get h1
   obtain⟨j,hj,rfl,_⟩:=sub_get h2
   rw[gt_drop] at h;rw[List.length_drop] at hj
   exact⟨i,hi,.inr ⟨i+1+j,by omega,by omega,.inl h⟩⟩
  ·obtain⟨i,hi,rfl,h2⟩:=sub_get h1
   obtain⟨j,hj,rfl,h3⟩:=sub_get h2
   obtain⟨k,hk,rfl,_⟩:=sub_get h3
   rw[gt_drop,gt_drop,gt_drop] at h;rw[List.length_drop] at hj hk;rw[List.length_drop] at hk
   exact⟨i,hi,.inr ⟨i+1+j,by omega,by omega,.inr ⟨i+1+(j+1+k),by omega,by omega,h⟩⟩⟩
inductive Opn:List Pl→Prop
 | nil:Opn []
 | snoc {l p}:Opn l→wth l p=false→Opn (l++[p])
theorem sub_snoc{r l:List Pl}{p q:Pl}(h:(r++[p]).Sublist (l++[q])):(r++[p]).Sublist l∨(p=q∧r.Sublist l):=by
 have h:=h.reverse
 rw[List.reverse_append,List.reverse_append] at h
 simp only[List.reverse_singleton,List.singleton_append] at h
 cases h with
 | cons _ h=>left;have:=h.reverse;simpa using this
 | cons_cons _ h=>right;exact⟨rfl,by have:=h.reverse;simpa using this⟩
theorem Opn.last{l:List Pl}(h:Opn l){r:List Pl}{p:Pl}(hs:(r++[p]).Sublist l):∃l',r.Sublist l'∧wth l' p=false:=by
 induction h with
 | nil=>have:=hs.length_le;simp at this
 | @snoc l q _ hw ih =>
  rcases sub_snoc hs with h | ⟨rfl,h⟩
  ·exact ih h
  ·exact⟨l,h,hw⟩
def Nz (p:Pl):Prop:=p.A≠0∨p.B≠0∨p.C≠0
theorem pOk_Nz{p:Pl}(h:pOk p=true):Nz p:=by
 unfold pOk at h;simp only[Bool.and_eq_true,decide_eq_true_eq] at h;exact h.2.2.2.2.1
theorem cr_dep(p q:Pl):cr0 p q=0∧cr1 p q=0∧cr2 p q=0→Nz p→Nz q→∃x y,x≠0∧y≠0∧x*p.A+y*q.A=0∧x*p.B+y*q.B=0∧x*p.C+y*q.C=0:=by
 obtain⟨a,b,c,d⟩:=p;obtain⟨e,f,g,i⟩:=q
 unfold Nz cr0 cr1 cr2
 simp only
 rintro⟨h0,h1,h2⟩ hp hq
 have z:∀x y:Int,x≠0→x*y=0→y=0:=fun x y hx h=>(Int.mul_eq_zero.1 h).resolve_left hx
 by_cases ha:a=0
 ·by_cases hb:b=0
  ·have hc:c≠0:=by rcases hp with h | h | h <;> first | exact absurd ha h | exact absurd hb h | exact h
   refine⟨g,-c,?_,by omega,?_,?_,?_⟩
   ·rintro rfl
    have:=z c e hc (by grind);have:=z c f hc (by grind)
    rcases hq with h | h | h <;> omega
   ·grind
   ·grind
   ·grind
  ·refine⟨f,-b,?_,by omega,?_,?_,?_⟩
   ·rintro rfl
    have:=z b e hb (by grind);have:=z b g hb (by grind)
    rcases hq with h | h | h <;> omega
   ·grind
   ·grind
   ·grind
 ·refine⟨e,-a,?_,by omega,?_,?_,?_⟩
  ·rintro rfl
   have:=z a f ha (by grind);have:=z a g ha (by grind)
   rcases hq with h | h | h <;> omega
  ·grind
  ·grind
  ·grind
end Evl.T
namespace Evl.T
open Go Evl
theorem sm_app(f:Pl→Int)(a b:List (Int×Pl)):sm f (a++b)=sm f a+sm f b:=by
 induction a with
 | nil=>simp[sm]
 | cons x r ih=>simp only[List.cons_append,sm_cons,ih];omega
theorem sm_zero(f:Pl→Int)(b:List (Int×Pl)):sm f (b.map fun x=>((0:Int),x.2))=0:=by
 induction b with
 | nil=>rfl
 | cons x r ih=>simp only[List.map_cons,sm_cons,ih];omega
theorem red2(pre:List (Int×Int×Pl))(rest:List (Int×Pl))(hc:Cert (tw pre++rest))(ha:sm Pl.A (tv pre)=0)(hb:sm Pl.B (tv pre)=0)(hcc:sm Pl.C (tv pre)=0)
  (hne:(∃x∈pre,∃y∈pre,x.1*y.2.1≠y.1*x.2.1)∨(rest≠[]∧∃x∈pre,x.2.1≠0)) :
  ∃c,Cert c∧c.length<(tw pre++rest).length∧(c.map (·.2)).Sublist ((tw pre++rest).map (·.2)):=by
 let t:=pre++rest.map fun x=>(x.1,(0:Int),x.2)
 have e1:tw t=tw pre++rest:=by simp[t,tw,Function.comp_def]
 have e2:∀f,sm f (tv t)=sm f (tv pre):=fun f=>by
  have:tv t=tv pre++rest.map fun x=>((0:Int),x.2):=by simp[t,tv,Function.comp_def]
  rw[this,sm_app,sm_zero];omega
 have e3:t.map (·.2.2)=(tw pre++rest).map (·.2):=by simp[t,tw,Function.comp_def]
 have e4:t.length=(tw pre++rest).length:=by simp[t,tw]
 obtain⟨c,h1,h2,h3⟩:=red t (by rw[e1];exact hc) (by rw[e2];exact ha) (by rw[e2];exact hb) (by rw[e2];exact hcc) (by
  rcases hne with ⟨x,hx,y,hy,h⟩ | ⟨hr,x,hx,h⟩
  ·exact⟨x,List.mem_append_left _ hx,y,List.mem_append_left _ hy,h⟩
  ·obtain⟨y,r,rfl⟩:=List.exists_cons_of_ne_nil hr
   refine⟨x,List.mem_append_left _ hx,(y.1,0,y.2),List.mem_append_right _ (by simp),?_⟩
   have hy:0<y.1:=hc.pos y (List.mem_append_right _ (by simp))
   intro h0
   simp only[Int.mul_zero] at h0
   rcases Int.mul_eq_zero.1 h0.symm with h1 | h1
   ·omega
   ·exact h h1)
 exact⟨c,h1,by omega,by rw[←e3];exact h3⟩
theorem same2{w1 w2:Int}{p q:Pl}(h1:0<w1)(h2:0<w2)(hq:Nz q)(ha:w1*p.A+w2*q.A=0)(hb:w1*p.B+w2*q.B=0)(hc:w1*p.C+w2*q.C=0)
  (hd:w1*p.D+w2*q.D≤0):cl2 p q=true:=by
 obtain⟨a,b,c,d⟩:=p;obtain⟨e,f,g,i⟩:=q
 simp only at ha hb hc hd
 have z:∀y:Int,w1*y=0→y=0:=fun y h=>(Int.mul_eq_zero.1 h).resolve_left (by omega)
 have hpos:0<d3 e f g e f g:=d3_pos (fun h=>by
  unfold Nz at hq;simp only at hq
  rcases hq with h' | h' | h'
  ·exact h' h.1
  ·exact h' h.2.1
  ·exact h' h.2.2)
 unfold cl2
 rw[decide_eq_true_iff]
 simp only[cr0,cr1,cr2,dt]
 refine⟨⟨z _ (by grind),z _ (by grind),z _ (by grind),?_⟩,?_⟩
 ·have e1:w1*(a*e+b*f+c*g)=-(w2*d3 e f g e f g):=by unfold d3;grind
  have e2:0<w2*d3 e f g e f g:=Int.mul_pos h2 hpos
  rcases Int.lt_or_le (a*e+b*f+c*g) 0 with h | h
  ·exact h
  ·have:=Int.mul_nonneg (Int.le_of_lt h1) h;omega
 ·have n:∀x y:Int,w1*x+w2*y=0→w1*(x.natAbs:Int)=w2*(y.natAbs:Int):=fun x y h=>by
   have:=na_mul (a:=w1) (b:=x) (c:=w2) (d:=-y) (by grind)
   rw[Int.natAbs_neg] at this
   rwa [Int.natAbs_of_nonneg (a:=w1) (by omega),Int.natAbs_of_nonneg (a:=w2) (by omega)] at this
  have na:=n _ _ ha;have nb:=n _ _ hb;have nc:=n _ _ hc
  push_cast
  refine mul_can (c:=w1) ?_ h1
  have e1:((↑e.natAbs+↑f.natAbs+↑g.natAbs)*d+(↑a.natAbs+↑b.natAbs+↑c.natAbs)*i)*w1=((e.natAbs:Int)+f.natAbs+g.natAbs)*(w1*d+w2*i):=by grind
  rw[e1,Int.zero_mul]
  exact Int.mul_nonpos_of_nonneg_of_nonpos (by omega) hd
theorem sgn_of{w k x y:Int}(hw:0<w)(hk:0<k)(h:w*x=k*y):(0<y→0<x)∧(y<0→x<0)∧w*(x.natAbs:Int)=k*(y.natAbs:Int):=by
 refine⟨fun hy=>?_,fun hy=>?_,?_⟩
 ·have:=Int.mul_pos hk hy
  rcases Int.lt_or_le 0 x with h1 | h1
  ·exact h1
  ·have:=Int.mul_nonpos_of_nonneg_of_nonpos (Int.le_of_lt hw) h1;omega
 ·have:k*y<0:=Int.mul_neg_of_pos_of_neg hk hy
  rcases Int.lt_or_le x 0 with h1 | h1
  ·exact h1
  ·have:=Int.mul_nonneg (Int.le_of_lt hw) h1;omega
 ·have:=na_mul h
  rwa [Int.natAbs_of_nonneg (a:=w) (by omega),Int.natAbs_of_nonneg (a:=k) (by omega)] at this
theorem same3{w1 w2 w3 x y z:Int}{p q r:Pl}(h1:0<w1)(h2:0<w2)(h3:0<w3)(hz:z≠0)(hx:w3*x=w1*z)(hy:w3*y=w2*z)
  (hd:w1*p.D+w2*q.D+w3*r.D≤0):sk x y z p.D q.D r.D=true:=by
 have sx:=sgn_of h3 h1 hx;have sy:=sgn_of h3 h2 hy
 unfold sk
 rw[decide_eq_true_iff]
 refine⟨?_,?_⟩
 ·rcases Int.lt_or_lt_of_ne hz with h | h
  ·exact .inr ⟨sx.2.1 h,sy.2.1 h,h⟩
  ·exact .inl ⟨sx.1 h,sy.1 h,h⟩
 ·refine mul_can (c:=w3) ?_ h3
  have e:((x.natAbs:Int)*p.D+(y.natAbs:Int)*q.D+(z.natAbs:Int)*r.D)*w3=(z.natAbs:Int)*(w1*p.D+w2*q.D+w3*r.D):=by
   have a1:=sx.2.2;have a2:=sy.2.2;grind
  rw[e,Int.zero_mul]
  exact Int.mul_nonpos_of_nonneg_of_nonpos (by omega) hd
theorem same4{w1 w2 w3 w4:Int}{p q r s:Pl}(h1:0<w1)(h2:0<w2)(h3:0<w3)(h4:0<w4)(hz:0-det3 p q r≠0)
  (hx:w4*det3 q r s=w1*(0-det3 p q r)) (hy:w4*(0-det3 p r s)=w2*(0-det3 p q r)) (hv:w4*det3 p q s=w3*(0-det3 p q r))
  (hd:w1*p.D+w2*q.D+w3*r.D+w4*s.D≤0):cl4 p q r s=true:=by
 have sx:=sgn_of h4 h1 hx;have sy:=sgn_of h4 h2 hy;have sv:=sgn_of h4 h3 hv
 unfold cl4
 generalize det3 q r s=a at *
 generalize (0-det3 p r s)=b at *
 generalize det3 p q s=c at *
 generalize (0-det3 p q r)=z at *
 rw[decide_eq_true_iff]
 refine⟨?_,?_⟩
 ·rcases Int.lt_or_lt_of_ne hz with h | h
  ·exact .inr ⟨sx.2.1 h,sy.2.1 h,sv.2.1 h,h⟩
  ·exact .inl ⟨sx.1 h,sy.1 h,sv.1 h,h⟩
 ·refine mul_can (c:=w4) ?_ h4
  have e:((a.natAbs:Int)*p.D+(b.natAbs:Int)*q.D+(c.natAbs:Int)*r.D+(z.natAbs:Int)*s.D)*w4=(z.natAbs:Int)*(w1*p.D+w2*q.D+w3*r.D+w4*s.D):=by
   have a1:=sx.2.2;have a2:=sy.2.2;have a3:=sv.2.2;grind
  rw[e,Int.zero_mul]
  exact Int.mul_nonpos_of_nonneg_of_nonpos (by omega) hd
theorem cross_dep{p q r:Pl}(h:det3 p q r=0) :
  (cr0 q r*p.A+cr0 r p*q.A+cr0 p q*r.A=0∧cr0 q r*p.B+cr0 r p*q.B+cr0 p q*r.B=0∧cr0 q r*p.C+cr0 r p*q.C+cr0 p q*r.C=0) ∧
  (cr1 q r*p.A+cr1 r p*q.A+cr1 p q*r.A=0∧cr1 q r*p.B+cr1 r p*q.B+cr1 p q*r.B=0∧cr1 q r*p.C+cr1 r p*q.C+cr1 p q*r.C=0) ∧
  (cr2 q r*p.A+cr2 r p*q.A+cr2 p q*r.A=0∧cr2 q r*p.B+cr2 r p*q.B+cr2 p q*r.B=0∧cr2 q r*p.C+cr2 r p*q.C+cr2 p q*r.C=0):=by
 obtain⟨a,b,c,d⟩:=p;obtain⟨e,f,g,i⟩:=q;obtain⟨j,k,l,m⟩:=r
 simp only[det3,cr0,cr1,cr2] at h ⊢
 refine⟨⟨?_,?_,?_⟩,⟨?_,?_,?_⟩,?_,?_,?_⟩ <;> grind
theorem det_dep(p q r s:Pl) :
  det3 q r s*p.A+(0-det3 p r s)*q.A+det3 p q s*r.A+(0-det3 p q r)*s.A=0 ∧
  det3 q r s*p.B+(0-det3 p r s)*q.B+det3 p q s*r.B+(0-det3 p q r)*s.B=0 ∧
  det3 q r s*p.C+(0-det3 p r s)*q.C+det3 p q s*r.C+(0-det3 p q r)*s.C=0:=by
 obtain⟨a,b,c,d⟩:=p;obtain⟨e,f,g,i⟩:=q;obtain⟨j,k,l,m⟩:=r;obtain⟨u,v,w,x⟩:=s
 simp only[det3]
 refine⟨?_,?_,?_⟩ <;> grind
theorem det_zero{w1 w2 w3:Int}{p q r:Pl}(h1:0<w1)(ha:w1*p.A+w2*q.A+w3*r.A=0)(hb:w1*p.B+w2*q.B+w3*r.B=0)(hc:w1*p.C+w2*q.C+w3*r.C=0):det3 p q r=0:=by
 obtain⟨a,b,c,d⟩:=p;obtain⟨e,f,g,i⟩:=q;obtain⟨j,k,l,m⟩:=r
 simp only[det3] at ha hb hc ⊢
 refine(Int.mul_eq_zero.1 (show w1*_=0 from ?_)).resolve_left (by omega)
 have e1:w1*a=-(w2*e)-w3*j:=by omega
 have e2:w1*b=-(w2*f)-w3*k:=by omega
 have e3:w1*c=-(w2*g)-w3*l:=by omega
 rw[Int.mul_add,Int.mul_add,←Int.mul_assoc,←Int.mul_assoc,←Int.mul_assoc,e1,e2,e3]
 grind
theorem dep3{p q r:Pl}(h:det3 p q r=0)(hp:Nz p)(hq:Nz q):∃x y z:Int,(x≠0∨z≠0) ∧
  x*p.A+y*q.A+z*r.A=0∧x*p.B+y*q.B+z*r.B=0∧x*p.C+y*q.C+z*r.C=0:=by
 by_cases hw:cr0 p q=0∧cr1 p q=0∧cr2 p q=0
 ·obtain⟨x,y,h1,h2,h3,h4,h5⟩:=cr_dep p q hw hp hq
  exact⟨x,y,0,.inl h1,by omega,by omega,by omega⟩
 ·obtain⟨c0,c1,c2⟩:=cross_dep h
  by_cases h0:cr0 p q=0
  ·by_cases h1:cr1 p q=0
   ·exact⟨_,_,_,.inr fun h2=>hw ⟨h0,h1,h2⟩,c2⟩
   ·exact⟨_,_,_,.inr h1,c1⟩
  ·exact⟨_,_,_,.inr h0,c0⟩
end Evl.T
namespace Evl.T
open Go Evl
theorem no_cert{l:List Pl}(ho:Opn l)(hz:∀q∈l,Nz q):∀(n:Nat) (c:List (Int×Pl)),c.length<n→Cert c→(c.map (·.2)).Sublist l→False:=by
 intro n
 induction n with
 | zero=>intro c h;omega
 | succ n ih =>
  intro c hn hc hs
  have go:(∃c',Cert c'∧c'.length<c.length∧(c'.map (·.2)).Sublist (c.map (·.2)))→False:=fun ⟨c',h1,h2,h3⟩=>ih c' (by omega) h1 (h3.trans hs)
  have nz:∀x∈c,Nz x.2:=fun x hx=>hz _ (hs.subset (List.mem_map.2 ⟨x,hx,rfl⟩))
  have ps:=hc.pos
  have ha:=hc.a;have hb:=hc.b;have hcc:=hc.cc;have hd:=hc.d
  match c,hc,hs,go,nz,ps,ha,hb,hcc,hd with
  | [],hc,_,_,_,_,_,_,_,_=>exact hc.ne rfl
  | [(w,p)],_,_,_,nz,ps,ha,hb,hcc,_ =>
   have hw:=ps _ (List.mem_singleton.2 rfl)
   have hn:=nz _ (List.mem_singleton.2 rfl)
   simp only[sm,Int.add_zero] at ha hb hcc hw
   have z:∀y:Int,w*y=0→y=0:=fun y h=>(Int.mul_eq_zero.1 h).resolve_left (by omega)
   rcases hn with h | h | h
   ·exact h (z _ ha)
   ·exact h (z _ hb)
   ·exact h (z _ hcc)
  | [(w1,p),(w2,q)],_,hs,_,nz,ps,ha,hb,hcc,hd =>
   have h1:0<w1:=ps (w1,p) (by simp)
   have h2:0<w2:=ps (w2,q) (by simp)
   have nq:Nz q:=nz (w2,q) (by simp)
   simp only[sm,Int.add_zero] at ha hb hcc hd
   have hcl:=same2 h1 h2 nq ha hb hcc hd
   obtain⟨l',h3,h4⟩:=ho.last (r:=[p]) (p:=q) hs
   rw[(wth_sub l' q).2 (.inl ⟨p,h3,hcl⟩)] at h4
   cases h4
  | [(w1,p),(w2,q),(w3,r)],hc,hs,go,nz,ps,ha,hb,hcc,hd =>
   have h1:0<w1:=ps (w1,p) (by simp)
   have h2:0<w2:=ps (w2,q) (by simp)
   have h3:0<w3:=ps (w3,r) (by simp)
   have np:Nz p:=nz (w1,p) (by simp)
   have nq:Nz q:=nz (w2,q) (by simp)
   simp only[sm,Int.add_zero] at ha hb hcc hd
   have hdet:det3 p q r=0:=det_zero (w2:=w2) (w3:=w3) h1 (by omega) (by omega) (by omega)
   by_cases hw:cr0 p q=0∧cr1 p q=0∧cr2 p q=0
   ·obtain⟨x,y,hx,hy,e1,e2,e3⟩:=cr_dep p q hw np nq
    refine go (red2 [(w1,x,p),(w2,y,q)] [(w3,r)] hc ?_ ?_ ?_ (.inr ⟨by simp,(w1,x,p),by simp,hx⟩))
    ·simp only[tv,List.map_cons,List.map_nil,sm];omega
    ·simp only[tv,List.map_cons,List.map_nil,sm];omega
    ·simp only[tv,List.map_cons,List.map_nil,sm];omega
   ·obtain⟨c0,c1,c2⟩:=cross_dep hdet
    obtain⟨⟨a1,a2,a3⟩,b1,b2,b3⟩:=par3 hdet
    have pX:=prj a1 a2 a3;have pY:=prj b1 b2 b3
    have key:∀x y z:Int,z≠0→(x*p.A+y*q.A+z*r.A=0∧x*p.B+y*q.B+z*r.B=0∧x*p.C+y*q.C+z*r.C=0) →
      d3 (cr0 q r) (cr1 q r) (cr2 q r) (cr0 p q) (cr1 p q) (cr2 p q)*z=x*d3 (cr0 p q) (cr1 p q) (cr2 p q) (cr0 p q) (cr1 p q) (cr2 p q) →
      d3 (cr0 r p) (cr1 r p) (cr2 r p) (cr0 p q) (cr1 p q) (cr2 p q)*z=y*d3 (cr0 p q) (cr1 p q) (cr2 p q) (cr0 p q) (cr1 p q) (cr2 p q)→False:=by
     intro x y z hz0 ⟨d1,d2,d3'⟩ hX hY
     by_cases hx:w3*x=w1*z
     ·by_cases hy:w3*y=w2*z
      ·have hk:=same3 (p:=p) (q:=q) (r:=r) h1 h2 h3 hz0 hx hy (by omega)
       rw[sk_cl3 hdet hw hz0 hX hY] at hk
       obtain⟨l',h3,h4⟩:=ho.last (r:=[p,q]) (p:=r) hs
       rw[(wth_sub l' r).2 (.inr (.inl ⟨p,q,h3,hk⟩))] at h4
       cases h4
      ·refine go (red2 [(w1,x,p),(w2,y,q),(w3,z,r)] [] hc ?_ ?_ ?_ (.inl ⟨(w3,z,r),by simp,(w2,y,q),by simp,hy⟩))
       ·simp only[tv,List.map_cons,List.map_nil,sm];omega
       ·simp only[tv,List.map_cons,List.map_nil,sm];omega
       ·simp only[tv,List.map_cons,List.map_nil,sm];omega
     ·refine go (red2 [(w1,x,p),(w2,y,q),(w3,z,r)] [] hc ?_ ?_ ?_ (.inl ⟨(w3,z,r),by simp,(w1,x,p),by simp,hx⟩))
      ·simp only[tv,List.map_cons,List.map_nil,sm];omega
      ·simp only[tv,List.map_cons,List.map_nil,sm];omega
      ·simp only[tv,List.map_cons,List.map_nil,sm];omega
    by_cases h0:cr0 p q=0
    ·by_cases h1:cr1 p q=0
     ·exact key _ _ _ (fun h2=>hw ⟨h0,h1,h2⟩) c2 pX.2.2 pY.2.2
     ·exact key _ _ _ h1 c1 pX.2.1 pY.2.1
    ·exact key _ _ _ h0 c0 pX.1 pY.1
  | (w1,p)::(w2,q)::(w3,r)::(w4,s)::rest,hc,hs,go,nz,ps,ha,hb,hcc,hd =>
   have h1:0<w1:=ps (w1,p) (by simp)
   have h2:0<w2:=ps (w2,q) (by simp)
   have h3:0<w3:=ps (w3,r) (by simp)
   have h4:0<w4:=ps (w4,s) (by simp)
   have np:Nz p:=nz (w1,p) (by simp)
   have nq:Nz q:=nz (w2,q) (by simp)
   by_cases hz0:0-det3 p q r=0
   ·obtain⟨x,y,z,hxz,e1,e2,e3⟩:=dep3 (p:=p) (q:=q) (r:=r) (by omega) np nq
    refine go (red2 [(w1,x,p),(w2,y,q),(w3,z,r)] ((w4,s)::rest) hc ?_ ?_ ?_ (.inr ⟨by simp,?_⟩))
    ·simp only[tv,List.map_cons,List.map_nil,sm];omega
    ·simp only[tv,List.map_cons,List.map_nil,sm];omega
    ·simp only[tv,List.map_cons,List.map_nil,sm];omega
    ·rcases hxz with h | h
     ·exact⟨(w1,x,p),by simp,h⟩
     ·exact⟨(w3,z,r),by simp,h⟩
   ·obtain⟨e1,e2,e3⟩:=det_dep p q r s
    have rd:=red2 [(w1,det3 q r s,p),(w2,0-det3 p r s,q),(w3,det3 p q s,r),(w4,0-det3 p q r,s)] rest hc
     (by simp only[tv,List.map_cons,List.map_nil,sm];omega) (by simp only[tv,List.map_cons,List.map_nil,sm];omega) (by simp only[tv,List.map_cons,List.map_nil,sm];omega)
    by_cases hr:rest=[]
    ·subst hr
     by_cases hx:w4*det3 q r s=w1*(0-det3 p q r)
     ·by_cases hy:w4*(0-det3 p r s)=w2*(0-det3 p q r)
      ·by_cases hv:w4*det3 p q s=w3*(0-det3 p q r)
       ·simp only[sm,Int.add_zero] at hd
        have hk:=same4 h1 h2 h3 h4 hz0 hx hy hv (by omega)
        obtain⟨l',h3,h4⟩:=ho.last (r:=[p,q,r]) (p:=s) hs
        rw[(wth_sub l' s).2 (.inr (.inr ⟨p,q,r,h3,hk⟩))] at h4
        cases h4
       ·exact go (rd (.inl ⟨(w4,0-det3 p q r,s),by simp,(w3,det3 p q s,r),by simp,hv⟩))
      ·exact go (rd (.inl ⟨(w4,0-det3 p q r,s),by simp,(w2,0-det3 p r s,q),by simp,hy⟩))
     ·exact go (rd (.inl ⟨(w4,0-det3 p q r,s),by simp,(w1,det3 q r s,p),by simp,hx⟩))
    ·exact go (rd (.inr ⟨hr,(w4,0-det3 p q r,s),by simp,hz0⟩))
def Half (l:List Pl)(p:Pl):Prop:=∃(c:List (Int×Pl)) (m:Int),0<m∧c≠[]∧(∀x∈c,0<x.1)∧(c.map (·.2)).Sublist l ∧
 sm Pl.A c+m*p.A=0∧sm Pl.B c+m*p.B=0∧sm Pl.C c+m*p.C=0∧sm Pl.D c+m*p.D≤0
theorem half2{p q:Pl}{l:List Pl}(hs:[q].Sublist l)(hq:Nz q)(h:cl2 q p=true):Half l p:=by
 unfold cl2 at h
 rw[decide_eq_true_iff] at h
 obtain⟨⟨h0,h1,h2,h3⟩,h4⟩:=h
 obtain⟨a,b,c,d⟩:=p;obtain⟨e,f,g,i⟩:=q
 simp only[cr0,cr1,cr2,dt,Nz] at h0 h1 h2 h3 h4 hq
 have hN:0<d3 e f g e f g:=d3_pos (fun h=>by
  rcases hq with h' | h' | h'
  ·exact h' h.1
  ·exact h' h.2.1
  ·exact h' h.2.2)
 have ca:(0-(e*a+f*b+g*c))*e+d3 e f g e f g*a=0:=by unfold d3;grind
 have cb:(0-(e*a+f*b+g*c))*f+d3 e f g e f g*b=0:=by unfold d3;grind
 have cc:(0-(e*a+f*b+g*c))*g+d3 e f g e f g*c=0:=by unfold d3;grind
 generalize d3 e f g e f g=N at *
 have hM:0<0-(e*a+f*b+g*c):=by omega
 generalize 0-(e*a+f*b+g*c)=M at *
 refine⟨[(M,⟨e,f,g,i⟩)],N,hN,by simp,?_,hs,?_,?_,?_,?_⟩
 ·intro x hx;rw[List.mem_singleton.1 hx];exact hM
 ·simp only[sm];omega
 ·simp only[sm];omega
 ·simp only[sm];omega
 ·simp only[sm,Int.add_zero]
  have n:∀x y:Int,M*x+N*y=0→M*(x.natAbs:Int)=N*(y.natAbs:Int):=fun x y h=>by
   have:=na_mul (a:=M) (b:=x) (c:=N) (d:=-y) (by grind)
   rw[Int.natAbs_neg] at this
   rwa [Int.natAbs_of_nonneg (a:=M) (by omega),Int.natAbs_of_nonneg (a:=N) (by omega)] at this
  have na:=n _ _ ca;have nb:=n _ _ cb;have nc:=n _ _ cc
  push_cast at h4
  have hQ:0<(e.natAbs:Int)+f.natAbs+g.natAbs:=by
   rcases hq with h' | h' | h' <;> omega
  refine mul_can (c:=(e.natAbs:Int)+f.natAbs+g.natAbs) ?_ hQ
  have e1:(M*i+N*d)*((e.natAbs:Int)+f.natAbs+g.natAbs)=N*(((a.natAbs:Int)+b.natAbs+c.natAbs)*i+((e.natAbs:Int)+f.natAbs+g.natAbs)*d):=by grind
  rw[e1,Int.zero_mul]
  exact Int.mul_nonpos_of_nonneg_of_nonpos (by omega) h4
theorem lin3{x0 x1 x2 y0 y1 y2 w0 w1 w2 a b c:Int}(h0:x0*a+y0*b+w0*c=0)(h1:x1*a+y1*b+w1*c=0)(h2:x2*a+y2*b+w2*c=0) :
  d3 x0 x1 x2 w0 w1 w2*a+d3 y0 y1 y2 w0 w1 w2*b+d3 w0 w1 w2 w0 w1 w2*c=0:=by
 have e:d3 x0 x1 x2 w0 w1 w2*a+d3 y0 y1 y2 w0 w1 w2*b+d3 w0 w1 w2 w0 w1 w2*c=w0*(x0*a+y0*b+w0*c)+w1*(x1*a+y1*b+w1*c)+w2*(x2*a+y2*b+w2*c):=by unfold d3;grind
 rw[e,h0,h1,h2];simp
theorem half3{p q r:Pl}{l:List Pl}(hs:[q,r].Sublist l)(h:cl3 q r p=true):Half l p:=by
 unfold cl3 at h
 rw[decide_eq_true_iff] at h
 obtain⟨h0,h1,⟨h2,h3⟩,h4⟩:=h
 obtain⟨⟨c1,c2,c3⟩,⟨c4,c5,c6⟩,c7,c8,c9⟩:=cross_dep h0
 refine⟨[(d3 (cr0 r p) (cr1 r p) (cr2 r p) (cr0 q r) (cr1 q r) (cr2 q r),q),(d3 (cr0 p q) (cr1 p q) (cr2 p q) (cr0 q r) (cr1 q r) (cr2 q r),r)],d3 (cr0 q r) (cr1 q r) (cr2 q r) (cr0 q r) (cr1 q r) (cr2 q r),h1,by simp,?_,hs,?_,?_,?_,?_⟩
 ·intro x hx
  simp only[List.mem_cons,List.not_mem_nil,or_false] at hx
  rcases hx with rfl | rfl
  ·exact h2
  ·exact h3
 ·simp only[sm,Int.add_zero];exact lin3 c1 c4 c7
 ·simp only[sm,Int.add_zero];exact lin3 c2 c5 c8
 ·simp only[sm,Int.add_zero];exact lin3 c3 c6 c9
 ·simp only[sm];omega
theorem half4{p q r s:Pl}{l:List Pl}(hs:[q,r,s].Sublist l)(h:cl4 q r s p=true):Half l p:=by
 unfold cl4 at h
 rw[decide_eq_true_iff] at h
 obtain⟨h0,h4⟩:=h
 obtain⟨c1,c2,c3⟩:=det_dep q r s p
 generalize det3 r s p=a at *
 generalize (0-det3 q s p)=b at *
 generalize det3 q r p=c at *
 generalize (0-det3 q r s)=z at *
 have ps:0<(a.natAbs:Int)∧0<(b.natAbs:Int)∧0<(c.natAbs:Int)∧0<(z.natAbs:Int):=by omega
 have key:∀x y u v:Int,a*x+b*y+c*u+z*v=0→(a.natAbs:Int)*x+((b.natAbs:Int)*y+((c.natAbs:Int)*u+0))+(z.natAbs:Int)*v=0:=fun x y u v h=>by
  rcases h0 with h0 | h0
  ·rw[Int.natAbs_of_nonneg (by omega),Int.natAbs_of_nonneg (by omega),Int.natAbs_of_nonneg (by omega),Int.natAbs_of_nonneg (by omega)];omega
  ·rw[Int.ofNat_natAbs_of_nonpos (by omega),Int.ofNat_natAbs_of_nonpos (by omega),Int.ofNat_natAbs_of_nonpos (by omega),Int.ofNat_natAbs_of_nonpos (by omega)];grind
 refine⟨[((a.natAbs:Int),q),((b.natAbs:Int),r),((c.natAbs:Int),s)],(z.natAbs:Int),ps.2.2.2,by simp,?_,hs,key _ _ _ _ c1,key _ _ _ _ c2,key _ _ _ _ c3,?_⟩
 ·intro x hx
  simp only[List.mem_cons,List.not_mem_nil,or_false] at hx
  rcases hx with rfl | rfl | rfl
  ·exact ps.1
  ·exact ps.2.1
  ·exact ps.2.2.1
 ·simp only[sm];omega
theorem half_of{l:List Pl}{p:Pl}(hz:∀q∈l,Nz q)(h:wth l p=true):Half l p:=by
 rcases(wth_sub l p).1 h with ⟨q,h1,h2⟩ | ⟨q,r,h1,h2⟩ | ⟨q,r,s,h1,h2⟩
 ·exact half2 h1 (hz q (h1.subset List.mem_cons_self)) h2
 ·exact half3 h1 h2
 ·exact half4 h1 h2
theorem pad{l:List Pl}:∀{c:List (Int×Pl)},(c.map (·.2)).Sublist l→(∀x∈c,0<x.1)→∃z:List (Int×Pl),z.map (·.2)=l∧(∀x∈z,0≤x.1)∧∀f,sm f z=sm f c:=by
 induction l with
 | nil =>
  intro c h _
  have:c=[]:=by have:=h.length_le;simpa using this
  subst this
  exact⟨[],rfl,by simp,fun _=>rfl⟩
 | cons y l ih =>
  intro c h hp
  have skip:(c.map (·.2)).Sublist l→∃z:List (Int×Pl),z.map (·.2)=y::l∧(∀x∈z,0≤x.1)∧∀f,sm f z=sm f c:=fun h=>by
   obtain⟨z,h1,h2,h3⟩:=ih h hp
   refine⟨(0,y)::z,by simp[h1],fun x hx=>?_,fun f=>?_⟩
   ·rcases List.mem_cons.1 hx with rfl | hx
    ·exact Int.le_refl _
    ·exact h2 x hx
   ·rw[sm_cons,h3];omega
  match c,h,hp,skip with
  | [],_,_,skip=>exact skip (List.nil_sublist _)
  | x::c,h,hp,skip =>
   simp only[List.map_cons] at h
   cases h with
   | cons _ h=>exact skip h
   | cons_cons _ h =>
    obtain⟨z,h1,h2,h3⟩:=ih h fun x hx=>hp x (List.mem_cons_of_mem _ hx)
    refine⟨(x.1,x.2)::z,by simp[h1],fun w hw=>?_,fun f=>?_⟩
    ·rcases List.mem_cons.1 hw with rfl | hw
     ·exact Int.le_of_lt (hp x List.mem_cons_self)
     ·exact h2 w hw
    ·rw[sm_cons,sm_cons,h3]
def mix (a b:Int):List (Int×Pl)→List (Int×Pl)→List (Int×Pl)
 | x::c,y::d=>(a*x.1+b*y.1,x.2)::mix a b c d
 | _,_=>[]
theorem sm_mix(f:Pl→Int)(a b:Int):∀(c d:List (Int×Pl)),c.map (·.2)=d.map (·.2)→sm f (mix a b c d)=a*sm f c+b*sm f d
 | [],[],_=>by simp[mix,sm]
 | x::c,y::d,h=>by
  simp only[List.map_cons,List.cons.injEq] at h
  simp only[mix,sm_cons]
  rw[sm_mix f a b c d h.2,h.1];grind
 | [],_::_,h=>by simp at h
 | _::_,[],h=>by simp at h
theorem mix_snd(a b:Int):∀(c d:List (Int×Pl)),c.map (·.2)=d.map (·.2)→(mix a b c d).map (·.2)=c.map (·.2)
 | [],[],_=>rfl
 | x::c,y::d,h=>by
  simp only[List.map_cons,List.cons.injEq] at h
  simp only[mix,List.map_cons]
  rw[mix_snd a b c d h.2]
 | [],_::_,h=>by simp at h
 | _::_,[],h=>by simp at h
theorem mix_ge{a b:Int}(ha:0≤a)(hb:0≤b):∀(c d:List (Int×Pl)),(∀x∈c,0≤x.1)→(∀x∈d,0≤x.1)→∀x∈mix a b c d,0≤x.1
 | [],_,_,_=>by simp[mix]
 | _::_,[],_,_=>by simp[mix]
 | x::c,y::d,hc,hd=>by
  intro z hz
  simp only[mix] at hz
  rcases List.mem_cons.1 hz with rfl | hz
  ·have h1:=Int.mul_nonneg ha (hc x List.mem_cons_self)
   have h2:=Int.mul_nonneg hb (hd y List.mem_cons_self)
   show 0≤a*x.1+b*y.1
   omega
  ·exact mix_ge ha hb c d (fun w hw=>hc w (List.mem_cons_of_mem _ hw)) (fun w hw=>hd w (List.mem_cons_of_mem _ hw)) z hz
theorem sm_pos{c:List (Int×Pl)}(h:∀x∈c,0<x.1)(hn:c≠[]):0<sm (fun _=>1) c:=by
 have ge:∀c:List (Int×Pl),(∀x∈c,0<x.1)→0≤sm (fun _=>1) c:=fun c=>by
  induction c with
  | nil=>intro _;exact Int.le_refl _
  | cons x r ih =>
   intro h
   have h1:=h x List.mem_cons_self
   have h2:=ih fun y hy=>h y (List.mem_cons_of_mem _ hy)
   rw[sm_cons];omega
 obtain⟨x,r,rfl⟩:=List.exists_cons_of_ne_nil hn
 have h1:=h x List.mem_cons_self
 have h2:=ge r fun y hy=>h y (List.mem_cons_of_mem _ hy)
 rw[sm_cons];omega
theorem flip_room{l:List Pl}(ho:Opn l)(hz:∀q∈l,Nz q)(p:Pl):wth l p=false∨wth l (flp p)=false:=by
 cases h1:wth l p with
 | false=>exact .inl rfl
 | true =>
  cases h2:wth l (flp p) with
  | false=>exact .inr rfl
  | true =>
   exfalso
   obtain⟨c,m,hm,hcn,hcp,hcs,ca,cb,cc,cd⟩:=half_of hz h1
   obtain⟨d,k,hk,hdn,hdp,hds,da,db,dc,dd⟩:=half_of hz h2
   obtain⟨z,z1,z2,z3⟩:=pad hcs hcp
   obtain⟨y,y1,y2,y3⟩:=pad hds hdp
   have hzy:z.map (·.2)=y.map (·.2):=by rw[z1,y1]
   have ge:=mix_ge (a:=k) (b:=m) (by omega) (by omega) z y z2 y2
   have e:∀f,sm f (pst (mix k m z y))=k*sm f c+m*sm f d:=fun f=>by rw[sm_pst _ _ ge,sm_mix f k m z y hzy,z3,y3]
   simp only[flp] at da db dc dd
   refine no_cert ho hz _ (pst (mix k m z y)) (Nat.lt_succ_self _) ⟨fun x hx=>pst_pos hx,?_,?_,?_,?_,?_⟩ ?_
   ·rw[e];grind
   ·rw[e];grind
   ·rw[e];grind
   ·rw[e]
    have e1:k*sm Pl.D c+m*sm Pl.D d=k*(sm Pl.D c+m*p.D)+m*(sm Pl.D d+k*(0-p.D)):=by grind
    rw[e1]
    have h1:=Int.mul_nonpos_of_nonneg_of_nonpos (Int.le_of_lt hk) cd
    have h2:=Int.mul_nonpos_of_nonneg_of_nonpos (Int.le_of_lt hm) dd
    omega
   ·intro h
    have:=e fun _=>1
    rw[h,sm_nil] at this
    have h1:=Int.mul_pos hk (sm_pos hcp hcn)
    have h2:=Int.mul_pos hm (sm_pos hdp hdn)
    omega
   ·have:=(pst_sub (mix k m z y)).map (·.2)
    rw[mix_snd k m z y hzy,z1] at this
    exact this
end Evl.T
namespace Evl.T
open Go Evl
def isLf (x:Sol):Bool:=(x.kids.length:Int)==0
def jnB (x y:Sol):Bool:=isLf x&&(isLf y&&(x.inn==y.inn))
def jn (p:Pl)(x y:Sol):Sol:=if jnB x y then lfS x.inn else .mk false p [x,y]
def lfB (op:Int)(a b:Bool):Bool:=if op==1 then a&&b else if op==2 then a||b else if op==3 then a&&!b else !(a==b)
theorem sLeaf(b:Bool):Dspec_Leaf b=some (lfS b):=rfl
theorem iLeaf(b:Bool):Dimpl_Leaf b=some (lfS b):=rfl
theorem sIsLf(x:Sol):Dspec_l8Leaf x=some (isLf x):=rfl
theorem iIsLf(x:Sol):Dimpl_Solid_isLeaf x=some (isLf x):=rfl
theorem sOpLeaf(op:Int)(a b:Bool):Dspec_l11In op a b=some (lfB op a b):=by
 unfold Dspec_l11In lfB
 cases a <;> cases b <;> simp only[frk_if] <;> (split <;> first | rfl | (split <;> first | rfl | (split <;> rfl)))
theorem iOpLeaf(op c:Int)(d:Bool)(a b:Bool):Dimpl_merger_leaf (op,c,d) a b=some (lfS (lfB op a b),(op,c,d)):=by
 unfold Dimpl_merger_leaf lfB
 simp only[iLeaf,Option.bind_some]
 cases a <;> cases b <;> simp only[frk_if] <;> (split <;> first | rfl | (split <;> first | rfl | (split <;> rfl)))
theorem sNode(p:Pl)(x y:Sol):Dspec_l11Nodeo1o2 p x y=some (jn p x y):=by
 unfold jn jnB
 simp only[Dspec_l11Nodeo1o2,Dspec_l11Nodeo1o2_0,Dspec_l11Nodeo1o2_1,Dspec_l8Nodeo1o2,sIsLf,sLeaf,Option.bind_some,pl_eq,sol_eq]
 cases isLf x <;> cases isLf y <;> cases (x.inn==y.inn) <;> rfl
theorem iJoin(op c:Int)(d:Bool)(p:Pl)(x y:Sol):Dimpl_merger_joino2o3 (op,c,d) p x y=some (jn p x y,(op,if jnB x y then c else w64 (c+1),if jnB x y then d else d||decide (w64 (c+1)>300))):=by
 unfold jn jnB
 simp only[Dimpl_merger_joino2o3,Dimpl_merger_joino2o3_0,Dimpl_merger_joino2o3_1,Dimpl_merger_joino2o3_2,Dimpl_nodeo1o2,iIsLf,iLeaf,Option.bind_some,pl_eq,sol_eq]
 cases isLf x <;> cases isLf y <;> cases (x.inn==y.inn) <;> cases d <;> rfl
inductive Bin:Sol→Prop
 | leaf {i p}:Bin (.mk i p [])
 | node {i p a b}:Bin a→Bin b→Bin (.mk i p [a,b])
theorem Bin.lens{s:Sol}(h:Bin s):Lens s:=by
 induction h with
 | leaf=>exact .mk (by simp[big]) (by simp)
 | node _ _ iha ihb =>
  refine .mk (by simp[big]) fun x hx=>?_
  simp only[List.mem_cons,List.not_mem_nil,or_false] at hx
  rcases hx with rfl | rfl
  ·exact iha
  ·exact ihb
theorem Rt.bin{s:Sol}{l:List Pl}(h:Rt s l):Bin s:=by
 induction h with
 | leaf _=>exact .leaf
 | node _ _ _ _ _ _ iha ihb=>exact .node iha ihb
theorem Bin.isLf{s:Sol}(h:Bin s)(e:Evl.T.isLf s=true):nod s=0:=by
 cases h with
 | leaf=>exact nod_leaf _ _
 | node _ _=>simp[Evl.T.isLf,Sol.kids] at e
theorem bin_jn{p:Pl}{x y:Sol}(hx:Bin x)(hy:Bin y):Bin (jn p x y):=by
 unfold jn;split
 ·exact .leaf
 ·exact .node hx hy
theorem nod_jn{p:Pl}{x y:Sol}(hx:Bin x)(hy:Bin y):nod (jn p x y)=if jnB x y then 0 else 1+(nod x+nod y):=by
 unfold jn;split
 ·exact nod_leaf _ _
 ·exact nod2 _ _ _ _
theorem jnB_zero{x y:Sol}(hx:Bin x)(hy:Bin y)(h:jnB x y=true):nod x=0∧nod y=0:=by
 unfold jnB at h;simp only[Bool.and_eq_true] at h
 exact⟨hx.isLf h.1,hy.isLf h.2.1⟩
structure Good(path:List Pl):Prop where
 o:Opn path
 pb:∀q∈path,PB q
 nz:∀q∈path,Nz q
 len:path.length≤24
theorem Good.nil:Good []:=⟨.nil,by simp,by simp,by simp⟩
theorem Nz_flp{p:Pl}(h:Nz p):Nz (flp p):=by
 unfold Nz flp at *;simp only;omega
theorem Good.snoc{path:List Pl}{p:Pl}(h:Good path)(hp:PB p)(hz:Nz p)(hw:wth path p=false)(hl:path.length<24):Good (path++[p]) :=
 ⟨.snoc h.o hw,path_PB h.pb hp,fun q hq=>by
  rcases List.mem_append.1 hq with hq | hq
  ·exact h.nz q hq
  ·rw[List.mem_singleton.1 hq];exact hz,by simp;omega⟩
end Evl.T
namespace Evl.T
open Go Evl
theorem sTake(n m:Nat)(op:Int)(bad inn:Bool)(p:Pl)(x y:Sol)(path:List Pl)(hG:Good path)(hp:pOk p=true)(hn:40≤n) :
  loopN (Dspec_l11Take_b n) (m+1) ((op,bad),inn,.mk false p [x,y],path) =
   if wth path (flp p) then loopN (Dspec_l11Take_b n) m ((op,bad),inn,x,path)
   else if wth path p then loopN (Dspec_l11Take_b n) m ((op,bad),inn,y,path)
   else if bad then some (lfS false,(op,true)) else if path.length=24 then some (lfS false,(op,true))
   else (loopN (Dspec_l11Take_b n) m ((op,false),inn,x,path++[p])).bind fun v=>(loopN (Dspec_l11Take_b n) m (v.2,inn,y,path++[flp p])).bind fun u=>some (jn p v.1 u.1,u.2):=by
 have hpb:=pOk_PB hp
 have hl:=hG.len
 have hfl:=flip_room hG.o hG.nz p
 rw[loop_suc]
 simp only[Dspec_l11Take_b,Dspec_l11Take_0,Dspec_l11Take_1,Dspec_l11Take_2,Dspec_l11Take_3,Dspec_l11Take_4,Dspec_l11Take_5,sIsLf,isLf,Option.bind_some,Sol.kids,Sol.pl,Sol.inn,
  sWith path p hG.pb hpb (by unfold big;omega) n (by omega),sFlip p hpb,sWith path (flp p) hG.pb (flp_PB hpb) (by unfold big;omega) n (by omega),sLeaf,lget_zero,lget_one,pl_eq,
  sPath path p (by omega),sPath path (flp p) (by omega),sNode]
 have e0:((([x,y]:List Sol).length:Int)==0)=false:=rfl
 have e24:((path.length:Int)==24)=decide (path.length=24):=by
  by_cases h:path.length=24
  ·simp[h]
  ·have:¬(path.length:Int)=24:=by omega
   simp[h,this]
 rw[e0,frk_f,e24]
 have bs:∀{α:Type} (o:Option α),(o.bind fun v=>some v)=o:=fun o=>by cases o <;> rfl
 cases h3:wth path p with
 | true =>
  have h5:wth path (flp p)=false:=by
   rcases hfl with h | h
   ·rw[h3] at h;cases h
   ·exact h
  rw[h5]
  simp only[Bool.not_true,Bool.not_false,frk_t,frk_f,List.getElem?_cons_zero,List.getElem?_cons_succ,Option.bind_some,bs,if_true,Bool.false_eq_true,if_false]
 | false =>
  cases h5:wth path (flp p) with
  | true=>simp only[Bool.not_true,Bool.not_false,frk_t,frk_f,List.getElem?_cons_zero,Option.bind_some,bs,if_true]
  | false =>
   simp only[Bool.not_true,Bool.not_false,frk_t,frk_f,List.getElem?_cons_zero,List.getElem?_cons_succ,Option.bind_some,Bool.false_eq_true,if_false]
   cases bad with
   | true=>simp only[frk_t,if_true]
   | false =>
    simp only[frk_f,Bool.false_eq_true,if_false]
    by_cases h:path.length=24
    ·rw[decide_eq_true h,frk_t,if_pos h]
    ·rw[decide_eq_false h,frk_f,if_neg h]
theorem iTake(n m:Nat)(op c:Int)(inn:Bool)(p:Pl)(x y:Sol)(path:List Pl)(hG:Good path)(hp:pOk p=true)(hn:40≤n) :
  loopN (Dimpl_merger_take_b n) (m+1) ((op,c,false),inn,.mk false p [x,y],path) =
   if wth path (flp p) then loopN (Dimpl_merger_take_b n) m ((op,c,false),inn,x,path)
   else if wth path p then loopN (Dimpl_merger_take_b n) m ((op,c,false),inn,y,path)
   else if path.length=24 then some (lfS false,(op,c,true))
   else (loopN (Dimpl_merger_take_b n) m ((op,c,false),inn,x,path++[p])).bind fun v=>(loopN (Dimpl_merger_take_b n) m (v.2,inn,y,path++[flp p])).bind fun u=>Dimpl_merger_joino2o3 u.2 p v.1 u.1:=by
 have hpb:=pOk_PB hp
 have hl:=hG.len
 rw[loop_suc]
 simp only[Dimpl_merger_take_b,iIsLf,isLf,Option.bind_some,Sol.kids,Sol.pl,Sol.inn,iFlip p hpb,
  iRoom path p hG.pb hpb (by unfold big;omega) n (by omega),iRoom path (flp p) hG.pb (flp_PB hpb) (by unfold big;omega) n (by omega),lget_zero,lget_one,
  iPath path p (by omega),iPath path (flp p) (by omega)]
 have e0:((([x,y]:List Sol).length:Int)==0)=false:=rfl
 have e24:decide ((path.length:Int)≥24)=decide (path.length=24):=by
  apply dec_iff;omega
 rw[e0,frk_f,frk_f,e24]
 have bs:∀{α:Type} (o:Option α),(o.bind fun v=>some v)=o:=fun o=>by cases o <;> rfl
 cases h5:wth path (flp p) with
 | true=>simp only[Bool.not_true,Bool.not_false,frk_t,List.getElem?_cons_zero,Option.bind_some,bs,if_true]
 | false =>
  cases h3:wth path p with
  | true=>simp only[Bool.not_true,Bool.not_false,frk_t,frk_f,List.getElem?_cons_zero,List.getElem?_cons_succ,Option.bind_some,bs,if_true,Bool.false_eq_true,if_false]
  | false =>
   simp only[Bool.not_true,Bool.not_false,frk_f,List.getElem?_cons_zero,List.getElem?_cons_succ,Option.bind_some,bs,Bool.false_eq_true,if_false]
   by_cases h:path.length=24
   ·rw[decide_eq_true h,frk_t,if_pos h];rfl
   ·rw[decide_eq_false h,frk_f,if_neg h]
theorem iTakeBad(n m:Nat)(op c:Int)(inn:Bool)(b:Sol)(path:List Pl):loopN (Dimpl_merger_take_b n) (m+1) ((op,c,true),inn,b,path)=some (lfS false,(op,c,true)):=rfl
theorem sTakeLeaf(n m:Nat)(op:Int)(bad inn i:Bool)(p:Pl)(path:List Pl):loopN (Dspec_l11Take_b n) (m+1) ((op,bad),inn,.mk i p [],path)=some (lfS (lfB op inn i),(op,bad)):=by
 rw[loop_suc]
 simp only[Dspec_l11Take_b,sIsLf,Option.bind_some,Sol.inn,sOpLeaf,sLeaf]
 rfl
theorem iTakeLeaf(n m:Nat)(op c:Int)(inn i:Bool)(p:Pl)(path:List Pl):loopN (Dimpl_merger_take_b n) (m+1) ((op,c,false),inn,.mk i p [],path)=some (lfS (lfB op inn i),(op,c,false)):=by
 rw[loop_suc]
 simp only[Dimpl_merger_take_b,iIsLf,Option.bind_some,Sol.inn,iOpLeaf]
 rfl
end Evl.T
namespace Evl.T
open Go Evl
def Sp (op:Int)(R:Int×Bool→Option (Sol×(Int×Bool)))(x:Sol)(sb:Bool):Prop :=
 (∃x',R (op,true)=some (x',(op,true)))∧∃x',R (op,false)=some (x',(op,sb))∧(sb=false→x'=x)
def Im (op:Int)(R:Int×Int×Bool→Option (Sol×(Int×Int×Bool)))(x:Sol)(sb:Bool):Prop :=
 (∀c:Int,∃y,R (op,c,true)=some (y,(op,c,true))) ∧
 ∀c:Nat,c≤300→∃y c' ib,R (op,(c:Int),false)=some (y,(op,c',ib))∧(ib=false↔sb=false∧c+nod x≤300)∧(ib=false→y=x∧c'=((c+nod x:Nat):Int))
theorem sp_join{op:Int}{R1 R2:Int×Bool→Option (Sol×(Int×Bool))}{x1 x2:Sol}{b1 b2:Bool}(p:Pl)(h1:Sp op R1 x1 b1)(h2:Sp op R2 x2 b2) :
  Sp op (fun t=>(R1 t).bind fun v=>(R2 v.2).bind fun u=>some (jn p v.1 u.1,u.2)) (jn p x1 x2) (b1||b2):=by
 obtain⟨⟨y1,e1⟩,z1,f1,g1⟩:=h1
 obtain⟨⟨y2,e2⟩,z2,f2,g2⟩:=h2
 refine⟨⟨jn p y1 y2,by simp only[e1,e2,Option.bind_some]⟩,?_⟩
 cases b1 with
 | true=>exact⟨jn p z1 y2,by simp only[f1,e2,Option.bind_some,Bool.true_or],fun h=>by cases h⟩
 | false=>exact⟨jn p z1 z2,by simp only[f1,f2,Option.bind_some,Bool.false_or],fun h=>by rw[g1 rfl,g2 (by simpa using h)]⟩
theorem im_join{op:Int}{R1 R2:Int×Int×Bool→Option (Sol×(Int×Int×Bool))}{x1 x2:Sol}{b1 b2:Bool}(p:Pl)(hx1:Bin x1)(hx2:Bin x2)(h1:Im op R1 x1 b1)(h2:Im op R2 x2 b2)(c:Nat)(hc:c≤300) :
  ∃y c' ib,((R1 (op,(c:Int),false)).bind fun v=>(R2 v.2).bind fun u=>Dimpl_merger_joino2o3 u.2 p v.1 u.1)=some (y,(op,c',ib))∧(ib=false↔(b1||b2)=false∧c+nod (jn p x1 x2)≤300)∧(ib=false→y=jn p x1 x2∧c'=((c+nod (jn p x1 x2):Nat):Int)):=by
 have hnj:=nod_jn (p:=p) hx1 hx2
 have hz:=jnB_zero hx1 hx2
 have hge:nod x1+nod x2≤nod (jn p x1 x2):=by
  rw[hnj];split
  ·rename_i h;have:=hz h;omega
  ·omega
 have bad:∀(q:Sol×(Int×Int×Bool)) (y c'':_),q=(y,(op,c'',true))→∀v:Sol,¬((b1||b2)=false∧c+nod (jn p x1 x2)≤300) →
   ∃y c' ib,Dimpl_merger_joino2o3 q.2 p v q.1=some (y,(op,c',ib))∧(ib=false↔(b1||b2)=false∧c+nod (jn p x1 x2)≤300)∧(ib=false→y=jn p x1 x2∧c'=((c+nod (jn p x1 x2):Nat):Int)):=by
  intro q y c'' hq v hno
  subst hq
  have e:(if jnB v y=true then true else true||decide (w64 (c''+1)>300))=true:=by split <;> rfl
  refine⟨_,_,true,by rw[iJoin,e],⟨fun h=>(by cases h),fun h=>absurd h hno⟩,fun h=>by cases h⟩
 obtain⟨y1,c1,i1,e1,f1,g1⟩:=h1.2 c hc
 rw[e1,Option.bind_some]
 cases i1 with
 | true =>
  obtain⟨y2,e2⟩:=h2.1 c1
  show ∃y c' ib,((R2 (op,c1,true)).bind _)=_∧_
  rw[e2,Option.bind_some]
  refine bad (y2,(op,c1,true)) y2 c1 rfl y1 fun h=>?_
  have:¬(b1=false∧c+nod x1≤300):=fun h=>by have:=f1.2 h;cases this
  refine this ⟨?_,by omega⟩
  have h:=h.1
  cases b1
  ·rfl
  ·cases h
 | false =>
  obtain⟨q1,q2⟩:=f1.1 rfl
  obtain⟨rfl,rfl⟩:=g1 rfl
  subst q1
  obtain⟨y2,c2,i2,e2,f2,g2⟩:=h2.2 (c+nod y1) q2
  show ∃y c' ib,((R2 (op,((c+nod y1:Nat):Int),false)).bind _)=_∧_
  rw[e2,Option.bind_some]
  cases i2 with
  | true =>
   refine bad (y2,(op,c2,true)) y2 c2 rfl y1 fun h=>?_
   have:¬(b2=false∧c+nod y1+nod x2≤300):=fun h=>by have:=f2.2 h;cases this
   exact this ⟨by simpa using h.1,by omega⟩
  | false =>
   obtain⟨q3,q4⟩:=f2.1 rfl
   obtain⟨rfl,rfl⟩:=g2 rfl
   subst q3
   show ∃y c' ib,Dimpl_merger_joino2o3 (op,((c+nod y1+nod y2:Nat):Int),false) p y1 y2=_∧_
   rw[iJoin]
   by_cases hj:jnB y1 y2=true
   ·have hzz:=hz hj
    refine⟨_,_,_,rfl,?_,fun _=>⟨rfl,?_⟩⟩
    ·rw[if_pos hj,hnj,if_pos hj];simp;omega
    ·rw[if_pos hj,hnj,if_pos hj];omega
   ·have hw:w64 (((c+nod y1+nod y2:Nat):Int)+1)=((c+nod y1+nod y2+1:Nat):Int):=w64_suc (by unfold big;omega)
    refine⟨_,_,_,rfl,?_,fun _=>⟨rfl,?_⟩⟩
    ·rw[if_neg hj,hnj,if_neg hj,hw,Bool.false_or,decide_eq_false_iff_not]
     simp only[Bool.or_self,true_and]
     omega
    ·rw[if_neg hj,hnj,if_neg hj,hw];omega
inductive Tk(op:Int)(inn:Bool):Sol→List Pl→Sol→Bool→Prop
 | leaf {i p path}:Tk op inn (.mk i p []) path (lfS (lfB op inn i)) false
 | one {p a b path x sb}:wth path (flp p)=true→Tk op inn a path x sb→Tk op inn (.mk false p [a,b]) path x sb
 | two {p a b path x sb}:wth path (flp p)=false→wth path p=true→Tk op inn b path x sb→Tk op inn (.mk false p [a,b]) path x sb
 | deep {p a b path}:wth path p=false→wth path (flp p)=false→path.length=24→Tk op inn (.mk false p [a,b]) path (lfS false) true
 | node {p a b path x1 b1 x2 b2}:pOk p=true→path.length<24→wth path p=false→wth path (flp p)=false→Tk op inn a (path++[p]) x1 b1→Tk op inn b (path++[flp p]) x2 b2→Tk op inn (.mk false p [a,b]) path (jn p x1 x2) (b1||b2)
inductive Pt2(op:Int):Sol→Sol→List Pl→Sol→Bool→Prop
 | leaf {i p b path x sb}:Tk op i b path x sb→Pt2 op (.mk i p []) b path x sb
 | node {p a b c path x1 b1 x2 b2}:pOk p=true→path.length<24→wth path p=false→wth path (flp p)=false→Pt2 op a c (path++[p]) x1 b1→Pt2 op b c (path++[flp p]) x2 b2→Pt2 op (.mk false p [a,b]) c path (jn p x1 x2) (b1||b2)
theorem rt_jn{p:Pl}{x y:Sol}{path:List Pl}(hp:pOk p=true)(hl:path.length<24)(h3:wth path p=false)(h5:wth path (flp p)=false)(hx:Rt x (path++[p]))(hy:Rt y (path++[flp p])):Rt (jn p x y) path:=by
 unfold jn
 split
 ·exact .leaf rfl
 ·exact .node hp hl h3 h5 hx hy
theorem Tk.rt{op:Int}{inn:Bool}{b:Sol}{path:List Pl}{x:Sol}{sb:Bool}(h:Tk op inn b path x sb):Rt x path:=by
 induction h with
 | leaf=>exact .leaf rfl
 | one _ _ ih=>exact ih
 | two _ _ _ ih=>exact ih
 | deep=>exact .leaf rfl
 | node hp hl h3 h5 _ _ iha ihb=>exact rt_jn hp hl h3 h5 iha ihb
theorem Pt2.rt{op:Int}{a b:Sol}{path:List Pl}{x:Sol}{sb:Bool}(h:Pt2 op a b path x sb):Rt x path:=by
 induction h with
 | leaf h=>exact h.rt
 | node hp hl h3 h5 _ _ iha ihb=>exact rt_jn hp hl h3 h5 iha ihb
theorem takeOk{b:Sol}{l:List Pl}(h:Rt b l):∀(op:Int) (inn:Bool) (path:List Pl),Good path→∃x sb,(Tk op inn b path x sb∧Bin x)∧E2 fun n m =>
  Sp op (fun t=>loopN (Dspec_l11Take_b n) m (t,inn,b,path)) x sb∧Im op (fun t=>loopN (Dimpl_merger_take_b n) m (t,inn,b,path)) x sb:=by
 induction h with
 | @leaf i p _ _ =>
  intro op inn path hG
  refine⟨lfS (lfB op inn i),false,⟨.leaf,.leaf⟩,E2.suc (E2.of fun n m=>⟨⟨⟨_,sTakeLeaf n m op true inn i p path⟩,_,sTakeLeaf n m op false inn i p path,fun _=>rfl⟩,fun c=>⟨_,iTakeBad n m op c inn _ path⟩,fun c hc=>⟨_,_,_,iTakeLeaf n m op c inn i p path,?_,fun _=>⟨rfl,?_⟩⟩⟩)⟩
  ·rw[show nod (lfS (lfB op inn i))=0 from nod_leaf _ _];simp;omega
  ·rw[show nod (lfS (lfB op inn i))=0 from nod_leaf _ _];rfl
 | @node p a b l0 hp _ _ _ _ _ iha ihb =>
  intro op inn path hG
  have hpb:=pOk_PB hp
  cases h5:wth path (flp p) with
  | true =>
   obtain⟨x,sb,⟨hT,hB⟩,hE⟩:=iha op inn path hG
   refine⟨x,sb,⟨.one h5 hT,hB⟩,E2.suc ((hE.and (e2_ge 40)).mono fun n m ⟨⟨hS,hI⟩,hn,hm⟩=>⟨?_,?_⟩)⟩
   ·refine⟨?_,?_⟩
    ·show ∃x',loopN _ _ _=_;rw[sTake n m op true inn p a b path hG hp hn,h5,if_pos rfl];exact hS.1
    ·show ∃x',loopN _ _ _=_∧_;rw[sTake n m op false inn p a b path hG hp hn,h5,if_pos rfl];exact hS.2
   ·refine⟨fun c=>⟨_,iTakeBad n m op c inn _ path⟩,fun c hc=>?_⟩
    show ∃y c' ib,loopN _ _ _=_∧_;rw[iTake n m op c inn p a b path hG hp hn,h5,if_pos rfl];exact hI.2 c hc
  | false =>
   cases h3:wth path p with
   | true =>
    obtain⟨x,sb,⟨hT,hB⟩,hE⟩:=ihb op inn path hG
    refine⟨x,sb,⟨.two h5 h3 hT,hB⟩,E2.suc ((hE.and (e2_ge 40)).mono fun n m ⟨⟨hS,hI⟩,hn,hm⟩=>⟨?_,?_⟩)⟩
    ·refine⟨?_,?_⟩
     ·show ∃x',loopN _ _ _=_;rw[sTake n m op true inn p a b path hG hp hn,h5,h3,if_neg (by simp),if_pos rfl];exact hS.1
     ·show ∃x',loopN _ _ _=_∧_;rw[sTake n m op false inn p a b path hG hp hn,h5,h3,if_neg (by simp),if_pos rfl];exact hS.2
    ·refine⟨fun c=>⟨_,iTakeBad n m op c inn _ path⟩,fun c hc=>?_⟩
     show ∃y c' ib,loopN _ _ _=_∧_;rw[iTake n m op c inn p a b path hG hp hn,h5,h3,if_neg (by simp),if_pos rfl];exact hI.2 c hc
   | false =>
    by_cases h24:path.length=24
    ·refine⟨lfS false,true,⟨.deep h3 h5 h24,.leaf⟩,E2.suc ((e2_ge 40).mono fun n m ⟨hn,hm⟩=>⟨⟨?_,?_⟩,fun c=>⟨_,iTakeBad n m op c inn _ path⟩,fun c hc=>?_⟩)⟩
     ·show ∃x',loopN _ _ _=_;rw[sTake n m op true inn p a b path hG hp hn,h5,h3,if_neg (by simp),if_neg (by simp),if_pos rfl];exact⟨_,rfl⟩
     ·show ∃x',loopN _ _ _=_∧_;rw[sTake n m op false inn p a b path hG hp hn,h5,h3,if_neg (by simp),if_neg (by simp),if_neg (by simp),if_pos h24];exact⟨_,rfl,fun h=>by cases h⟩
     ·show ∃y c' ib,loopN _ _ _=_∧_;rw[iTake n m op c inn p a b path hG hp hn,h5,h3,if_neg (by simp),if_neg (by simp),if_pos h24]
      exact⟨_,_,true,rfl,⟨fun h=>(by cases h),fun h=>(by have:=h.1;cases this)⟩,fun h=>by cases h⟩
    ·have hl:=hG.len
     have hz:=pOk_Nz hp
     obtain⟨x1,b1,⟨hT1,hB1⟩,hE1⟩:=iha op inn (path++[p]) (hG.snoc hpb hz h3 (by omega))
     obtain⟨x2,b2,⟨hT2,hB2⟩,hE2⟩:=ihb op inn (path++[flp p]) (hG.snoc (flp_PB hpb) (Nz_flp hz) h5 (by omega))
     refine⟨jn p x1 x2,b1||b2,⟨.node hp (by omega) h3 h5 hT1 hT2,bin_jn hB1 hB2⟩,E2.suc (((hE1.and hE2).and (e2_ge 40)).mono fun n m ⟨⟨⟨hS1,hI1⟩,hS2,hI2⟩,hn,hm⟩=>⟨⟨?_,?_⟩,fun c=>⟨_,iTakeBad n m op c inn _ path⟩,fun c hc=>?_⟩)⟩
     ·show ∃x',loopN _ _ _=_;rw[sTake n m op true inn p a b path hG hp hn,h5,h3,if_neg (by simp),if_neg (by simp),if_pos rfl];exact⟨_,rfl⟩
     ·show ∃x',loopN _ _ _=_∧_;rw[sTake n m op false inn p a b path hG hp hn,h5,h3,if_neg (by simp),if_neg (by simp),if_neg (by simp),if_neg h24]
      exact(sp_join p hS1 hS2).2
     ·show ∃y c' ib,loopN _ _ _=_∧_;rw[iTake n m op c inn p a b path hG hp hn,h5,h3,if_neg (by simp),if_neg (by simp),if_neg h24]
      exact im_join p hB1 hB2 hI1 hI2 c hc
theorem sBothL(n m:Nat)(t:Int×Bool)(i:Bool)(p:Pl)(b:Sol)(path:List Pl):loopN (Dspec_l11Both_b n) (m+1) (t,.mk i p [],b,path)=Dspec_l11Take n t i b path:=by
 rw[loop_suc]
 simp only[Dspec_l11Both_b,sIsLf,Option.bind_some,Sol.inn]
 have:isLf (.mk i p [])=true:=rfl
 rw[this,frk_t]
 cases Dspec_l11Take n t i b path <;> rfl
theorem iPutL(n m:Nat)(op c:Int)(i:Bool)(p:Pl)(b:Sol)(path:List Pl):loopN (Dimpl_merger_put_b n) (m+1) ((op,c,false),.mk i p [],b,path)=Dimpl_merger_take n (op,c,false) i b path:=by
 rw[loop_suc]
 simp only[Dimpl_merger_put_b,iIsLf,Option.bind_some,Sol.inn]
 have:isLf (.mk i p [])=true:=rfl
 rw[this,frk_f,frk_t]
 cases Dimpl_merger_take n (op,c,false) i b path <;> rfl
theorem iPutBad(n m:Nat)(op c:Int)(a b:Sol)(path:List Pl):loopN (Dimpl_merger_put_b n) (m+1) ((op,c,true),a,b,path)=some (lfS false,(op,c,true)):=rfl
theorem sBothN(n m:Nat)(t:Int×Bool)(p:Pl)(x y b:Sol)(path:List Pl)(hpb:PB p)(hl:path.length≤24) :
  loopN (Dspec_l11Both_b n) (m+1) (t,.mk false p [x,y],b,path) =
   (loopN (Dspec_l11Both_b n) m (t,x,b,path++[p])).bind fun v=>(loopN (Dspec_l11Both_b n) m (v.2,y,b,path++[flp p])).bind fun u=>some (jn p v.1 u.1,u.2):=by
 rw[loop_suc]
 simp only[Dspec_l11Both_b,sIsLf,Option.bind_some,Sol.pl,Sol.kids,lget_zero,lget_one,sPath path p (by omega),sFlip p hpb,sPath path (flp p) (by omega),sNode]
 have:isLf (.mk false p [x,y])=false:=rfl
 rw[this,frk_f]
 simp only[List.getElem?_cons_zero,List.getElem?_cons_succ,Option.bind_some]
theorem iPutN(n m:Nat)(op c:Int)(p:Pl)(x y b:Sol)(path:List Pl)(hpb:PB p)(hl:path.length≤24) :
  loopN (Dimpl_merger_put_b n) (m+1) ((op,c,false),.mk false p [x,y],b,path) =
   (loopN (Dimpl_merger_put_b n) m ((op,c,false),x,b,path++[p])).bind fun v=>(loopN (Dimpl_merger_put_b n) m (v.2,y,b,path++[flp p])).bind fun u=>Dimpl_merger_joino2o3 u.2 p v.1 u.1:=by
 rw[loop_suc]
 simp only[Dimpl_merger_put_b,iIsLf,Option.bind_some,Sol.pl,Sol.kids,lget_zero,lget_one,iPath path p (by omega),iFlip p hpb,iPath path (flp p) (by omega)]
 have:isLf (.mk false p [x,y])=false:=rfl
 have bs:∀{α:Type} (o:Option α),(o.bind fun v=>some v)=o:=fun o=>by cases o <;> rfl
 rw[this,frk_f,frk_f]
 simp only[List.getElem?_cons_zero,List.getElem?_cons_succ,Option.bind_some,bs]
theorem putOk{a:Sol}{path:List Pl}(h:Rt a path):Good path→∀{b:Sol} {l:List Pl},Rt b l→∀op:Int,∃x sb,(Pt2 op a b path x sb∧Bin x)∧E2 fun n m =>
  Sp op (fun t=>loopN (Dspec_l11Both_b n) m (t,a,b,path)) x sb∧Im op (fun t=>loopN (Dimpl_merger_put_b n) m (t,a,b,path)) x sb:=by
 induction h with
 | @leaf i p path hz =>
  intro hG b l hb op
  obtain⟨x,sb,⟨hT,hB⟩,hE⟩:=takeOk hb op i path hG
  refine⟨x,sb,⟨.leaf hT,hB⟩,E2.suc (hE.ev.e2.mono fun n m ⟨hS,hI⟩=>⟨⟨?_,?_⟩,fun c=>⟨_,iPutBad n m op c _ b path⟩,fun c hc=>?_⟩)⟩
  ·show ∃x',loopN _ _ _=_;rw[sBothL];exact hS.1
  ·show ∃x',loopN _ _ _=_∧_;rw[sBothL];exact hS.2
  ·show ∃y c' ib,loopN _ _ _=_∧_;rw[iPutL];exact hI.2 c hc
 | @node p x y path hp hl h3 h5 _ _ iha ihb =>
  intro hG b l hb op
  have hpb:=pOk_PB hp
  have hz:=pOk_Nz hp
  obtain⟨x1,b1,⟨hT1,hB1⟩,hE1⟩:=iha (hG.snoc hpb hz h3 hl) hb op
  obtain⟨x2,b2,⟨hT2,hB2⟩,hE2⟩:=ihb (hG.snoc (flp_PB hpb) (Nz_flp hz) h5 hl) hb op
  refine⟨jn p x1 x2,b1||b2,⟨.node hp hl h3 h5 hT1 hT2,bin_jn hB1 hB2⟩,E2.suc ((hE1.and hE2).mono fun n m ⟨⟨hS1,hI1⟩,hS2,hI2⟩=>⟨⟨?_,?_⟩,fun c=>⟨_,iPutBad n m op c _ b path⟩,fun c hc=>?_⟩)⟩
  ·show ∃x',loopN _ _ _=_;rw[sBothN n m _ p x y b path hpb (by omega)];exact(sp_join p hS1 hS2).1
  ·show ∃x',loopN _ _ _=_∧_;rw[sBothN n m _ p x y b path hpb (by omega)];exact(sp_join p hS1 hS2).2
  ·show ∃y c' ib,loopN _ _ _=_∧_;rw[iPutN n m op c p x y b path hpb (by omega)];exact im_join p hB1 hB2 hI1 hI2 c hc
end Evl.T
namespace Evl.T
open Go Evl
open Classical in
theorem putEqS(a b:Sol)(ha:Lens a)(hb:Lens b)(op:Int):∃x ok,Bin x∧nod x≤300∧(¬(Right a∧Right b∧rIn op 1 4=true)→x=lfS false∧ok=false) ∧
  (Right a∧Right b∧rIn op 1 4=true→∃y sb,Pt2 op a b [] y sb∧(ok=true↔sb=false∧nod y≤300)∧(ok=true→x=y)∧(ok=false→x=lfS false)) ∧
  Ev fun n=>Dspec_Put n a b op=some (x,ok)∧(Right a∧Right b∧rIn op 1 4=true→Dimpl_put n a b op=some (x,ok)):=by
 have lf3:nod (lfS false)≤300:=by rw[show nod (lfS false)=0 from nod_leaf _ _];omega
 have e1:=sSolidOk a ha;have e2:=sSolidOk b hb;have e3:=iSolidOk a;have e4:=iSolidOk b
 by_cases hra:Right a
 ·by_cases hrb:Right b
  ·cases hop:rIn op 1 4 with
   | false =>
    refine⟨lfS false,false,.leaf,lf3,fun _=>⟨rfl,rfl⟩,fun h=>absurd h.2.2 (by simp),(e1.and (e2.and (e3.and e4))).mono fun n ⟨h1,h2,h3,h4⟩=>⟨?_,fun h=>absurd h.2.2 (by simp)⟩⟩
    ·simp only[Dspec_Put,Dspec_Put_1,h1,h2,sIn,hop,decide_eq_true hra,decide_eq_true hrb,Option.bind_some,Bool.not_true,Bool.not_false,frk_t,frk_f];rfl
   | true =>
    obtain⟨x,sb,⟨hT,hB⟩,hE⟩:=putOk hra.1 Good.nil hrb.1 op
    have hc:=cnt x hB.lens
    have main:=(e1.and (e2.and (e3.and (e4.and (hE.ev.and hc)))))
    have hN0:nod x≤300∨¬nod x≤300:=Decidable.em _
    by_cases hfin:sb=false∧nod x≤300
    ·refine⟨x,true,hB,hfin.2,fun h=>absurd ⟨hra,hrb,rfl⟩ h,fun _=>⟨x,sb,hT,⟨fun _=>hfin,fun _=>rfl⟩,fun _=>rfl,fun h=>absurd h (by simp)⟩,main.mono fun n ⟨h1,h2,h3,h4,⟨hS,hIm⟩,h5⟩=>⟨?_,fun _=>?_⟩⟩
     ·obtain⟨x',f1,f2⟩:=hS.2
      obtain rfl:=f2 hfin.1
      simp only[Dspec_Put,Dspec_Put_1,Dspec_Put_3,Dspec_l11Both,h1,h2,sIn,hop,decide_eq_true hra,decide_eq_true hrb,Option.bind_some,Bool.not_true,frk_f,sol_eq,sol_eq',pl_eq]
      have f1':loopN (Dspec_l11Both_b n) n ((op,false),a,b,[])=_:=f1
      rw[f1',Option.bind_some]
      simp only[hfin.1,frk_f,h5,Option.bind_some]
      rw[cnv_yes (by have:=hfin.2;omega),decide_eq_false (by have:=hfin.2;omega),frk_f]
     ·obtain⟨y,c',ib,f1,f2,f3⟩:=hIm.2 0 (by omega)
      have hib:ib=false:=f2.2 ⟨hfin.1,by have:=hfin.2;omega⟩
      subst hib
      obtain⟨rfl,-⟩:=f3 rfl
      simp only[Dimpl_put,Dimpl_merger_put,sol_eq,sol_eq',pl_eq]
      have f1':loopN (Dimpl_merger_put_b n) n ((op,0,false),a,b,[])=_:=f1
      rw[f1',Option.bind_some]
      simp only[frk_f,Option.bind_some]
    ·refine⟨lfS false,false,.leaf,lf3,fun _=>⟨rfl,rfl⟩,fun _=>⟨x,sb,hT,⟨fun h=>absurd h (by simp),fun h=>absurd h hfin⟩,fun h=>absurd h (by simp),fun _=>rfl⟩,main.mono fun n ⟨h1,h2,h3,h4,⟨hS,hIm⟩,h5⟩=>⟨?_,fun _=>?_⟩⟩
     ·obtain⟨x',f1,f2⟩:=hS.2
      simp only[Dspec_Put,Dspec_Put_1,Dspec_Put_2,Dspec_Put_3,Dspec_l11Both,h1,h2,sIn,hop,decide_eq_true hra,decide_eq_true hrb,Option.bind_some,Bool.not_true,frk_f,sol_eq,sol_eq',pl_eq]
      have f1':loopN (Dspec_l11Both_b n) n ((op,false),a,b,[])=_:=f1
      rw[f1',Option.bind_some]
      cases sb with
      | true=>simp only[frk_t];rfl
      | false =>
       obtain rfl:=f2 rfl
       have hbig:¬nod x'≤300:=fun h=>hfin ⟨rfl,h⟩
       have hc:decide (cnv (nod x') 301>300)=true:=by
        apply decide_eq_true
        unfold cnv;split <;> omega
       simp only[frk_f,h5,Option.bind_some]
       rw[hc,frk_t];rfl
     ·obtain⟨y,c',ib,f1,f2,f3⟩:=hIm.2 0 (by omega)
      have hib:ib=true:=by
       cases ib with
       | true=>rfl
       | false=>have:=f2.1 rfl;exact absurd ⟨this.1,by have:=this.2;omega⟩ hfin
      subst hib
      simp only[Dimpl_put,Dimpl_merger_put,sol_eq,sol_eq',pl_eq]
      have f1':loopN (Dimpl_merger_put_b n) n ((op,0,false),a,b,[])=_:=f1
      rw[f1',Option.bind_some]
      simp only[frk_t,Option.bind_some];rfl
  ·refine⟨lfS false,false,.leaf,lf3,fun _=>⟨rfl,rfl⟩,fun h=>absurd h.2.1 hrb,(e1.and (e2.and (e3.and e4))).mono fun n ⟨h1,h2,h3,h4⟩=>⟨?_,fun h=>absurd h.2.1 hrb⟩⟩
   ·simp only[Dspec_Put,Dspec_Put_0,h1,h2,decide_eq_true hra,decide_eq_false hrb,Option.bind_some,Bool.not_true,Bool.not_false,frk_t,frk_f];rfl
 ·refine⟨lfS false,false,.leaf,lf3,fun _=>⟨rfl,rfl⟩,fun h=>absurd h.1 hra,(e1.and e3).mono fun n ⟨h1,h3⟩=>⟨?_,fun h=>absurd h.1 hra⟩⟩
  ·simp only[Dspec_Put,Dspec_Put_0,h1,decide_eq_false hra,Option.bind_some,Bool.not_false,frk_t];rfl
end Evl.T
namespace Evl.T
open Go Evl
open Classical in
theorem putEq(a b:Sol)(ha:Lens a)(hb:Lens b)(op:Int):∃x ok,Bin x∧nod x≤300∧(¬(Right a∧Right b∧rIn op 1 4=true)→x=lfS false∧ok=false) ∧
  (Right a∧Right b∧rIn op 1 4=true→∃y sb,Pt2 op a b [] y sb∧(ok=true↔sb=false∧nod y≤300)∧(ok=true→x=y)∧(ok=false→x=lfS false))∧Ev fun n=>Dspec_Put n a b op=some (x,ok)∧Dimpl_Put n a b op=some (x,ok):=by
 obtain⟨x,ok,hB,nx,hno,hpt,hE⟩:=putEqS a b ha hb op
 have hI:∀x,Dimpl_isOp x=some (rIn x 1 4):=fun x=>by unfold Dimpl_isOp;rw[iIn];rfl
 refine⟨x,ok,hB,nx,hno,hpt,(hE.and ((iSolidOk a).and (iSolidOk b))).mono fun n ⟨⟨h1,h2⟩,h3,h4⟩=>⟨h1,?_⟩⟩
 by_cases hc:Right a∧Right b∧rIn op 1 4=true
 ·have h2:=h2 hc
  simp only[Dimpl_Put,Dimpl_Put_1,hI,hc.2.2,h3,h4,decide_eq_true hc.1,decide_eq_true hc.2.1,Option.bind_some,Bool.not_true,frk_f,sol_eq,sol_eq',h2]
 ·obtain⟨rfl,rfl⟩:=hno hc
  cases hop:rIn op 1 4 with
  | false=>simp only[Dimpl_Put,Dimpl_Put_0,hI,hop,Option.bind_some,Bool.not_false,frk_t];rfl
  | true =>
   by_cases hra:Right a
   ·have hrb:¬Right b:=fun h=>hc ⟨hra,h,hop⟩
    simp only[Dimpl_Put,Dimpl_Put_0,Dimpl_Put_1,hI,hop,h3,h4,decide_eq_true hra,decide_eq_false hrb,Option.bind_some,Bool.not_true,Bool.not_false,frk_t,frk_f];rfl
   ·simp only[Dimpl_Put,Dimpl_Put_0,hI,hop,h3,decide_eq_false hra,Option.bind_some,Bool.not_true,Bool.not_false,frk_t,frk_f];rfl
end Evl.T
namespace Evl.T
open Go Evl
abbrev Cur:=List Int×Int×Int
def CurOk(c:Cur):Prop:=0≤c.2.1∧c.2.1≤c.1.length∧c.1.length≤1048576
theorem and255(a:Int):0≤bAnd .i64 a 255∧bAnd .i64 a 255≤255:=by
 unfold bAnd
 have h1:(BitVec.ofInt 64 a &&& BitVec.ofInt 64 255).toNat≤255:=by
  rw[BitVec.toNat_and]
  have e:(BitVec.ofInt 64 255).toNat=255:=by decide
  rw[e];exact Nat.and_le_right
 have h2:IntKind.i64.wrap (((BitVec.ofInt 64 a &&& BitVec.ofInt 64 255).toNat:Nat):Int)=(((BitVec.ofInt 64 a &&& BitVec.ofInt 64 255).toNat:Nat):Int):=w64_id (by omega) (by omega)
 show 0≤IntKind.i64.wrap (((BitVec.ofInt 64 a &&& BitVec.ofInt 64 255).toNat:Nat):Int)∧IntKind.i64.wrap (((BitVec.ofInt 64 a &&& BitVec.ofInt 64 255).toNat:Nat):Int)≤255
 rw[h2];omega
theorem byteOk{c:Cur}(h:CurOk c):∃v c',Dspec_l1Byte c=some (v,c')∧(0≤v∧v≤255)∧CurOk c':=by
 obtain⟨l,i,s⟩:=c
 obtain⟨h1,h2,h3⟩:=h
 simp only at h1 h2 h3
 unfold Dspec_l1Byte
 by_cases hi:i<(l.length:Int)
 ·rw[dec_t hi,frk_t]
  obtain⟨k,rfl⟩:∃k:Nat,i=k:=⟨i.toNat,by omega⟩
  have hg:lget l (k:Int)=some l[k]!:=by
   rw[lget_nat,List.getElem?_eq_getElem (by omega)]
   simp[List.getElem!_eq_getElem?_getD,List.getElem?_eq_getElem (show k<l.length by omega)]
  rw[hg,Option.bind_some,w64_suc (by unfold big;omega)]
  exact⟨_,_,rfl,and255 _,by simp only;omega,by simp only;omega,h3⟩
 ·rw[dec_f hi,frk_f]
  exact⟨_,_,rfl,and255 _,h1,h2,h3⟩
theorem belowOk{c:Cur}(h:CurOk c){a:Int}(h1:1≤a)(h2:a≤256):∃v c',Dspec_l1Below c a=some (v,c')∧(0≤v∧v<a)∧CurOk c':=by
 unfold Dspec_l1Below
 rw[dec_f (by omega),frk_f,dec_t h2,frk_t]
 obtain⟨v,c',e,hv,hc⟩:=byteOk h
 rw[e,Option.bind_some]
 unfold rm
 rw[if_neg (by omega),Option.bind_some]
 exact⟨_,_,rfl,⟨by simp only;rw[Int.tmod_eq_emod_of_nonneg hv.1];exact Int.emod_nonneg _ (by omega),by simp only;rw[Int.tmod_eq_emod_of_nonneg hv.1];exact Int.emod_lt_of_pos _ (by omega)⟩,hc⟩
theorem onceOk{c:Cur}(h:CurOk c){a:Int}(h1:1≤a)(h2:a≤256):∃v c',Dspec_l1Once c a=some (v,c')∧CurOk c':=by
 obtain⟨v,c',e,-,hc⟩:=belowOk h h1 h2
 unfold Dspec_l1Once
 rw[e,Option.bind_some]
 exact⟨_,_,rfl,hc⟩
theorem intOk{c:Cur}(h:CurOk c){l:List Int}(h1:1≤l.length)(h2:l.length≤256):∃v c',Dspec_l1Int c l=some (v,c')∧v∈l∧CurOk c':=by
 obtain⟨v,c',e,hv,hc⟩:=belowOk h (a:=(l.length:Int)) (by omega) (by omega)
 unfold Dspec_l1Int
 rw[e,Option.bind_some]
 obtain⟨k,rfl⟩:∃k:Nat,v=k:=⟨v.toNat,by omega⟩
 have hg:=List.getElem?_eq_getElem (show k<l.length by omega)
 rw[show lget l (k:Int)=some l[k] by rw[lget_nat,hg],Option.bind_some]
 exact⟨_,_,rfl,List.getElem_mem _,hc⟩
theorem coefOk{c:Cur}(h:CurOk c):∃v c',Dspec_l3Coef c=some (v,c')∧(-5≤v∧v≤5)∧CurOk c':=by
 obtain⟨v,c1,e,hv,hc⟩:=belowOk h (a:=11) (by omega) (by omega)
 unfold Dspec_l3Coef
 rw[e,Option.bind_some]
 obtain⟨w,c2,e2,hw,hc2⟩:=intOk hc (l:=[0,0,1,(-1),2,(-3),w64 (v-5)]) (by simp) (by simp)
 have e5:w64 (v-5)=v-5:=w64_id (by omega) (by omega)
 simp only[e2,Option.bind_some]
 refine⟨_,_,rfl,?_,hc2⟩
 rw[e5] at hw
 simp only[List.mem_cons,List.not_mem_nil,or_false] at hw
 omega
theorem pq_abs(x:Int)(g:Nat):(pq x g).natAbs=x.natAbs / g:=by
 unfold pq
 split
 ·rw[Int.natAbs_neg,Int.natAbs_natCast]
 ·rw[Int.natAbs_natCast]
theorem prim_right{a b c d:Int}(h:(prim a b c d).2=0):pOk (prim a b c d).1=true:=by
 unfold prim at h ⊢
 by_cases h0:a=0∧b=0∧c=0
 ·rw[if_pos h0] at h;cases h
 ·rw[if_neg h0] at h ⊢
  split at h
  ·rename_i hr
   rw[if_pos hr]
   simp only[Bool.and_eq_true] at hr
   have hp:=g4_pos (d:=d) h0
   have hgd:g4 a b c d ∣ Nat.gcd (Nat.gcd a.natAbs b.natAbs) c.natAbs:=Nat.gcd_dvd_left _ _
   have hdd:g4 a b c d ∣ d.natAbs:=Nat.gcd_dvd_right _ _
   have hcd:=Nat.dvd_trans hgd (Nat.gcd_dvd_right _ _)
   have hab:=Nat.dvd_trans hgd (Nat.gcd_dvd_left _ _)
   have had:=Nat.dvd_trans hab (Nat.gcd_dvd_left _ _)
   have hbd:=Nat.dvd_trans hab (Nat.gcd_dvd_right _ _)
   have nz:∀{x:Int},x≠0→g4 a b c d ∣ x.natAbs→pq x (g4 a b c d)≠0:=fun {x} hx hd e=>by
    have:=pq_abs x (g4 a b c d)
    rw[e] at this
    have h1:0<x.natAbs / g4 a b c d:=Nat.div_pos (Nat.le_of_dvd (by omega) hd) hp
    simp at this;omega
   have e1:decide (pq a (g4 a b c d)≠0∨pq b (g4 a b c d)≠0∨pq c (g4 a b c d)≠0)=true:=by
    apply decide_eq_true
    by_cases ha:a=0
    ·by_cases hb:b=0
     ·exact .inr (.inr (nz (fun e=>h0 ⟨ha,hb,e⟩) hcd))
     ·exact .inr (.inl (nz hb hbd))
    ·exact .inl (nz ha had)
   have e2:decide (Nat.gcd (Nat.gcd (pq a (g4 a b c d)).natAbs (pq b (g4 a b c d)).natAbs) (Nat.gcd (pq c (g4 a b c d)).natAbs (pq d (g4 a b c d)).natAbs)=1)=true:=by
    apply decide_eq_true
    rw[pq_abs,pq_abs,pq_abs,pq_abs]
    rw[Nat.gcd_div had hbd,Nat.gcd_div hcd hdd]
    have q1:g4 a b c d ∣ Nat.gcd a.natAbs b.natAbs:=Nat.dvd_gcd had hbd
    have q2:g4 a b c d ∣ Nat.gcd c.natAbs d.natAbs:=Nat.dvd_gcd hcd hdd
    rw[Nat.gcd_div q1 q2]
    have q3:Nat.gcd (Nat.gcd a.natAbs b.natAbs) (Nat.gcd c.natAbs d.natAbs)=g4 a b c d:=by unfold g4;rw[Nat.gcd_assoc (Nat.gcd a.natAbs b.natAbs)]
    rw[q3];exact Nat.div_self hp
   unfold pOk
   rw[hr.1,hr.2.1,hr.2.2.1,hr.2.2.2,e1,e2];rfl
  ·cases h
theorem drawP{a b c:Int}(ha:-5≤a∧a≤5)(hb:-5≤b∧b≤5)(hc:-5≤c∧c≤5){k:Cur}(h:CurOk k) :
  ∃p k',(∀n,1000≤n→Dspec_l3Draw_0 n a b c 0 0 0 0 k.1 k.2.1 k.2.2=some (p,k'))∧pOk p=true∧CurOk k':=by
 obtain⟨v,c1,e,hv,h1⟩:=belowOk (c:=(k.1,k.2.1,k.2.2)) h (a:=25) (by omega) (by omega)
 obtain⟨w,c2,e2,hw,h2⟩:=intOk h1 (l:=[0,1,(-1),2,(-4),w64 (v-12),500,(-500)]) (by simp) (by simp)
 have e5:w64 (v-12)=v-12:=w64_id (by omega) (by omega)
 have hw0:=hw
 rw[e5] at hw
 simp only[List.mem_cons,List.not_mem_nil,or_false] at hw
 have hw':-500≤w∧w≤500:=by omega
 have step:∀n,1000≤n→Dspec_l3Draw_0 n a b c 0 0 0 0 k.1 k.2.1 k.2.2=frk ((prim a b c w).2 != 0) (some ((Pl.mk 0 0 1 (-1)),c2)) (some ((prim a b c w).1,c2)):=by
  intro n hn
  unfold Dspec_l3Draw_0
  rw[e,Option.bind_some]
  simp only[e2,Option.bind_some]
  rw[primOk n a b c w (by omega) (by omega) (by omega) (by omega) (by omega) (by omega) (by omega) (by omega) (by omega),Option.bind_some]
 by_cases hz:(prim a b c w).2=0
 ·refine⟨_,_,fun n hn=>?_,prim_right hz,h2⟩
  rw[step n hn,show ((prim a b c w).2 != 0)=false by simpa using hz,frk_f]
 ·refine⟨⟨0,0,1,-1⟩,_,fun n hn=>?_,by decide,h2⟩
  rw[step n hn,show ((prim a b c w).2 != 0)=true by simpa using hz,frk_t]
theorem drawOk{k:Cur}(h:CurOk k):∃p k',(∀n,1000≤n→Dspec_l3Draw n k=some (p,k'))∧pOk p=true∧CurOk k':=by
 obtain⟨a,k1,e1,ha,h1⟩:=coefOk h
 obtain⟨b,k2,e2,hb,h2⟩:=coefOk h1
 obtain⟨c,k3,e3,hc,h3⟩:=coefOk h2
 obtain⟨o,k4,e4,h4⟩:=onceOk h3 (a:=2) (by omega) (by omega)
 have fin:∀{x y z:Int} {k5:Cur},(-5≤x∧x≤5)→(-5≤y∧y≤5)→(-5≤z∧z≤5)→CurOk k5→(∀n,Dspec_l3Draw n k=Dspec_l3Draw_0 n x y z 0 0 0 0 k5.1 k5.2.1 k5.2.2)→∃p k',(∀n,1000≤n→Dspec_l3Draw n k=some (p,k'))∧pOk p=true∧CurOk k':=by
  intro x y z k5 hx hy hz h5 he
  obtain⟨p,k',g1,g2,g3⟩:=drawP hx hy hz h5
  exact⟨p,k',fun n hn=>(he n).trans (g1 n hn),g2,g3⟩
 cases o with
 | false =>
  refine fin ha hb hc h4 fun n=>?_
  unfold Dspec_l3Draw
  simp only[e1,e2,e3,e4,Option.bind_some,frk_f]
 | true =>
  obtain⟨s,k5,e5,hs,h5⟩:=intOk h4 (l:=[1,(-1)]) (by simp) (by simp)
  have hs':-5≤s∧s≤5:=by simp only[List.mem_cons,List.not_mem_nil,or_false] at hs;omega
  obtain⟨o2,k6,e6,h6⟩:=onceOk h5 (a:=2) (by omega) (by omega)
  cases o2 with
  | true =>
   refine fin (x:=0) (z:=0) (by omega) hs' (by omega) h6 fun n=>?_
   unfold Dspec_l3Draw
   simp only[e1,e2,e3,e4,e5,e6,Option.bind_some,frk_t]
  | false =>
   obtain⟨o3,k7,e7,h7⟩:=onceOk h6 (a:=2) (by omega) (by omega)
   cases o3 with
   | true =>
    refine fin (x:=0) (y:=0) (by omega) (by omega) hs' h7 fun n=>?_
    unfold Dspec_l3Draw
    simp only[e1,e2,e3,e4,e5,e6,e7,Option.bind_some,frk_t,frk_f]
   | false =>
    refine fin (y:=0) (z:=0) hs' (by omega) (by omega) h7 fun n=>?_
    unfold Dspec_l3Draw
    simp only[e1,e2,e3,e4,e5,e6,e7,Option.bind_some,frk_t,frk_f]
end Evl.T
namespace Evl.T
open Go Evl
inductive Dp:Sol→Nat→Prop
 | leaf {i p d}:Dp (.mk i p []) d
 | node {i p a b d}:Dp a d→Dp b d→Dp (.mk i p [a,b]) (d+1)
theorem Dp.up{s:Sol}{d:Nat}(h:Dp s d):∀{k},d≤k→Dp s k:=by
 induction h with
 | leaf=>intro k _;exact .leaf
 | @node i p a b d _ _ iha ihb =>
  intro k hk
  obtain⟨k,rfl⟩:∃j,k=j+1:=⟨k-1,by omega⟩
  exact .node (iha (by omega)) (ihb (by omega))
end Evl.T
namespace Evl.T
open Go Evl
inductive Lf:Sol→List Pl→Bool→Prop
 | leaf {i p}:Lf (.mk i p []) [] i
 | left {p a b Q i}:Lf a Q i→Lf (.mk false p [a,b]) (p::Q) i
 | right {p a b Q i}:Lf b Q i→Lf (.mk false p [a,b]) (flp p::Q) i
end Evl.T
namespace Evl.T
open Go Evl
theorem nz_snoc{l:List Pl}{p:Pl}(hz:∀q∈l,Nz q)(hp:Nz p):∀q∈l++[p],Nz q:=fun q hq=>by
 rcases List.mem_append.1 hq with hq | hq
 ·exact hz q hq
 ·rw[List.mem_singleton.1 hq];exact hp
end Evl.T
namespace Evl.T
open Go Evl
end Evl.T
namespace Evl.T
open Go Evl
inductive Vl(L:List Pl):Sol→Bool→Prop
 | leaf {i p}:Vl L (.mk i p []) i
 | left {i p a b v}:p∈L→Vl L a v→Vl L (.mk i p [a,b]) v
 | right {i p a b v}:flp p∈L→Vl L b v→Vl L (.mk i p [a,b]) v
inductive Cpl(L:List Pl):Sol→Prop
 | leaf {i p}:Cpl L (.mk i p [])
 | node {i p a b}:p∈L∨flp p∈L→Cpl L a→Cpl L b→Cpl L (.mk i p [a,b])
theorem Rt.pls{s:Sol}{l:List Pl}(h:Rt s l):∃S:List Pl,(∀p∈S,Nz p)∧∀L,(∀p∈S,p∈L∨flp p∈L)→Cpl L s:=by
 induction h with
 | leaf _=>exact⟨[],by simp,fun L _=>.leaf⟩
 | @node p a b _ hp _ _ _ _ _ iha ihb =>
  obtain⟨S,s1,s2⟩:=iha
  obtain⟨T,t1,t2⟩:=ihb
  refine⟨p::(S++T),fun q hq=>?_,fun L hL=>.node (hL p (by simp)) (s2 L fun q hq=>hL q (by simp[hq])) (t2 L fun q hq=>hL q (by simp[hq]))⟩
  simp only[List.mem_cons,List.mem_append] at hq
  rcases hq with rfl | hq | hq
  ·exact pOk_Nz hp
  ·exact s1 q hq
  ·exact t1 q hq
theorem Vl.lf{L:List Pl}{x:Sol}{v:Bool}(h:Vl L x v)(hl:isLf x=true):x.inn=v:=by
 cases h with
 | leaf=>rfl
 | left _ _=>simp[isLf,Sol.kids] at hl
 | right _ _=>simp[isLf,Sol.kids] at hl
theorem vl_jn{L:List Pl}{p:Pl}{x y:Sol}{v:Bool}(h:(p∈L∧Vl L x v)∨(flp p∈L∧Vl L y v)):Vl L (jn p x y) v:=by
 unfold jn
 cases hj:jnB x y with
 | true =>
  rw[if_pos rfl]
  unfold jnB at hj
  simp only[Bool.and_eq_true,beq_iff_eq] at hj
  obtain⟨h1,h2,h3⟩:=hj
  rcases h with ⟨_,h⟩ | ⟨_,h⟩
  ·rw[h.lf h1];exact .leaf
  ·rw[h3,h.lf h2];exact .leaf
 | false =>
  rw[if_neg (by simp)]
  rcases h with ⟨h,h'⟩ | ⟨h,h'⟩
  ·exact .left h h'
  ·exact .right h h'
theorem Rt.lf{s:Sol}{Q:List Pl}{i:Bool}(h:Lf s Q i):∀{path:List Pl},Rt s path→Opn path→(∀q∈path,Nz q)→Opn (path++Q)∧∀q∈path++Q,Nz q:=by
 induction h with
 | leaf=>intro path _ ho hz;rw[List.append_nil];exact⟨ho,hz⟩
 | @left p a b Q i _ ih =>
  intro path hr ho hz
  cases hr with
  | node hp _ h3 _ ha _ =>
   have:=ih ha (.snoc ho h3) (nz_snoc hz (pOk_Nz hp))
   simpa using this
 | @right p a b Q i _ ih =>
  intro path hr ho hz
  cases hr with
  | node hp _ _ h5 _ hb =>
   have:=ih hb (.snoc ho h5) (nz_snoc hz (Nz_flp (pOk_Nz hp)))
   simpa using this
end Evl.T
namespace Evl.T
open Go Evl
def pr (y:Sol)(sb:Bool):Sol×Bool:=if sb=false∧nod y≤300 then (y,true) else (lfS false,false)
theorem pr_ok{y:Sol}{sb:Bool}:(pr y sb).2=true↔sb=false∧nod y≤300:=by unfold pr;split <;> simp_all
theorem pr_yes{y:Sol}{sb:Bool}(h:(pr y sb).2=true):pr y sb=(y,true)∧sb=false∧nod y≤300:=by
 have:=pr_ok.1 h
 exact⟨if_pos this,this⟩
theorem putE{a b:Sol}(ha:Right a)(hb:Right b){op:Int}(ho:rIn op 1 4=true):∃y sb,Pt2 op a b [] y sb∧Ev fun n=>Dspec_Put n a b op=some (pr y sb)∧Dimpl_Put n a b op=some (pr y sb):=by
 obtain⟨x,ok,hB,nx,-,hpt,hE⟩:=putEq a b ha.1.bin.lens hb.1.bin.lens op
 obtain⟨y,sb,h1,h2,h3,h4⟩:=hpt ⟨ha,hb,ho⟩
 have e:pr y sb=(x,ok):=by
  unfold pr
  cases ok with
  | true=>rw[if_pos (h2.1 rfl),h3 rfl]
  | false=>rw[if_neg (fun h=>by have:=h2.2 h;cases this),h4 rfl]
 exact⟨y,sb,h1,by rw[e];exact hE⟩
end Evl.T
namespace Evl.T
open Go Evl
theorem newStep(n:Nat)(l:List Int)(rec0:(Int×Int)→Option Cur)(a b:Int):Dspec_l1New_1 n l rec0 (a,b)=frk (decide (b<(l.length:Int))) (Dspec_l1New_0 n rec0 l a b (decide (b<4000))) (some (l,0,a)):=rfl
theorem newLoop(l:List Int)(hl:l.length≤1048576):∀(k i:Nat) (a:Int),i+k=l.length→∃c,(∀n m,k<m→loopN (Dspec_l1New_1 n l) m (a,(i:Int))=some c)∧CurOk c:=by
 intro k
 induction k with
 | zero =>
  intro i a h
  refine⟨(l,0,a),fun n m hm=>?_,by show 0≤(0:Int);omega,by show (0:Int)≤(l.length:Int);omega,hl⟩
  obtain⟨m,rfl⟩:∃j,m=j+1:=⟨m-1,by omega⟩
  rw[loop_suc,newStep,dec_f (by omega),frk_f]
 | succ k ih =>
  intro i a h
  by_cases h4:(i:Int)<4000
  ·have hg:=List.getElem?_eq_getElem (show i<l.length by omega)
   obtain⟨c,g1,g2⟩:=ih (i+1) (bAnd .i64 (w64 ((w64 ((w64 (a*137))+(w64 l[i])))+11)) 1073741823) (by omega)
   refine⟨c,fun n m hm=>?_,g2⟩
   obtain⟨m,rfl⟩:∃j,m=j+1:=⟨m-1,by omega⟩
   rw[loop_suc,newStep,dec_t (by omega),frk_t]
   unfold Dspec_l1New_0
   rw[dec_t h4,frk_t,lget_nat,hg,Option.bind_some,w64_suc (by unfold big;omega)]
   exact g1 n m (by omega)
  ·refine⟨(l,0,a),fun n m hm=>?_,by show 0≤(0:Int);omega,by show (0:Int)≤(l.length:Int);omega,hl⟩
   obtain⟨m,rfl⟩:∃j,m=j+1:=⟨m-1,by omega⟩
   rw[loop_suc,newStep,dec_t (by omega),frk_t]
   unfold Dspec_l1New_0
   rw[dec_f h4,frk_f]
theorem newOk{l:List Int}(hl:l.length≤1048576):∃c,(∀n,l.length<n→Dspec_l1New n l=some c)∧CurOk c:=by
 obtain⟨c,g1,g2⟩:=newLoop l hl l.length 0 (w64 (142142+(l.length:Int))) (by omega)
 exact⟨c,fun n hn=>g1 n n hn,g2⟩
end Evl.T
namespace Evl.T
open Go Evl
theorem any_gt(l:List Pl)(f:Pl→Bool):((List.range' 0 l.length).any fun i=>f (gt l i))=l.any f:=by
 rw[Bool.eq_iff_iff,List.any_eq_true,List.any_eq_true]
 constructor
 ·rintro⟨i,hi,h⟩
  have:i<l.length:=by simpa using hi
  exact⟨_,gt_mem this,h⟩
 ·rintro⟨x,hx,h⟩
  obtain⟨i,hi,e⟩:=List.getElem_of_mem hx
  refine⟨i,by simpa using hi,?_⟩
  have:=gt_some hi
  rw[List.getElem?_eq_getElem hi] at this
  rw[←Option.some.inj this,e];exact h
theorem all_any(l:List Pl)(f:Pl→Bool):l.all f=!l.any fun x=>!f x:=by
 induction l with
 | nil=>rfl
 | cons x l ih=>simp only[List.all_cons,List.any_cons,ih,Bool.not_or,Bool.not_not]
theorem all_mem{l:List Pl}(h:l.all pOk=true):∀q∈l,pOk q=true:=List.all_eq_true.1 h
theorem sRightL(l:List Pl)(hb:l.length≤big):Ev fun n=>Dspec_l6Right n l=some (l.all pOk&&decide ((l.length:Int)≤24)):=by
 refine(e_ge (l.length+502)).mono fun n hn=>?_
 have h:=search (F:=Dspec_l6Right_0 n l) (len:=l.length) (b:=fun i=>!pOk (gt l i)) (hit:=some false) (miss:=some (decide ((l.length:Int)≤24))) hb ?_ ?_ l.length 0 n (by omega) (by omega)
 ·show loopN _ _ _=_
  rw[show (0:Int)=((0:Nat):Int) from rfl,h,any_gt l fun x=>!pOk x,all_any]
  cases l.any fun x=>!pOk x <;> rfl
 ·intro rec i hi
  unfold Dspec_l6Right_0
  simp only[lt_dec hi,frk_t,lget_nat,gt_some hi,Option.bind_some,sPlaneOk n _ (by omega)]
  cases pOk (gt l i) <;> rfl
 ·intro rec
  unfold Dspec_l6Right_0
  simp only[lt_self,frk_f]
def opB (l:List Pl):Bool:=!(List.range' 0 l.length).any fun i=>wth (l.take i) (gt l i)
theorem sOpenL(l:List Pl)(hl:∀q∈l,PB q)(hb:l.length≤big):Ev fun n=>Dspec_l6Open n l=some (opB l):=by
 refine(e_ge (l.length+502)).mono fun n hn=>?_
 have e:opB l=!(List.range' 1 (l.length-1)).any fun i=>wth (l.take i) (gt l i):=by
  unfold opB
  cases l with
  | nil=>rfl
  | cons x l=>simp only[List.length_cons,List.range'_succ,List.any_cons,Nat.add_sub_cancel];rfl
 have hF:∀rec (i:Nat),i<l.length→Dspec_l6Open_0 n l rec (i:Int)=cond (wth (l.take i) (gt l i)) (some false) (rec (w64 ((i:Int)+1))):=by
  intro rec i hi
  unfold Dspec_l6Open_0
  simp only[lt_dec hi,frk_t,lget_nat,gt_some hi,Option.bind_some,lsl_take l i (by omega)]
  rw[sWith (l.take i) (gt l i) (fun q hq=>hl q (List.mem_of_mem_take hq)) (hl _ (gt_mem hi)) (by rw[List.length_take];omega) n (by rw[List.length_take];omega),Option.bind_some,frk_cond]
 have hE:∀rec,Dspec_l6Open_0 n l rec (l.length:Int)=some true:=by
  intro rec
  unfold Dspec_l6Open_0
  simp only[lt_self,frk_f]
 show loopN _ _ _=_
 cases hc:l with
 | nil =>
  obtain⟨m,rfl⟩:∃m,n=m+1:=⟨n-1,by omega⟩
  rw[loop_suc];rfl
 | cons x r =>
  rw[←hc]
  have hlen:l.length=r.length+1:=by rw[hc];rfl
  have h:=search (F:=Dspec_l6Open_0 n l) (len:=l.length) (b:=fun i=>wth (l.take i) (gt l i)) (hit:=some false) (miss:=some true) hb hF hE (l.length-1) 1 n (by omega) (by omega)
  rw[show (1:Int)=((1:Nat):Int) from rfl,h,e]
  cases (List.range' 1 (l.length-1)).any fun i=>wth (l.take i) (gt l i) <;> rfl
theorem opn_of{l:List Pl}(h:opB l=true):Opn l:=by
 have key:∀k,k≤l.length→Opn (l.take k):=by
  intro k
  induction k with
  | zero=>intro _;exact .nil
  | succ k ih =>
   intro hk
   have e:l.take (k+1)=l.take k++[gt l k]:=by rw[List.take_add_one,gt_some (by omega)];rfl
   rw[e]
   refine .snoc (ih (by omega)) ?_
   unfold opB at h
   simp only[Bool.not_eq_true',List.any_eq_false] at h
   simpa using h k (by simp;omega)
 have:=key l.length (Nat.le_refl _)
 rwa [List.take_length] at this
theorem wth_mono{r l:List Pl}{p:Pl}(hs:r.Sublist l)(h:wth l p=false):wth r p=false:=by
 cases hr:wth r p with
 | false=>rfl
 | true =>
  have:wth l p=true:=by
   rw[wth_sub] at hr ⊢
   rcases hr with ⟨q,h1,h2⟩ | ⟨q,r,h1,h2⟩ | ⟨q,r,s,h1,h2⟩
   ·exact .inl ⟨q,h1.trans hs,h2⟩
   ·exact .inr (.inl ⟨q,r,h1.trans hs,h2⟩)
   ·exact .inr (.inr ⟨q,r,s,h1.trans hs,h2⟩)
  rw[h] at this;cases this
def cvK:List Pl→List Pl→List Pl
 | [],_=>[]
 | p::r,path=>if wth path (flp p) then cvK r path else p::cvK r (path++[p])
def cvN (p:Pl)(s:Sol):Sol:=.mk false p [s,lfS false]
def cvT (k:List Pl):Sol:=k.foldr cvN (lfS true)
def Cnd (path l:List Pl):Prop:=∀l1 p l2,l=l1++p::l2→∀s:List Pl,s.Sublist l1→wth (path++s) p=false
theorem Cnd.head{path l:List Pl}{p:Pl}(h:Cnd path (p::l)):wth path p=false:=by
 have:=h [] p l rfl [] (List.Sublist.refl _)
 simpa using this
theorem Cnd.tail{path l:List Pl}{p:Pl}(h:Cnd path (p::l)):Cnd path l:=fun l1 q l2 e s hs=>h (p::l1) q l2 (by rw[e];rfl) s (hs.cons p)
theorem Cnd.more{path l:List Pl}{p:Pl}(h:Cnd path (p::l)):Cnd (path++[p]) l:=fun l1 q l2 e s hs=>by
 have:=h (p::l1) q l2 (by rw[e];rfl) (p::s) (hs.cons_cons p)
 simpa using this
theorem cnd_of{l:List Pl}(h:Opn l):Cnd [] l:=fun l1 p l2 e s hs=>by
 obtain⟨l',h1,h2⟩:=h.last (r:=s) (p:=p) (by
  rw[e,show l1++p::l2=(l1++[p])++l2 by simp]
  exact(hs.append (List.Sublist.refl _)).trans (List.sublist_append_left _ _))
 exact wth_mono h1 h2
theorem cvT_rt:∀(l path:List Pl),Cnd path l→(∀q∈l,pOk q=true)→path.length+l.length≤24→Rt (cvT (cvK l path)) path:=by
 intro l
 induction l with
 | nil=>intro path _ _ _;exact .leaf rfl
 | cons p l ih =>
  intro path hc hp hl
  simp only[List.length_cons] at hl
  rw[cvK]
  cases hw:wth path (flp p) with
  | true=>rw[if_pos rfl];exact ih path hc.tail (fun q hq=>hp q (by simp[hq])) (by omega)
  | false =>
   rw[if_neg (by simp)]
   exact .node (hp p (by simp)) (by omega) hc.head hw (ih _ hc.more (fun q hq=>hp q (by simp[hq])) (by rw[List.length_append,List.length_singleton];omega)) (.leaf rfl)
theorem cvK_len:∀(l path:List Pl),(cvK l path).length≤l.length:=by
 intro l
 induction l with
 | nil=>intro path;exact Nat.le_refl _
 | cons p l ih =>
  intro path
  rw[cvK]
  split
  ·have:=ih path;rw[List.length_cons];omega
  ·have:=ih (path++[p]);rw[List.length_cons,List.length_cons];omega
theorem cvT_nod:∀k:List Pl,nod (cvT k)=k.length:=by
 intro k
 induction k with
 | nil=>exact nod_leaf _ _
 | cons p k ih =>
  show nod (.mk false p [cvT k,lfS false])=_
  rw[nod2,ih,show nod (lfS false)=0 from nod_leaf _ _,List.length_cons];omega
theorem cvT_right{l:List Pl}(ho:Opn l)(hp:∀q∈l,pOk q=true)(hl:l.length≤24):Right (cvT (cvK l [])):=by
 refine⟨cvT_rt l [] (cnd_of ho) hp (by simpa using hl),?_⟩
 rw[cvT_nod]
 have:=cvK_len l [];omega
theorem sCvStep(n:Nat)(self:List Pl×List Pl→Option Sol)(l path:List Pl)(rec:Int→Option Sol)(k:Nat)(p:Pl)(h1:k<l.length)(h2:l[k]?=some p):Dspec_l9Convex_2 n self l path false 0 0 0 0 rec (k:Int) =
  ((Dspec_l3Flip p).bind fun v1=>(Dspec_l6With n path v1).bind fun v2=>frk (!v2) ((Dspec_l6With n path p).bind fun v4=>frk (!v4) ((lsl l (w64 ((k:Int)+1)) (l.length:Int)).bind fun v6=>(Dspec_l8Path path p).bind fun v8=>(self (v6,v8)).bind fun v9=>some (cvN p v9)) (rec (w64 ((k:Int)+1)))) (rec (w64 ((k:Int)+1)))):=by
 unfold Dspec_l9Convex_2
 dsimp only
 rw[lt_dec h1,frk_t,lget_nat,h2,Option.bind_some]
 unfold Dspec_l9Convex_0
 rw[lget_nat,h2]
 rfl
theorem sConvexIn:∀(r path:List Pl),Cnd path r→(∀q∈r,PB q)→(∀q∈path,PB q)→path.length+r.length≤24→E2 fun n m=>∀(l:List Pl) (k j:Nat),l.drop k=r→l.length≤24→r.length<j →
  loopN (Dspec_l9Convex_2 n (loopN (Dspec_l9Convex_b n) m) l path false 0 0 0 0) j (k:Int)=some (cvT (cvK r path)):=by
 intro r
 induction r with
 | nil =>
  intro path _ _ _ _
  refine E2.of fun n m l k j hr hl hj=>?_
  obtain⟨j,rfl⟩:∃i,j=i+1:=⟨j-1,by omega⟩
  have hk:l.length≤k:=List.drop_eq_nil_iff.1 hr
  have hd:decide ((k:Int)<(l.length:Int))=false:=decide_eq_false (by omega)
  rw[loop_suc]
  simp only[Dspec_l9Convex_2,hd,frk_f];rfl
 | cons p r ih =>
  intro path hc hp hpa hlen
  simp only[List.length_cons] at hlen
  have hpb:PB p:=hp p (by simp)
  have hw0:∀n:Nat,40≤n→Dspec_l6With n path (flp p)=some (wth path (flp p)):=fun n hn=>sWith path (flp p) hpa (flp_PB hpb) (by unfold big;omega) n (by omega)
  have hw1:∀n:Nat,40≤n→Dspec_l6With n path p=some false:=fun n hn=>by rw[sWith path p hpa hpb (by unfold big;omega) n (by omega),hc.head]
  cases hw:wth path (flp p) with
  | true =>
   have i1:=ih path hc.tail (fun q hq=>hp q (by simp[hq])) hpa (by omega)
   refine(i1.and (e2_ge 40)).mono fun n m ⟨i1,hn,_⟩ l k j hr hl hj=>?_
   simp only[List.length_cons] at hj
   obtain⟨j,rfl⟩:∃i,j=i+1:=⟨j-1,by omega⟩
   obtain⟨h1,h2,h3,-⟩:=drop_get hr
   rw[loop_suc]
   rw[sCvStep n _ l path _ k p h1 h2,sFlip p hpb,Option.bind_some,hw0 n hn,Option.bind_some,hw,Bool.not_true,frk_f,w64_suc (show k<big by unfold big;omega),i1 l (k+1) j h3 hl (by omega)]
   rw[cvK,hw,if_pos rfl]
  | false =>
   have i1:=ih (path++[p]) hc.more (fun q hq=>hp q (by simp[hq])) (path_PB hpa hpb) (by rw[List.length_append,List.length_singleton];omega)
   refine E2.suc ((i1.and (e2_ge 40)).mono fun n m ⟨i1,hn,_⟩ l k j hr hl hj=>?_)
   simp only[List.length_cons] at hj
   obtain⟨j,rfl⟩:∃i,j=i+1:=⟨j-1,by omega⟩
   obtain⟨h1,h2,h3,-⟩:=drop_get hr
   have hsl:lsl l ((k+1:Nat):Int) (l.length:Int)=some r:=by
    unfold lsl
    rw[if_pos ⟨by omega,by omega,by omega⟩,Int.toNat_natCast,Int.toNat_natCast,h3,List.take_of_length_le (by rw[←h3,List.length_drop];omega)]
   rw[loop_suc]
   rw[sCvStep n _ l path _ k p h1 h2,sFlip p hpb,Option.bind_some,hw0 n hn,Option.bind_some,hw,Bool.not_false,frk_t,hw1 n hn,Option.bind_some,Bool.not_false,frk_t,w64_suc (show k<big by unfold big;omega),hsl,Option.bind_some,sPath path p (by omega),Option.bind_some]
   rw[loop_suc]
   have this:loopN (Dspec_l9Convex_2 n (loopN (Dspec_l9Convex_b n) m) r (path++[p]) false 0 0 0 0) n 0=_:=i1 r 0 n rfl (by omega) (by omega)
   show ((loopN (Dspec_l9Convex_2 n (loopN (Dspec_l9Convex_b n) m) r (path++[p]) false 0 0 0 0) n 0).bind _)=_
   rw[this,Option.bind_some,cvK,hw,if_neg (by simp)]
   rfl
theorem sConvexT{l:List Pl}(ho:Opn l)(hp:∀q∈l,PB q)(hl:l.length≤24):Ev fun n=>Dspec_l9Convex n l []=some (cvT (cvK l [])):=by
 have:=sConvexIn l [] (cnd_of ho) hp (by simp) (by simpa using hl)
 have h2:E2 fun n m=>loopN (Dspec_l9Convex_b n) m (l,[])=some (cvT (cvK l [])):=by
  refine E2.suc ((this.and (e2_ge 40)).mono fun n m ⟨h,hn,_⟩=>?_)
  rw[loop_suc]
  exact h l 0 n rfl hl (by omega)
 exact h2.ev
def cvR (l:List Pl):Sol×Int:=if !(l.all pOk&&decide ((l.length:Int)≤24)) then (lfS false,1) else if !opB l then (lfS false,2) else (cvT (cvK l []),0)
theorem sConvex(l:List Pl)(hb:l.length≤big):Ev fun n=>Dspec_Convex n l=some (cvR l):=by
 unfold cvR
 have e1:=sRightL l hb
 cases hc:(l.all pOk&&decide ((l.length:Int)≤24)) with
 | false =>
  refine e1.mono fun n h1=>?_
  simp only[Dspec_Convex,h1,hc,Option.bind_some,Bool.not_false,frk_t,if_true];rfl
 | true =>
  simp only[Bool.and_eq_true,decide_eq_true_eq] at hc
  have hp:∀q∈l,PB q:=fun q hq=>pOk_PB (all_mem hc.1 q hq)
  have hc':(l.all pOk&&decide ((l.length:Int)≤24))=true:=by simp only[Bool.and_eq_true,decide_eq_true_eq];exact hc
  have e2:=sOpenL l hp hb
  cases ho:opB l with
  | false =>
   refine(e1.and e2).mono fun n ⟨h1,h2⟩=>?_
   simp only[Dspec_Convex,h1,h2,hc',ho,sLeaf,Option.bind_some,Bool.not_true,Bool.not_false,frk_t,frk_f,if_true];rfl
  | true =>
   have e3:=sConvexT (opn_of ho) hp (by omega)
   refine(e1.and (e2.and e3)).mono fun n ⟨h1,h2,h3⟩=>?_
   simp only[Dspec_Convex,h1,h2,h3,hc',ho,Option.bind_some,Bool.not_true,frk_f];rfl
theorem lf_right(b:Bool):Right (lfS b):=⟨.leaf rfl,by rw[show nod (lfS b)=0 from nod_leaf _ _];omega⟩
theorem cvR_right(l:List Pl):Right (cvR l).1:=by
 unfold cvR
 split
 ·exact lf_right _
 ·rename_i h
  split
  ·exact lf_right _
  ·rename_i h2
   simp only[Bool.not_eq_true',Bool.not_eq_false,Bool.and_eq_true,decide_eq_true_eq] at h h2
   exact cvT_right (opn_of h2) (all_mem h.1) (by omega)
end Evl.T
namespace Evl.T
open Go Evl
structure SpOk(q:Spot):Prop where
 w:1≤q.W∧q.W≤1000000000
 x:q.X.natAbs≤1000000000
 y:q.Y.natAbs≤1000000000
 z:q.Z.natAbs≤1000000000
 g:Nat.gcd (Nat.gcd (Nat.gcd q.X.natAbs q.Y.natAbs) q.Z.natAbs) q.W.natAbs=1
end Evl.T
namespace Evl.T
open Go Evl
theorem iSpOk{n:Nat}{q:Spot}(h:SpOk q)(hn:1000000001≤n):Dimpl_SpotOk n q=some true:=by
 obtain⟨hw,hx,hy,hz,hg⟩:=h
 have r:∀{x:Int},x.natAbs≤1000000000→rIn x (-1000000000) 1000000000=true:=fun h=>rIn_iff.2 (by omega)
 have u:∀{x:Int},x.natAbs≤1000000000→B 9223372036854775807 x:=fun h=>by unfold B;omega
 unfold Dimpl_SpotOk
 rw[iIn,rIn_iff.2 hw,Option.bind_some,Bool.not_true,frk_f,iIn,r hx,Option.bind_some,Bool.not_true,frk_f,iIn,r hy,Option.bind_some,Bool.not_true,frk_f,iIn,r hz,Option.bind_some,Bool.not_true,frk_f,
  iDiv4 n q.X q.Y q.Z q.W (u hx) (u hy) (u hz) (u (by omega)) (by omega) (by omega) (by omega) (by omega) (by omega),hg]
 rfl
end Evl.T
namespace Evl.T
open Go Evl
def at4 (p:Pl)(q:Spot):Int:=p.A*q.X+p.B*q.Y+p.C*q.Z+p.D*q.W
theorem at_flp(p:Pl)(q:Spot):at4 (flp p) q=0-at4 p q:=by unfold at4 flp;simp only;grind
theorem at_w{p:Pl}{q:Spot}(hp:PB p)(hq:SpOk q):w64 ((w64 ((w64 ((w64 (p.A*q.X))+(w64 (p.B*q.Y))))+(w64 (p.C*q.Z))))+(w64 (p.D*q.W)))=at4 p q:=by
 obtain⟨a1,a2,a3,a4⟩:=hp
 have bx:B 1000000000 q.X:=hq.x
 have by':B 1000000000 q.Y:=hq.y
 have bz:B 1000000000 q.Z:=hq.z
 have bw:B 1000000000 q.W:=by have:=hq.w;unfold B;omega
 simp only[w64_add_l,w64_add_r]
 rw[w64_B ((((a1.mul bx).add (a2.mul by')).add (a3.mul bz)).add (a4.mul bw)) rfl]
 rfl
theorem iSideR{p:Pl}{q:Spot}(hp:PB p)(hq:SpOk q):Dimpl_sideAt p q=some (sgn (at4 p q)):=by
 unfold Dimpl_sideAt;rw[iSign,Option.bind_some,at_w hp hq]
theorem sgn_ge(x:Int):sgn x≥0↔0≤x:=by unfold sgn;split <;> (try split) <;> omega
theorem sgn_le(x:Int):sgn x≤0↔x≤0:=by unfold sgn;split <;> (try split) <;> omega
inductive Ar(q:Spot):Sol→Bool→Prop
 | leaf {i p}:Ar q (.mk i p []) i
 | left {i p a b v}:0≤at4 p q→Ar q a v→Ar q (.mk i p [a,b]) v
 | right {i p a b v}:at4 p q≤0→Ar q b v→Ar q (.mk i p [a,b]) v
theorem ar_leaf{q:Spot}{i:Bool}{p:Pl}{v:Bool}:Ar q (.mk i p []) v↔v=i:=⟨fun h=>by cases h;rfl,fun h=>by subst h;exact .leaf⟩
theorem ar_lfS{q:Spot}{i:Bool}{v:Bool}:Ar q (lfS i) v↔v=i:=ar_leaf
theorem ar_node{q:Spot}{i:Bool}{p:Pl}{a b:Sol}{v:Bool}:Ar q (.mk i p [a,b]) v↔(0≤at4 p q∧Ar q a v)∨(at4 p q≤0∧Ar q b v) :=
 ⟨fun h=>by
  cases h with
  | left h h'=>exact .inl ⟨h,h'⟩
  | right h h'=>exact .inr ⟨h,h'⟩,fun h=>by
  rcases h with ⟨h,h'⟩ | ⟨h,h'⟩
  ·exact .left h h'
  ·exact .right h h'⟩
theorem aroundAr{s:Sol}{l:List Pl}(h:Rt s l){q:Spot}(hq:SpOk q):∃a b:Nat,(0<a↔Ar q s true)∧(0<b↔Ar q s false)∧a+b≤nod s+1∧E2 fun n m=>nod s≤1000→loopN (Dimpl_Solid_around_b n) m (s,q)=some ((a:Int),(b:Int)):=by
 induction h with
 | @leaf i p _ _ =>
  cases i with
  | true=>exact⟨1,0,by simp[ar_leaf],by simp[ar_leaf],by omega,E2.suc (E2.of fun n m _=>by rw[loop_suc];rfl)⟩
  | false=>exact⟨0,1,by simp[ar_leaf],by simp[ar_leaf],by omega,E2.suc (E2.of fun n m _=>by rw[loop_suc];rfl)⟩
 | @node p a b _ hp _ _ _ _ _ iha ihb =>
  obtain⟨a1,b1,l1,l2,u1,E1⟩:=iha
  obtain⟨a2,b2,l3,l4,u2,E2'⟩:=ihb
  have hv:=iSideR (pOk_PB hp) hq
  have hge:=sgn_ge (at4 p q)
  have hle:=sgn_le (at4 p q)
  generalize sgn (at4 p q)=v at hv hge hle
  have hstep:∀(n m:Nat),loopN (Dimpl_Solid_around_b n) (m+1) (.mk false p [a,b],q)=frk (decide (v≥0)) ((loopN (Dimpl_Solid_around_b n) m (a,q)).bind fun v3=>Dimpl_Solid_around_0 n (loopN (Dimpl_Solid_around_b n) m) false p.A p.B p.C p.D [a,b] v3.1 v3.2 (decide (v≤0)) q.X q.Y q.Z q.W) (Dimpl_Solid_around_0 n (loopN (Dimpl_Solid_around_b n) m) false p.A p.B p.C p.D [a,b] 0 0 (decide (v≤0)) q.X q.Y q.Z q.W):=by
   intro n m
   have e:∀self:Sol×Spot→Option (Int×Int),Dimpl_Solid_around_b n self (.mk false p [a,b],q)=frk false (frk false (some (1,0)) (some (0,1))) ((Dimpl_sideAt p q).bind fun v1=>frk (decide (v1≥0)) ((self (a,q)).bind fun v3=>Dimpl_Solid_around_0 n self false p.A p.B p.C p.D [a,b] v3.1 v3.2 (decide (v1≤0)) q.X q.Y q.Z q.W) (Dimpl_Solid_around_0 n self false p.A p.B p.C p.D [a,b] 0 0 (decide (v1≤0)) q.X q.Y q.Z q.W)):=fun _=>rfl
   rw[loop_suc,e,frk_f,hv,Option.bind_some]
  have hend:∀(n m:Nat) (c d:Int) (t:Bool),Dimpl_Solid_around_0 n (loopN (Dimpl_Solid_around_b n) m) false p.A p.B p.C p.D [a,b] c d t q.X q.Y q.Z q.W=frk t ((loopN (Dimpl_Solid_around_b n) m (b,q)).bind fun v5=>some (w64 (c+v5.1),w64 (d+v5.2))) (some (c,d)):=fun n m c d t=>rfl
  rw[nod2,ar_node,ar_node]
  by_cases h1:v≥0
  ·by_cases h2:v≤0
   ·refine⟨a1+a2,b1+b2,?_,?_,by omega,E2.suc ((E1.and E2').mono fun n m ⟨g1,g2⟩ hN=>?_)⟩
    ·rw[←l1,←l3,←hge,←hle];omega
    ·rw[←l2,←l4,←hge,←hle];omega
    have p1:=g1 (by omega)
    have p3:=g2 (by omega)
    have w1:w64 ((a1:Int)+(a2:Int))=((a1+a2:Nat):Int):=by rw[w64_id (by omega) (by omega)];omega
    have w2:w64 ((b1:Int)+(b2:Int))=((b1+b2:Nat):Int):=by rw[w64_id (by omega) (by omega)];omega
    rw[hstep,dec_t h1,dec_t h2,frk_t,p1,Option.bind_some,hend,frk_t,p3,Option.bind_some,w1,w2]
   ·refine⟨a1,b1,?_,?_,by omega,E2.suc (E1.mono fun n m g1 hN=>?_)⟩
    ·rw[←l1,←l3,←hge,←hle];omega
    ·rw[←l2,←l4,←hge,←hle];omega
    have p1:=g1 (by omega)
    rw[hstep,dec_t h1,dec_f h2,frk_t,p1,Option.bind_some,hend,frk_f]
  ·refine⟨a2,b2,?_,?_,by omega,E2.suc (E2'.mono fun n m g2 hN=>?_)⟩
   ·rw[←l1,←l3,←hge,←hle];omega
   ·rw[←l2,←l4,←hge,←hle];omega
   have p3:=g2 (by omega)
   have w1:w64 ((0:Int)+(a2:Int))=(a2:Int):=by rw[w64_id (by omega) (by omega)];omega
   have w2:w64 ((0:Int)+(b2:Int))=(b2:Int):=by rw[w64_id (by omega) (by omega)];omega
   rw[hstep,dec_f h1,frk_f,hend,dec_t (show v≤0 by omega),frk_t,p3,Option.bind_some,w1,w2]
open Classical in
noncomputable def wv(q:Spot)(s:Sol):Int:=if Ar q s true then (if Ar q s false then 0 else 1) else -1
open Classical in
theorem iWhereAr{s:Sol}(hr:Right s){q:Spot}(hq:SpOk q):Ev fun n=>Dimpl_Where n s q=some (wv q s):=by
 obtain⟨a,b,l1,l2,-,hE⟩:=aroundAr hr.1 hq
 have hs:=hr.2
 refine((iSolidOk s).and (hE.ev.and ⟨1000000001,fun n hn=>hn⟩)).mono fun n ⟨h1,h2,hn⟩=>?_
 have h2':Dimpl_Solid_around n s q=some ((a:Int),(b:Int)):=h2 (by omega)
 have e:Dimpl_Around n s q=some ((a:Int),(b:Int)):=by
  unfold Dimpl_Around Dimpl_Around_0
  rw[iSpOk hq hn,Option.bind_some,Bool.not_true,frk_f,h1,decide_eq_true hr,Option.bind_some,Bool.not_true,frk_f,sol_eq',show Spot.mk q.X q.Y q.Z q.W=q from rfl,h2'];rfl
 unfold Dimpl_Where
 rw[e,Option.bind_some]
 have e2:Dimpl_where (a:Int) (b:Int)=some (wv q s):=by
  unfold Dimpl_where wv
  by_cases ha:a=0
  ·subst ha
   have:¬Ar q s true:=fun h=>by have:=l1.2 h;omega
   rw[if_neg this];rfl
  ·have ha':((a:Int)==0)=false:=by simp;omega
   rw[ha',frk_f,if_pos (l1.1 (by omega))]
   by_cases hb:b=0
   ·subst hb
    have:¬Ar q s false:=fun h=>by have:=l2.2 h;omega
    rw[if_neg this];rfl
   ·have hb':((b:Int)==0)=false:=by simp;omega
    rw[hb',frk_f,if_pos (l2.1 (by omega))]
 rw[e2];rfl
theorem sm_at(q:Spot)(c:List (Int×Pl)):sm (fun p=>at4 p q) c=sm Pl.A c*q.X+sm Pl.B c*q.Y+sm Pl.C c*q.Z+sm Pl.D c*q.W:=by
 induction c with
 | nil=>simp[sm]
 | cons x c ih=>simp only[sm_cons,ih];unfold at4;grind
theorem sm_ge{f:Pl→Int}{c:List (Int×Pl)}(h:∀x∈c,0<x.1)(hf:∀x∈c,0≤f x.2):0≤sm f c:=by
 induction c with
 | nil=>exact Int.le_refl _
 | cons x c ih =>
  have h1:=Int.mul_nonneg (Int.le_of_lt (h x (by simp))) (hf x (by simp))
  have h2:=ih (fun y hy=>h y (by simp[hy])) fun y hy=>hf y (by simp[hy])
  rw[sm_cons];omega
theorem sm_gt{f:Pl→Int}{c:List (Int×Pl)}(h:∀x∈c,0<x.1)(hf:∀x∈c,0<f x.2)(hn:c≠[]):0<sm f c:=by
 obtain⟨x,c,rfl⟩:=List.exists_cons_of_ne_nil hn
 have h1:=Int.mul_pos (h x (by simp)) (hf x (by simp))
 have h2:=sm_ge (f:=f) (fun y hy=>h y (List.mem_cons_of_mem x hy)) fun y hy=>Int.le_of_lt (hf y (List.mem_cons_of_mem x hy))
 rw[sm_cons];omega
theorem half_at{l:List Pl}{p:Pl}{q:Spot}(hw:0<q.W)(h:Half l p):((∀r∈l,0≤at4 r q)→at4 p q≤0)∧((∀r∈l,0<at4 r q)→at4 p q<0):=by
 obtain⟨c,m,hm,hcn,hcp,hcs,ca,cb,cc,cd⟩:=h
 have mem:∀x∈c,x.2∈l:=fun x hx=>hcs.subset (List.mem_map.2 ⟨x,hx,rfl⟩)
 have e:m*at4 p q=(sm Pl.D c+m*p.D)*q.W-sm (fun p=>at4 p q) c:=by rw[sm_at];unfold at4;grind
 have h1:=Int.mul_nonpos_of_nonpos_of_nonneg cd (Int.le_of_lt hw)
 constructor
 ·intro hr
  have h2:=sm_ge (f:=fun p=>at4 p q) hcp fun x hx=>hr _ (mem x hx)
  rcases Int.lt_or_le 0 (at4 p q) with h | h
  ·have:=Int.mul_pos hm h;omega
  ·exact h
 ·intro hr
  have h2:=sm_gt (f:=fun p=>at4 p q) hcp (fun x hx=>hr _ (mem x hx)) hcn
  rcases Int.lt_or_le (at4 p q) 0 with h | h
  ·exact h
  ·have:=Int.mul_nonneg (Int.le_of_lt hm) h;omega
theorem wth_at{l:List Pl}{p:Pl}{q:Spot}(hw:0<q.W)(hz:∀r∈l,Nz r)(h:wth l p=true):((∀r∈l,0≤at4 r q)→at4 p q≤0)∧((∀r∈l,0<at4 r q)→at4 p q<0):=half_at hw (half_of hz h)
theorem ge_snoc{l:List Pl}{p:Pl}{q:Spot}(h:∀r∈l,0≤at4 r q)(hp:0≤at4 p q):∀r∈l++[p],0≤at4 r q:=fun r hr=>by
 rcases List.mem_append.1 hr with hr | hr
 ·exact h r hr
 ·rw[List.mem_singleton.1 hr];exact hp
end Evl.T
namespace Evl.T
open Go Evl
theorem Bin.ar{s:Sol}(h:Bin s)(q:Spot):∃v,Ar q s v:=by
 induction h with
 | leaf=>exact⟨_,.leaf⟩
 | @node i p a b _ _ iha ihb =>
  rcases Int.le_total 0 (at4 p q) with h | h
  ·obtain⟨v,hv⟩:=iha;exact⟨v,.left h hv⟩
  ·obtain⟨v,hv⟩:=ihb;exact⟨v,.right h hv⟩
theorem Ar.lf{q:Spot}{x:Sol}{v:Bool}(h:Ar q x v)(hl:isLf x=true):x.inn=v:=by
 cases h with
 | leaf=>rfl
 | left _ _=>simp[isLf,Sol.kids] at hl
 | right _ _=>simp[isLf,Sol.kids] at hl
theorem lf_ar{q:Spot}{x:Sol}(hb:Bin x)(hl:isLf x=true):Ar q x x.inn:=by
 cases hb with
 | leaf=>exact .leaf
 | node _ _=>simp[isLf,Sol.kids] at hl
theorem ar_jn{q:Spot}{p:Pl}{x y:Sol}(hx:Bin x)(hy:Bin y){v:Bool}(h:Ar q (jn p x y) v):(0≤at4 p q∧Ar q x v)∨(at4 p q≤0∧Ar q y v):=by
 unfold jn at h
 cases hj:jnB x y with
 | true =>
  rw[hj,if_pos rfl] at h
  unfold jnB at hj
  simp only[Bool.and_eq_true,beq_iff_eq] at hj
  obtain⟨h1,h2,h3⟩:=hj
  rw[ar_lfS] at h
  subst h
  rcases Int.le_total 0 (at4 p q) with h | h
  ·exact .inl ⟨h,lf_ar hx h1⟩
  ·exact .inr ⟨h,by rw[h3];exact lf_ar hy h2⟩
 | false =>
  rw[hj,if_neg (by simp)] at h
  exact ar_node.1 h
theorem tk_ar{q:Spot}(hw:0<q.W){op:Int}{inn:Bool}{b:Sol}{path:List Pl}{x:Sol}{sb:Bool}(h:Tk op inn b path x sb) :
  sb=false→(∀r∈path,Nz r)→(∀r∈path,0≤at4 r q)→∀{w},Ar q x w→∃v,Ar q b v∧w=lfB op inn v:=by
 induction h with
 | leaf=>intro _ _ _ w hv;rw[ar_lfS] at hv;exact⟨_,.leaf,hv⟩
 | @one p a b path x sb hc _ ih =>
  intro hs hz hm w hv
  obtain⟨v,h1,h2⟩:=ih hs hz hm hv
  have:=(wth_at hw hz hc).1 hm
  rw[at_flp] at this
  exact⟨v,.left (by omega) h1,h2⟩
 | @two p a b path x sb _ hc _ ih =>
  intro hs hz hm w hv
  obtain⟨v,h1,h2⟩:=ih hs hz hm hv
  exact⟨v,.right ((wth_at hw hz hc).1 hm) h1,h2⟩
 | deep=>intro hs;cases hs
 | @node p a b path x1 b1 x2 b2 hp _ _ _ h1 h2 iha ihb =>
  intro hs hz hm w hv
  rw[Bool.or_eq_false_iff] at hs
  rcases ar_jn h1.rt.bin h2.rt.bin hv with ⟨hq,hv⟩ | ⟨hq,hv⟩
  ·obtain⟨v,g1,g2⟩:=iha hs.1 (nz_snoc hz (pOk_Nz hp)) (ge_snoc hm hq) hv
   exact⟨v,.left hq g1,g2⟩
  ·obtain⟨v,g1,g2⟩:=ihb hs.2 (nz_snoc hz (Nz_flp (pOk_Nz hp))) (ge_snoc hm (by rw[at_flp];omega)) hv
   exact⟨v,.right hq g1,g2⟩
theorem pt_ar{q:Spot}(hw:0<q.W){op:Int}{a b:Sol}{path:List Pl}{x:Sol}{sb:Bool}(h:Pt2 op a b path x sb) :
  sb=false→(∀r∈path,Nz r)→(∀r∈path,0≤at4 r q)→∀{w},Ar q x w→∃u v,Ar q a u∧Ar q b v∧w=lfB op u v:=by
 induction h with
 | leaf ht =>
  intro hs hz hm w hv
  obtain⟨v,h1,h2⟩:=tk_ar hw ht hs hz hm hv
  exact⟨_,v,.leaf,h1,h2⟩
 | @node p a b c path x1 b1 x2 b2 hp _ _ _ h1 h2 iha ihb =>
  intro hs hz hm w hv
  rw[Bool.or_eq_false_iff] at hs
  rcases ar_jn h1.rt.bin h2.rt.bin hv with ⟨hq,hv⟩ | ⟨hq,hv⟩
  ·obtain⟨u,v,g1,g2,g3⟩:=iha hs.1 (nz_snoc hz (pOk_Nz hp)) (ge_snoc hm hq) hv
   exact⟨u,v,.left hq g1,g2,g3⟩
  ·obtain⟨u,v,g1,g2,g3⟩:=ihb hs.2 (nz_snoc hz (Nz_flp (pOk_Nz hp))) (ge_snoc hm (by rw[at_flp];omega)) hv
   exact⟨u,v,.right hq g1,g2,g3⟩
end Evl.T
namespace Evl.T
open Go Evl
theorem growLeaf(path:List Pl){k:Cur}(h:CurOk k) :
  ∃s k',(∀(n:Nat) (self:(Cur×List Pl×Int)→Option (Sol×Cur)),Dspec_l8Grow_2 n self false 0 0 0 0 k.1 k.2.1 k.2.2=some (s,k'))∧Rt s path∧nod s=0∧(∀d,Dp s d)∧CurOk k':=by
 obtain⟨b,k1,e,h1⟩:=onceOk (c:=(k.1,k.2.1,k.2.2)) h (a:=2) (by omega) (by omega)
 refine⟨_,_,fun n self=>?_,.leaf (i:=b) (p:=⟨0,0,0,0⟩) rfl,nod_leaf _ _,fun _=>.leaf,h1⟩
 unfold Dspec_l8Grow_2
 rw[e,Option.bind_some];rfl
theorem growStep(n:Nat)(self:(Cur×List Pl×Int)→Option (Sol×Cur))(path:List Pl)(t:Int)(rec0:(Int×Cur)→Option (Sol×Cur))(j:Int)(k:Cur) :
  Dspec_l8Grow_3 n self path t false 0 0 0 0 rec0 (j,k)=frk (decide (j<3)) (Dspec_l8Grow_0 n self rec0 path t false 0 0 0 0 j (decide (t>0)) k.1 k.2.1 k.2.2) (Dspec_l8Grow_2 n self false 0 0 0 0 k.1 k.2.1 k.2.2):=rfl
theorem growOk:∀(d:Nat) (path:List Pl) (t:Int) (k:Cur),path.length+d≤24→(∀q∈path,PB q)→t≤d→-1000≤t→CurOk k →
  ∃s k',(∀n m,1000≤n→d<m→loopN (Dspec_l8Grow_b n) m (k,path,t)=some (s,k'))∧Rt s path∧nod s+1≤2 ^ d∧Dp s d∧CurOk k':=by
 intro d
 induction d with
 | zero =>
  intro path t k hl hp ht ht2 hk
  obtain⟨s,k',e,hR,hN,hD,hk'⟩:=growLeaf path hk
  refine⟨s,k',fun n m hn hm=>?_,hR,by omega,hD _,hk'⟩
  obtain⟨m,rfl⟩:∃j,m=j+1:=⟨m-1,by omega⟩
  rw[loop_suc]
  show loopN (Dspec_l8Grow_3 n (loopN (Dspec_l8Grow_b n) m) path t false 0 0 0 0) n (0,k)=_
  have key:∀j,loopN (Dspec_l8Grow_3 n (loopN (Dspec_l8Grow_b n) m) path t false 0 0 0 0) (j+1) (0,k)=some (s,k'):=by
   intro j
   rw[loop_suc,growStep,dec_t (by omega),frk_t]
   unfold Dspec_l8Grow_0
   rw[dec_f (by omega),frk_f]
   exact e n _
  have:=key (n-1)
  rwa [show n-1+1=n by omega] at this
 | succ d ih =>
  intro path t k hl hp ht ht2 hk
  have hpow:2 ^ (d+1)=2 ^ d+2 ^ d:=by rw[Nat.pow_succ];omega
  have h2:1≤2 ^ d:=Nat.one_le_two_pow
  have tries:∀(r:Nat) (k:Cur),r≤3→CurOk k→∃s k',(∀n m f,1000≤n→d<m→r<f→loopN (Dspec_l8Grow_3 n (loopN (Dspec_l8Grow_b n) m) path t false 0 0 0 0) f (((3-r:Nat):Int),k)=some (s,k'))∧Rt s path∧nod s+1≤2 ^ (d+1)∧Dp s (d+1)∧CurOk k':=by
   intro r
   induction r with
   | zero =>
    intro k _ hk
    obtain⟨s,k',e,hR,hN,hD,hk'⟩:=growLeaf path hk
    refine⟨s,k',fun n m f hn hm hf=>?_,hR,by omega,hD _,hk'⟩
    obtain⟨f,rfl⟩:∃j,f=j+1:=⟨f-1,by omega⟩
    rw[loop_suc,growStep,dec_f (by omega),frk_f];exact e n _
   | succ r ihr =>
    intro k hr hk
    have hw3:w64 (((3-(r+1):Nat):Int)+1)=((3-r:Nat):Int):=by rw[w64_id (by omega) (by omega)];omega
    by_cases ht0:t>0
    ·obtain⟨p,k1,e1,hpo,h1⟩:=drawOk (k:=(k.1,k.2.1,k.2.2)) hk
     have hpb:=pOk_PB hpo
     have again:∀(hW:wth path p=true∨(wth path p=false∧wth path (flp p)=true)),∃s k',(∀n m f,1000≤n→d<m→r+1<f→loopN (Dspec_l8Grow_3 n (loopN (Dspec_l8Grow_b n) m) path t false 0 0 0 0) f (((3-(r+1):Nat):Int),k)=some (s,k'))∧Rt s path∧nod s+1≤2 ^ (d+1)∧Dp s (d+1)∧CurOk k':=by
      intro hW
      obtain⟨s,k',g1,g2,g3,g5,g4⟩:=ihr k1 (by omega) h1
      refine⟨s,k',fun n m f hn hm hf=>?_,g2,g3,g5,g4⟩
      obtain⟨f,rfl⟩:∃j,f=j+1:=⟨f-1,by omega⟩
      have g:=g1 n m f hn hm (by omega)
      rw[loop_suc,growStep,dec_t (by omega),frk_t]
      unfold Dspec_l8Grow_0
      rw[dec_t ht0,frk_t,hw3,e1 n hn,Option.bind_some]
      simp only[sWith path p hp hpb (by unfold big;omega) n (by omega),Option.bind_some]
      rcases hW with hw | ⟨hw,hw2⟩
      ·rw[hw,Bool.not_true,frk_f];exact g
      ·rw[hw,Bool.not_false,frk_t,sFlip p hpb,Option.bind_some,sWith path (flp p) hp (flp_PB hpb) (by unfold big;omega) n (by omega),Option.bind_some]
       unfold Dspec_l8Grow_1
       rw[hw2,Bool.not_true,frk_f];rw[hw3];exact g
     cases hw:wth path p with
     | true=>exact again (.inl hw)
     | false =>
      cases hw2:wth path (flp p) with
      | true=>exact again (.inr ⟨hw,hw2⟩)
      | false =>
       obtain⟨v,k2,e2,hv,h2'⟩:=belowOk (c:=(k1.1,k1.2.1,k1.2.2)) h1 (a:=2) (by omega) (by omega)
       have ev:w64 (w64 (t-1)-v)=t-1-v:=by rw[w64_id (x:=t-1) (by omega) (by omega),w64_id (by omega) (by omega)]
       obtain⟨x,k3,e3,hRx,hNx,hDx,h3⟩:=ih (path++[p]) (t-1-v) k2 (by simp;omega) (path_PB hp hpb) (by omega) (by omega) h2'
       obtain⟨u,k4,e4,hu,h4⟩:=belowOk h3 (a:=2) (by omega) (by omega)
       have eu:w64 (w64 (t-1)-u)=t-1-u:=by rw[w64_id (x:=t-1) (by omega) (by omega),w64_id (by omega) (by omega)]
       obtain⟨y,k5,e5,hRy,hNy,hDy,h5⟩:=ih (path++[flp p]) (t-1-u) k4 (by simp;omega) (path_PB hp (flp_PB hpb)) (by omega) (by omega) h4
       refine⟨.mk false p [x,y],k5,fun n m f hn hm hf=>?_,.node hpo (by omega) hw hw2 hRx hRy,by rw[nod2];omega,.node hDx hDy,h5⟩
       obtain⟨f,rfl⟩:∃j,f=j+1:=⟨f-1,by omega⟩
       rw[loop_suc,growStep,dec_t (by omega),frk_t]
       unfold Dspec_l8Grow_0
       rw[dec_t ht0,frk_t,e1 n hn,Option.bind_some]
       simp only[sWith path p hp hpb (by unfold big;omega) n (by omega),Option.bind_some]
       rw[hw,Bool.not_false,frk_t,sFlip p hpb,Option.bind_some,sWith path (flp p) hp (flp_PB hpb) (by unfold big;omega) n (by omega),Option.bind_some]
       unfold Dspec_l8Grow_1
       rw[hw2,Bool.not_false,frk_t]
       simp only[pl_eq]
       rw[sPath path p (by omega),Option.bind_some,e2,Option.bind_some]
       simp only[ev,e3 n m hn hm,Option.bind_some,sFlip p hpb,sPath path (flp p) (show path.length≤1000 by omega),e4,eu,e5 n m hn hm]
       rfl
    ·obtain⟨s,k',e,hR,hN,hD,hk'⟩:=growLeaf path hk
     refine⟨s,k',fun n m f hn hm hf=>?_,hR,by omega,hD _,hk'⟩
     obtain⟨f,rfl⟩:∃j,f=j+1:=⟨f-1,by omega⟩
     rw[loop_suc,growStep,dec_t (by omega),frk_t]
     unfold Dspec_l8Grow_0
     rw[dec_f ht0,frk_f];exact e n _
  obtain⟨s,k',g1,g2,g3,g5,g4⟩:=tries 3 k (by omega) hk
  refine⟨s,k',fun n m hn hm=>?_,g2,g3,g5,g4⟩
  obtain⟨m,rfl⟩:∃j,m=j+1:=⟨m-1,by omega⟩
  rw[loop_suc]
  exact g1 n m n hn (by omega) (by omega)
end Evl.T
namespace Evl.T
open Go Evl
theorem cellStep(n:Nat)(rec0:(Int×List Pl×Cur)→Option (List Pl×Cur))(t:Int)(l:List Pl)(k:Cur) :
  Dspec_l6Cell_1 n rec0 (t,l,k)=frk (decide (t>0)) ((Dspec_l3Draw n k).bind fun v3=>(Dspec_l6With n l v3.1).bind fun v4=>frk (!v4) (chk (apB 32 (l.length+1)) (rec0 (w64 (t-1),(l++[v3.1]),v3.2.1,v3.2.2.1,v3.2.2.2))) (rec0 (w64 (t-1),l,v3.2.1,v3.2.2.1,v3.2.2.2))) (some (l,k)):=rfl
theorem ap32{n:Nat}(h:n≤1000000):apB 32 n=true:=by
 simp only[apB,Bool.and_eq_true,decide_eq_true_eq];omega
theorem cellLoop{F:Nat→((Int×List Pl×Cur)→Option (List Pl×Cur))→(Int×List Pl×Cur)→Option (List Pl×Cur)}(hF:∀n rec0 t l k,F n rec0 (t,l,k)=Dspec_l6Cell_1 n rec0 (t,l,k)) :
  ∀(j:Nat) (l:List Pl) (k:Cur),(∀q∈l,PB q)→l.length+j≤100→CurOk k→∃l' k',(∀n m,1000≤n→j<m→loopN (F n) m ((j:Int),l,k)=some (l',k'))∧l'.length≤l.length+j∧CurOk k':=by
 intro j
 induction j with
 | zero =>
  intro l k hl hlen hk
  refine⟨l,k,fun n m hn hm=>?_,by omega,hk⟩
  obtain⟨m,rfl⟩:∃j,m=j+1:=⟨m-1,by omega⟩
  rw[loop_suc,hF,cellStep,dec_f (by omega),frk_f]
 | succ j ih =>
  intro l k hl hlen hk
  obtain⟨p,k1,e1,hp,h1⟩:=drawOk hk
  have hpb:=pOk_PB hp
  have e:w64 (((j+1:Nat):Int)-1)=(j:Int):=by rw[w64_id (by omega) (by omega)];omega
  cases hw:wth l p with
  | true =>
   obtain⟨l',k',g1,g2,g3⟩:=ih l k1 hl (by omega) h1
   refine⟨l',k',fun n m hn hm=>?_,by omega,g3⟩
   obtain⟨m,rfl⟩:∃j,m=j+1:=⟨m-1,by omega⟩
   rw[loop_suc,hF,cellStep,dec_t (by omega),frk_t,e1 n hn,Option.bind_some]
   simp only[sWith l p hl hpb (by unfold big;omega) n (by omega),Option.bind_some,e,hw,Bool.not_true,frk_f]
   exact g1 n m hn (by omega)
  | false =>
   obtain⟨l',k',g1,g2,g3⟩:=ih (l++[p]) k1 (path_PB hl hpb) (by simp;omega) h1
   refine⟨l',k',fun n m hn hm=>?_,by simp at g2;omega,g3⟩
   obtain⟨m,rfl⟩:∃j,m=j+1:=⟨m-1,by omega⟩
   rw[loop_suc,hF,cellStep,dec_t (by omega),frk_t,e1 n hn,Option.bind_some]
   simp only[sWith l p hl hpb (by unfold big;omega) n (by omega),Option.bind_some,e,hw,Bool.not_false,frk_t]
   rw[chk_eq (ap32 (by omega))]
   exact g1 n m hn (by omega)
theorem cellOk{k:Cur}(hk:CurOk k){a:Int}(h1:1≤a)(h2:a≤10):∃l k',(∀n,1000≤n→Dspec_l6Cell n k a=some (l,k'))∧(l.length:Int)≤5+a∧CurOk k':=by
 obtain⟨o,k1,e1,c1⟩:=onceOk hk (a:=4) (by omega) (by omega)
 cases o with
 | true =>
  obtain⟨v,k2,e2,hv,c2⟩:=belowOk (c:=(k1.1,k1.2.1,k1.2.2)) c1 (a:=a) h1 (by omega)
  obtain⟨j,rfl⟩:∃j:Nat,v=j:=⟨v.toNat,by omega⟩
  obtain⟨l',k',g1,g2,g3⟩:=cellLoop (F:=Dspec_l6Cell_3) (fun _ _ _ _ _=>rfl) j [] k2 (by simp) (by simp;omega) c2
  refine⟨l',k',fun n hn=>?_,by simp at g2;omega,g3⟩
  unfold Dspec_l6Cell Dspec_l6Cell_2
  simp only[e1,Option.bind_some,Bool.not_true,frk_f,e2]
  exact g1 n n hn (by omega)
 | false =>
  obtain⟨u,k2,e2,hu,c2⟩:=belowOk c1 (a:=5) (by omega) (by omega)
  obtain⟨v,k3,e3,hv,c3⟩:=belowOk (c:=(k2.1,k2.2.1,k2.2.2)) c2 (a:=a) h1 (by omega)
  obtain⟨j,rfl⟩:∃j:Nat,v=j:=⟨v.toNat,by omega⟩
  have w1:w64 (1+u)=1+u:=w64_id (by omega) (by omega)
  have w2:w64 (1+u+1)=1+u+1:=w64_id (by omega) (by omega)
  have bb:∀{x y z t:Int},(-500≤x∧x≤500)→(-500≤y∧y≤500)→(-500≤z∧z≤500)→(-500≤t∧t≤500)→PB ⟨x,y,z,t⟩:=fun {x y z t} h1 h2 h3 h4=>⟨(B.of (by omega) (by omega):B 500 x),(B.of (by omega) (by omega):B 500 y),(B.of (by omega) (by omega):B 500 z),(B.of (by omega) (by omega):B 500 t)⟩
  obtain⟨l',k',g1,g2,g3⟩:=cellLoop (F:=Dspec_l6Cell_1) (fun _ _ _ _ _=>rfl) j [⟨1,0,0,1+u⟩,⟨-1,0,0,1+u⟩,⟨0,1,0,1+u⟩,⟨0,-1,0,1+u+1⟩,⟨0,0,1,1+u⟩,⟨0,0,-1,1+u⟩] k3 (fun q hq=>by
   simp only[List.mem_cons,List.not_mem_nil,or_false] at hq
   rcases hq with rfl | rfl | rfl | rfl | rfl | rfl <;> exact bb (by omega) (by omega) (by omega) (by omega)) (by simp;omega) c3
  refine⟨l',k',fun n hn=>?_,by simp at g2;omega,g3⟩
  unfold Dspec_l6Cell Dspec_l6Cell_0
  simp only[e1,e2,Option.bind_some,Bool.not_false,frk_t,e3,w1,w2]
  exact g1 n n hn (by omega)
theorem cvT_dp:∀k:List Pl,Dp (cvT k) k.length
 | []=>.leaf
 | _::k=>.node (cvT_dp k) .leaf
theorem cvR_dp(l:List Pl):Dp (cvR l).1 l.length:=by
 unfold cvR
 split
 ·exact .leaf
 ·split
  ·exact .leaf
  ·exact(cvT_dp _).up (cvK_len l [])
end Evl.T
namespace Evl.T
open Go Evl
theorem gcd_bd{a b k:Nat}(ha:a≤k)(hb:b≤k):Nat.gcd a b≤k:=by
 by_cases h:b=0
 ·subst h;rw[Nat.gcd_zero_right];exact ha
 ·exact Nat.le_trans (Nat.gcd_le_right a (by omega)) hb
theorem qtOk'{a b:Int}(hb:b≠0)(ha:a.natAbs≤1000000000):qt .i64 a b=some (a.tdiv b):=by
 unfold qt
 rw[if_neg hb]
 have:(a.tdiv b).natAbs≤a.natAbs:=by rw[Int.natAbs_tdiv];exact Nat.div_le_self _ _
 have e:IntKind.i64.wrap (a.tdiv b)=a.tdiv b:=w64_id (by omega) (by omega)
 rw[e]
theorem spotOf{a b c d:Int}(ha:a.natAbs≤1000000000)(hb:b.natAbs≤1000000000)(hc:c.natAbs≤1000000000)(hd:d.natAbs≤1000000000)(h0:d≠0) :
  ∃q,(∀n,1000000001≤n→Dspec_l5Spot n a b c d=some q)∧SpOk q:=by
 have u:∀{x:Int},x.natAbs≤1000000000→B 9223372036854775807 x:=fun h=>by unfold B;omega
 have b1:=gcd_bd ha hb
 have b2:=gcd_bd hc hd
 have hb3:=gcd_bd b1 b2
 have hG:Nat.gcd (Nat.gcd a.natAbs b.natAbs) (Nat.gcd c.natAbs d.natAbs)=g4 a b c d:=by unfold g4;rw[Nat.gcd_assoc (Nat.gcd a.natAbs b.natAbs)]
 rw[hG] at hb3
 have hp:0<g4 a b c d:=by
  unfold g4
  apply Nat.pos_of_ne_zero
  intro e
  have:=(Nat.gcd_eq_zero_iff.1 e).2
  omega
 have hgd:g4 a b c d ∣ Nat.gcd (Nat.gcd a.natAbs b.natAbs) c.natAbs:=Nat.gcd_dvd_left _ _
 have hdd:g4 a b c d ∣ d.natAbs:=Nat.gcd_dvd_right _ _
 have hcd:=Nat.dvd_trans hgd (Nat.gcd_dvd_right _ _)
 have hab:=Nat.dvd_trans hgd (Nat.gcd_dvd_left _ _)
 have had:=Nat.dvd_trans hab (Nat.gcd_dvd_left _ _)
 have hbd:=Nat.dvd_trans hab (Nat.gcd_dvd_right _ _)
 have fin:∀t:Int,t.natAbs=g4 a b c d→(0<d→0<t)→(d<0→t<0)→∃q,(∀n,Dspec_l5Spot_0 n a b c d t 0 0 0 0=some q)∧SpOk q:=by
  intro t ht hs1 hs2
  have t0:t≠0:=by omega
  have na:∀x:Int,(x.tdiv t).natAbs=x.natAbs / g4 a b c d:=fun x=>by rw[Int.natAbs_tdiv,ht];rfl
  have le:∀{x:Int},x.natAbs≤1000000000→(x.tdiv t).natAbs≤1000000000:=fun {x} h=>by rw[na];exact Nat.le_trans (Nat.div_le_self _ _) h
  refine⟨⟨a.tdiv t,b.tdiv t,c.tdiv t,d.tdiv t⟩,fun n=>?_,⟨?_,le ha,le hb,le hc,?_⟩⟩
  ·unfold Dspec_l5Spot_0
   rw[qtOk' t0 ha,Option.bind_some,qtOk' t0 hb,Option.bind_some,qtOk' t0 hc,Option.bind_some,qtOk' t0 hd,Option.bind_some]
  ·have h1:=le hd
   have hpos:0<(d.tdiv t).natAbs:=by rw[na];exact Nat.div_pos (Nat.le_of_dvd (by omega) hdd) hp
   have hnn:0≤d.tdiv t:=by
    rcases Int.lt_or_gt_of_ne h0 with h | h
    ·have:=hs2 h
     have e:d.tdiv t=(-d).tdiv (-t):=by rw[Int.neg_tdiv_neg]
     rw[e];exact Int.tdiv_nonneg (by omega) (by omega)
    ·have:=hs1 h;exact Int.tdiv_nonneg (by omega) (by omega)
   show 1≤d.tdiv t∧d.tdiv t≤1000000000
   omega
  ·show Nat.gcd (Nat.gcd (Nat.gcd (a.tdiv t).natAbs (b.tdiv t).natAbs) (c.tdiv t).natAbs) (d.tdiv t).natAbs=1
   rw[na,na,na,na,Nat.gcd_div had hbd]
   have q1:g4 a b c d ∣ Nat.gcd a.natAbs b.natAbs:=Nat.dvd_gcd had hbd
   rw[Nat.gcd_div q1 hcd,Nat.gcd_div hgd hdd]
   exact Nat.div_self hp
 have step:∀n,1000000001≤n→Dspec_l5Spot n a b c d=frk (decide (d<0)) (Dspec_l5Spot_0 n a b c d (w64 (0-((g4 a b c d:Nat):Int))) 0 0 0 0) (Dspec_l5Spot_0 n a b c d ((g4 a b c d:Nat):Int) 0 0 0 0):=by
  intro n hn
  have g1:=sGcd n a b (u ha) (u hb) (by omega)
  have g2:=sGcd n c d (u hc) (u hd) (by omega)
  have g3:=sGcd n ((Nat.gcd a.natAbs b.natAbs:Nat):Int) ((Nat.gcd c.natAbs d.natAbs:Nat):Int) (by unfold B;omega) (by unfold B;omega) (by omega)
  simp only[Int.natAbs_natCast] at g3
  rw[hG] at g3
  unfold Dspec_l5Spot
  rw[g1,Option.bind_some,g2,Option.bind_some,g3,Option.bind_some]
 by_cases hneg:d<0
 ·obtain⟨q,g1,g2⟩:=fin (0-((g4 a b c d:Nat):Int)) (by omega) (fun h=>by omega) (fun _=>by omega)
  refine⟨q,fun n hn=>?_,g2⟩
  rw[step n hn,dec_t hneg,frk_t,w64_id (by omega) (by omega)];exact g1 n
 ·obtain⟨q,g1,g2⟩:=fin ((g4 a b c d:Nat):Int) (by omega) (fun _=>by omega) (fun h=>absurd h hneg)
  refine⟨q,fun n hn=>?_,g2⟩
  rw[step n hn,dec_f hneg,frk_f];exact g1 n
theorem det3B{p q r:Pl}(hp:PB p)(hq:PB q)(hr:PB r):(det3 p q r).natAbs≤1000000000:=by
 obtain⟨a1,a2,a3,-⟩:=hp
 obtain⟨b1,b2,b3,-⟩:=hq
 obtain⟨c1,c2,c3,-⟩:=hr
 have h:B 750000000 (det3 p q r):=(((a1.mul ((b2.mul c3).sub (b3.mul c2))).add (a2.mul ((b3.mul c1).sub (b1.mul c3)))).add (a3.mul ((b1.mul c2).sub (b2.mul c1)))).up (by decide)
 unfold B at h;omega
theorem meetOk{p q r:Pl}(hp:PB p)(hq:PB q)(hr:PB r):∃s b,(∀n,1000000001≤n→Dspec_l5Meet n p q r=some (s,b))∧(b=true→SpOk s):=by
 by_cases h0:det3 p q r=0
 ·refine⟨⟨0,0,0,0⟩,false,fun n hn=>?_,fun h=>by cases h⟩
  unfold Dspec_l5Meet
  rw[sDet3 p q r hp hq hr,Option.bind_some,show (det3 p q r==0)=true by simpa using h0,frk_t]
 ·have nD:∀{x:Pl},PB x→B 500 (w64 (0-x.D)):=fun {x} h=>by
   have:=h.2.2.2
   rw[w64_B this.zsub (by decide)];exact this.zsub
  have z0:B 500 (0:Int):=B.of (by decide) (by decide)
  have A:∀{x:Pl},PB x→PB ⟨w64 (0-x.D),x.B,x.C,0⟩:=fun h=>⟨nD h,h.2.1,h.2.2.1,z0⟩
  have Bq:∀{x:Pl},PB x→PB ⟨x.A,w64 (0-x.D),x.C,0⟩:=fun h=>⟨h.1,nD h,h.2.2.1,z0⟩
  have C:∀{x:Pl},PB x→PB ⟨x.A,x.B,w64 (0-x.D),0⟩:=fun h=>⟨h.1,h.2.1,nD h,z0⟩
  obtain⟨s,e,hs⟩:=spotOf (det3B (A hp) (A hq) (A hr)) (det3B (Bq hp) (Bq hq) (Bq hr)) (det3B (C hp) (C hq) (C hr)) (det3B hp hq hr) h0
  refine⟨s,true,fun n hn=>?_,fun _=>hs⟩
  unfold Dspec_l5Meet
  rw[sDet3 p q r hp hq hr,Option.bind_some,show (det3 p q r==0)=false by simpa using h0,frk_f]
  rw[sDet3 _ _ _ (A hp) (A hq) (A hr),Option.bind_some,sDet3 _ _ _ (Bq hp) (Bq hq) (Bq hr),Option.bind_some,sDet3 _ _ _ (C hp) (C hq) (C hr),Option.bind_some,e n hn,Option.bind_some]
theorem spotDraw0{k:Cur}(h:CurOk k):∃q k',(∀n,1000000001≤n→Dspec_l5Draw_0 n 0 0 0 0 k.1 k.2.1 k.2.2=some (q,k'))∧SpOk q∧CurOk k':=by
 obtain⟨a,k1,e1,ha,h1⟩:=belowOk (c:=(k.1,k.2.1,k.2.2)) h (a:=21) (by omega) (by omega)
 obtain⟨b,k2,e2,hb,h2⟩:=belowOk h1 (a:=21) (by omega) (by omega)
 obtain⟨c,k3,e3,hc,h3⟩:=belowOk h2 (a:=21) (by omega) (by omega)
 obtain⟨d,k4,e4,hd,h4⟩:=intOk h3 (l:=[1,1,2,3,7]) (by simp) (by simp)
 have hd':1≤d∧d≤7:=by simp only[List.mem_cons,List.not_mem_nil,or_false] at hd;omega
 have w:∀{x:Int},0≤x∧x<21→w64 (x-10)=x-10:=fun h=>w64_id (by omega) (by omega)
 obtain⟨q,e5,hq⟩:=spotOf (a:=a-10) (b:=b-10) (c:=c-10) (d:=d) (by omega) (by omega) (by omega) (by omega) (by omega)
 refine⟨q,k4,fun n hn=>?_,hq,h4⟩
 unfold Dspec_l5Draw_0
 simp only[e1,e2,e3,e4,Option.bind_some,w ha,w hb,w hc,e5 n hn]
theorem spotDraw{k:Cur}(h:CurOk k):∃q k',(∀n,1000000001≤n→Dspec_l5Draw n k=some (q,k'))∧SpOk q∧CurOk k':=by
 obtain⟨o,k1,e1,h1⟩:=onceOk h (a:=3) (by omega) (by omega)
 cases o with
 | false =>
  obtain⟨q,k',g1,g2,g3⟩:=spotDraw0 h1
  refine⟨q,k',fun n hn=>?_,g2,g3⟩
  unfold Dspec_l5Draw
  simp only[e1,Option.bind_some,frk_f,g1 n hn]
 | true =>
  obtain⟨p,k2,e2,hp,h2⟩:=drawOk h1
  obtain⟨q,k3,e3,hq,h3⟩:=drawOk h2
  obtain⟨r,k4,e4,hr,h4⟩:=drawOk h3
  obtain⟨s,b,e5,hs⟩:=meetOk (pOk_PB hp) (pOk_PB hq) (pOk_PB hr)
  cases b with
  | true =>
   refine⟨s,k4,fun n hn=>?_,hs rfl,h4⟩
   unfold Dspec_l5Draw
   simp only[e1,e2 n (by omega),e3 n (by omega),e4 n (by omega),e5 n hn,Option.bind_some,frk_t]
  | false =>
   obtain⟨q',k',g1,g2,g3⟩:=spotDraw0 h4
   refine⟨q',k',fun n hn=>?_,g2,g3⟩
   unfold Dspec_l5Draw
   simp only[e1,e2 n (by omega),e3 n (by omega),e4 n (by omega),e5 n hn,Option.bind_some,frk_t,frk_f,g1 n hn]
end Evl.T
namespace Evl.T
open Go Evl
theorem ap64{k:Nat}(h:k≤1048576):apB 64 k=true:=by
 simp only[apB,Bool.and_eq_true,decide_eq_true_eq];omega
theorem copyLoop{F:(Int×List Sol→Option Sol)→Int×List Sol→Option Sol}{self:Sol→Option Sol}{l:List Sol}{R:List Sol→Option Sol}(hl:l.length≤1048576)(hs:∀x∈l,self x=some x)
  (hF:∀rec (t:Int) (d:List Sol),F rec (t,d)=frk (decide (t<(l.length:Int))) ((lget l t).bind fun v0=>(self v0).bind fun v1=>chk (apB 64 (d.length+1)) (rec (w64 (t+1),d++[v1]))) (R d)) :
  ∀(r:List Sol) (k m:Nat),l.drop k=r→k≤l.length→r.length<m→loopN F m ((k:Int),l.take k)=R l:=by
 intro r
 induction r with
 | nil =>
  intro k m hr hk hm
  obtain⟨m,rfl⟩:∃j,m=j+1:=⟨m-1,by omega⟩
  have hk:k=l.length:=by have:=List.drop_eq_nil_iff.1 hr;omega
  rw[loop_suc,hF,hk,lt_self,frk_f,List.take_length]
 | cons x r ih =>
  intro k m hr hk hm
  simp only[List.length_cons] at hm
  obtain⟨m,rfl⟩:∃j,m=j+1:=⟨m-1,by omega⟩
  obtain⟨hkl,hx,hr',hmem⟩:=drop_get hr
  have ht:(l.take k).length=k:=by rw[List.length_take];omega
  rw[loop_suc,hF,lt_dec hkl,frk_t,lget_nat,hx,Option.bind_some,hs x hmem,Option.bind_some,chk_eq (ap64 (by rw[ht];omega)),w64_suc (by unfold big;omega)]
  have e:l.take k++[x]=l.take (k+1):=by rw[List.take_add_one,hx];simp
  rw[e]
  exact ih (k+1) m hr' (by omega) (by omega)
theorem sCopy:∀s,tot s≤1048576→E2 fun n m=>loopN (Dspec_l8Copy_b n) m s=some s:=by
 refine sol_ind fun i p k ih hl=>?_
 rw[tot_mk] at hl
 have h1:=E2.all fun x hx=>ih x hx (by have:=tot_le hx;omega)
 have h2:E2 fun n _=>k.length<n:=⟨k.length+1,fun n hn _ _=>by omega⟩
 refine E2.suc ((h1.and h2).mono fun n m ⟨h1,h2⟩=>?_)
 rw[loop_suc]
 exact copyLoop (F:=Dspec_l8Copy_0 n (loopN (Dspec_l8Copy_b n) m) i p.A p.B p.C p.D k false 0 0 0 0 i p.A p.B p.C p.D) (l:=k) (R:=fun d=>some (.mk i p d)) (by omega) h1 (fun _ _ _=>rfl) k 0 n (by simp) (by omega) h2
theorem sCopyE{s:Sol}(h:tot s≤1048576):Ev fun n=>Dspec_l8Copy n s=some s:=(sCopy s h).ev
end Evl.T
namespace Evl.T
open Go Evl
theorem tot_rt{s:Sol}{l:List Pl}(h:Rt s l):tot s=2*nod s:=by
 induction h with
 | leaf _=>rw[tot_mk,nod_leaf];rfl
 | node _ _ _ _ _ _ iha ihb=>rw[tot_mk,nod2,totL_cons,totL_cons,totL_nil,iha,ihb];simp;omega
theorem growE{k:Cur}(hk:CurOk k){a:Int}(h1:1≤a)(h2:a≤8){d:Nat}(hd:a≤d)(hd8:d≤8):∃v k1 s k2,Dspec_l1Below k a=some (v,k1)∧(∀n,1000≤n→Dspec_l8Grow n k1 [] (w64 (1+v))=some (s,k2))∧Right s∧Dp s d∧nod s+1≤2 ^ d∧CurOk k2:=by
 obtain⟨v,k1,e1,hv,c1⟩:=belowOk hk h1 (by omega)
 have w1:w64 (1+v)=1+v:=w64_id (by omega) (by omega)
 obtain⟨s,k2,e2,hR,hN,hD,c2⟩:=growOk d [] (1+v) k1 (by simp;omega) (by simp) (by omega) (by omega) c1
 have hp:2 ^ d≤2 ^ 8:=Nat.pow_le_pow_right (by omega) hd8
 exact⟨v,k1,s,k2,e1,fun n hn=>by rw[w1];exact e2 n n hn (by omega),⟨hR,by omega⟩,hD,hN,c2⟩
theorem drawTwo(l:List Int)(hl:l.length≤1048576):∃a b q,Right a∧Dp a 4∧Right b∧Dp b 7∧SpOk q∧Ev fun n=>Dspec_DrawTwo n l=some (a,b,q):=by
 obtain⟨k0,e0,c0⟩:=newOk hl
 obtain⟨v,k1,a,k2,e1,e2,hra,hda,-,c2⟩:=growE c0 (a:=4) (d:=4) (by omega) (by omega) (by omega) (by omega)
 obtain⟨u,k3,b,k4,e3,e4,hrb,hdb,-,c4⟩:=growE c2 (a:=4) (d:=4) (by omega) (by omega) (by omega) (by omega)
 obtain⟨o,k5,e5,c5⟩:=onceOk c4 (a:=2) (by omega) (by omega)
 have fin:∀(b:Sol) (k:Cur),Right b→Dp b 7→CurOk k→∃b' q,Right b'∧Dp b' 7∧SpOk q∧Ev fun n=>Dspec_DrawTwo_0 n false 0 0 0 0 false 0 0 0 0 0 0 0 0 a.inn a.pl.A a.pl.B a.pl.C a.pl.D a.kids b.inn b.pl.A b.pl.B b.pl.C b.pl.D b.kids k.1 k.2.1 k.2.2=some (a,b',q):=by
  intro b k hrb hdb hk
  obtain⟨o,k6,e6,c6⟩:=onceOk (c:=(k.1,k.2.1,k.2.2)) hk (a:=5) (by omega) (by omega)
  obtain⟨q,k7,e7,hq,-⟩:=spotDraw (k:=(k6.1,k6.2.1,k6.2.2)) c6
  have hN:Ev fun n=>1000000001≤n:=⟨_,fun n hn=>hn⟩
  cases o with
  | false =>
   refine⟨b,q,hrb,hdb,hq,hN.mono fun n h1=>?_⟩
   unfold Dspec_DrawTwo_0 Dspec_DrawTwo_1
   simp only[e6,Option.bind_some,frk_f,e7 n h1,sol_eq']
  | true =>
   have ht:=tot_rt hra.1
   have hn:=hra.2
   refine⟨a,q,hra,hda.up (by omega),hq,(hN.and (sCopyE (s:=a) (by omega))).mono fun n ⟨h1,h2⟩=>?_⟩
   unfold Dspec_DrawTwo_0 Dspec_DrawTwo_1
   simp only[e6,Option.bind_some,frk_t,sol_eq',h2,e7 n h1]
 have hN:Ev fun n=>1000≤n∧l.length<n:=⟨1000+l.length+1,fun n hn=>by omega⟩
 cases o with
 | false =>
  obtain⟨b',q,h1,h2,h3,h4⟩:=fin b k5 hrb (hdb.up (by omega)) c5
  refine⟨a,b',q,hra,hda,h1,h2,h3,(hN.and h4).mono fun n ⟨⟨g1,g2⟩,g3⟩=>?_⟩
  unfold Dspec_DrawTwo
  simp only[e0 n g2,e1,e2 n g1,e3,e4 n g1,e5,Option.bind_some,frk_f]
  exact g3
 | true =>
  obtain⟨c,k6,e6,hc,c6⟩:=cellOk c5 (a:=2) (by omega) (by omega)
  obtain⟨b',q,h1,h2,h3,h4⟩:=fin (cvR c).1 k6 (cvR_right c) ((cvR_dp c).up (by omega)) c6
  refine⟨a,b',q,hra,hda,h1,h2,h3,(hN.and (h4.and (sConvex c (by unfold big;omega)))).mono fun n ⟨⟨g1,g2⟩,g3,g4⟩=>?_⟩
  unfold Dspec_DrawTwo
  simp only[e0 n g2,e1,e2 n g1,e3,e4 n g1,e5,e6 n g1,g4,Option.bind_some,frk_t]
  exact g3
end Evl.T
namespace Evl.T
open Go Evl
theorem pqAbs(x:Int)(g:Nat):(pq x g).natAbs=x.natAbs / g:=by
 unfold pq
 generalize x.natAbs / g=k
 split <;> omega
theorem spotOfOk{a b c d:Int}(ha:a.natAbs≤1000)(hb:b.natAbs≤1000)(hc:c.natAbs≤1000)(hd:0<d)(hd2:d≤1000) :
  ∃q,(∀n,2000≤n→Dspec_SpotOf n a b c d=some (q,true))∧SpOk q:=by
 have hG:0<g4 a b c d:=by
  unfold g4
  apply Nat.pos_of_ne_zero
  intro e
  have:=(Nat.gcd_eq_zero_iff.1 e).2
  omega
 have hgd:g4 a b c d ∣ Nat.gcd (Nat.gcd a.natAbs b.natAbs) c.natAbs:=Nat.gcd_dvd_left _ _
 have hdd:g4 a b c d ∣ d.natAbs:=Nat.gcd_dvd_right _ _
 have hcd:=Nat.dvd_trans hgd (Nat.gcd_dvd_right _ _)
 have hab:=Nat.dvd_trans hgd (Nat.gcd_dvd_left _ _)
 have had:=Nat.dvd_trans hab (Nat.gcd_dvd_left _ _)
 have hbd:=Nat.dvd_trans hab (Nat.gcd_dvd_right _ _)
 have hgl:g4 a b c d≤d.natAbs:=Nat.le_of_dvd (by omega) hdd
 have le:∀{x:Int},x.natAbs≤1000→(pq x (g4 a b c d)).natAbs≤1000:=fun {x} h=>by rw[pqAbs];exact Nat.le_trans (Nat.div_le_self _ _) h
 have hr:∀{x:Int},x.natAbs≤1000→rIn (pq x (g4 a b c d)) (-1000000000) 1000000000=true:=fun {x} h=>by have:=le h;exact rIn_iff.2 (by omega)
 refine⟨⟨pq a (g4 a b c d),pq b (g4 a b c d),pq c (g4 a b c d),pq d (g4 a b c d)⟩,fun n hn=>?_,⟨?_,?_,?_,?_,?_⟩⟩
 ·have hneg:∀x:Bool,(!(x==decide (d<0)))=x:=fun x=>by rw[dec_f (show ¬d<0 by omega)];cases x <;> rfl
  have ea:Dspec_Of n a=some (nm a):=ofOk n a (by omega) (by omega)
  have eb:Dspec_Of n b=some (nm b):=ofOk n b (by omega) (by omega)
  have ec:Dspec_Of n c=some (nm c):=ofOk n c (by omega) (by omega)
  have ed:Dspec_Of n d=some (nm d):=ofOk n d (by omega) (by omega)
  unfold Dspec_SpotOf
  rw[show (d==0)=false by simpa using (by omega:d≠0),frk_f,ea,Option.bind_some,eb,Option.bind_some,ec,Option.bind_some,ed,Option.bind_some,ngOk n a b c d (by omega) (by omega) (by omega) (by omega) (by omega) (by omega) (by omega) (by omega) (by omega),Option.bind_some]
  simp only[hneg]
  refine(compStep n a (g4 a b c d) (by omega) hG (by omega) (by omega) _).trans ?_
  rw[show (!(pq a (g4 a b c d),true).2)=false from rfl,frk_f,sIn,Option.bind_some,hr ha]
  unfold Dspec_SpotOf_0
  rw[show (!true)=false from rfl,frk_f,chk_eq (apB8 (by simp)),show lget [nm a,nm b,nm c,nm d] 1=some (nm b) from rfl,Option.bind_some]
  simp only[hneg]
  refine(compStep n b (g4 a b c d) (by omega) hG (by omega) (by omega) _).trans ?_
  rw[show (!(pq b (g4 a b c d),true).2)=false from rfl,frk_f,sIn,Option.bind_some,hr hb]
  unfold Dspec_SpotOf_1
  rw[show (!true)=false from rfl,frk_f,chk_eq (apB8 (by simp)),show lget [nm a,nm b,nm c,nm d] 2=some (nm c) from rfl,Option.bind_some]
  simp only[hneg]
  refine(compStep n c (g4 a b c d) (by omega) hG (by omega) (by omega) _).trans ?_
  rw[show (!(pq c (g4 a b c d),true).2)=false from rfl,frk_f,sIn,Option.bind_some,hr hc]
  unfold Dspec_SpotOf_2
  rw[show (!true)=false from rfl,frk_f,chk_eq (apB8 (by simp)),show lget [nm a,nm b,nm c,nm d] 3=some (nm d) from rfl,Option.bind_some]
  simp only[hneg]
  refine(compStep n d (g4 a b c d) (by omega) hG (by omega) (by omega) _).trans ?_
  rw[show (!(pq d (g4 a b c d),true).2)=false from rfl,frk_f,sIn,Option.bind_some,hr (x:=d) (by omega)]
  unfold Dspec_SpotOf_3
  rw[show (!true)=false from rfl,frk_f,chk_eq (apB8 (by simp))]
  rfl
 ·have h1:=le (x:=d) (by omega)
  have h2:0<d.natAbs / g4 a b c d:=Nat.div_pos hgl hG
  show 1≤pq d _∧pq d _≤1000000000
  unfold pq at h1 ⊢
  rw[if_neg (by omega)] at h1 ⊢
  omega
 ·have:=le ha;show (pq a _).natAbs≤_;omega
 ·have:=le hb;show (pq b _).natAbs≤_;omega
 ·have:=le hc;show (pq c _).natAbs≤_;omega
 ·show Nat.gcd (Nat.gcd (Nat.gcd (pq a _).natAbs (pq b _).natAbs) (pq c _).natAbs) (pq d _).natAbs=1
  rw[pqAbs,pqAbs,pqAbs,pqAbs,Nat.gcd_div had hbd]
  have q1:g4 a b c d ∣ Nat.gcd a.natAbs b.natAbs:=Nat.dvd_gcd had hbd
  rw[Nat.gcd_div q1 hcd,Nat.gcd_div hgd hdd]
  exact Nat.div_self hG
end Evl.T
namespace Evl.T
open Go Evl
theorem mem_once{α:Type} [Inhabited α] [DecidableEq α](l:List α)(x:α):x∈once l↔x∈l:=by
 unfold once Go.Lib.compactUpTo
 rw[List.mem_map]
 have hg:∀j,(h:j<l.length)→l.toArray[j]! = l[j]:=fun j h=>by simp[h]
 constructor
 ·rintro⟨j,hj,rfl⟩
  have hl:j<l.length:=List.mem_range.1 (List.mem_filter.1 hj).1
  rw[hg j hl]
  exact List.getElem_mem hl
 ·intro hx
  obtain⟨j,hj,e⟩:=List.getElem_of_mem hx
  have key:∀j,(h:j<l.length)→l[j]=x→∃i,i∈(List.range l.length).filter (Go.Lib.keeps l.toArray)∧l.toArray[i]! = x:=by
   intro j
   induction j with
   | zero=>intro h e;exact⟨0,List.mem_filter.2 ⟨List.mem_range.2 h,by simp[Go.Lib.keeps]⟩,by rw[hg 0 h,e]⟩
   | succ j ih =>
    intro h e
    by_cases hk:l[j]=x
    ·exact ih (by omega) hk
    ·refine⟨j+1,List.mem_filter.2 ⟨List.mem_range.2 h,?_⟩,by rw[hg _ h,e]⟩
     unfold Go.Lib.keeps
     rw[decide_eq_true_iff]
     refine .inr ?_
     rw[hg _ h,show j+1-1=j from rfl,hg j (by omega),e]
     exact fun h=>hk h.symm
  exact key j hj e
theorem mem_srtP(l:List Pl)(x:Pl):x∈srtP l↔x∈l:=by unfold srtP;exact List.mem_mergeSort
theorem srtP_len(l:List Pl):(srtP l).length=l.length:=List.length_mergeSort _
theorem orD4'(m:Nat)(a b c d:Int):Dcmp_Or (m+9) [a,b,c,d]=some (or4 a b c d):=by
 unfold Dcmp_Or or4
 by_cases ha:a=0
 ·by_cases hb:b=0
  ·by_cases hc:c=0
   ·by_cases hd:d=0
    ·subst ha hb hc hd;simp[loopN,Dcmp_Or_0,frk,lget,w64,IntKind.wrap,IntKind.bits,IntKind.signed]
    ·subst ha hb hc;simp[loopN,Dcmp_Or_0,frk,lget,w64,IntKind.wrap,IntKind.bits,IntKind.signed,hd]
   ·subst ha hb;simp[loopN,Dcmp_Or_0,frk,lget,w64,IntKind.wrap,IntKind.bits,IntKind.signed,hc]
  ·subst ha;simp[loopN,Dcmp_Or_0,frk,lget,w64,IntKind.wrap,IntKind.bits,IntKind.signed,hb]
 ·simp[loopN,Dcmp_Or_0,frk,lget,ha]
def gtr (p:Pl):Pl:=if cmpP (flp p) p>0 then flp p else p
theorem iGreater{p:Pl}(h:PB p):Ev fun n=>Dimpl_greater n p=some (gtr p):=by
 refine(e_ge 9).mono fun n hn=>?_
 obtain⟨m,rfl⟩:∃m,n=m+9:=⟨n-9,by omega⟩
 unfold Dimpl_greater Dimpl_CmpPlane gtr
 rw[iFlip p h,Option.bind_some]
 simp only[cmpD,Option.bind_some,orD4']
 unfold cmpP
 by_cases hc:or4 (cmpI (flp p).A p.A) (cmpI (flp p).B p.B) (cmpI (flp p).C p.C) (cmpI (flp p).D p.D)>0
 ·rw[dec_t hc,frk_t,if_pos hc]
 ·rw[dec_f hc,frk_f,if_neg hc]
inductive Pls:Sol→List Pl→Prop
 | leaf {i p}:Pls (.mk i p []) []
 | node {i p a b la lb}:Pls a la→Pls b lb→Pls (.mk i p [a,b]) ((la++[gtr p])++lb)
theorem plsStep(n:Nat)(self:Sol→Option (List Pl))(i:Bool)(p:Pl)(k:List Sol):Dimpl_Solid_planes_b n self (.mk i p k)=frk ((k.length:Int)==0) (some []) ((lget k 0).bind fun v1=>(self v1).bind fun v2=>(Dimpl_greater n p).bind fun v3=>chk (apB 32 (v2.length+1)) ((lget k 1).bind fun v5=>(self v5).bind fun v6=>chk (apB 32 ((v2++[v3]).length+v6.length)) (some ((v2++[v3])++v6)))):=rfl
theorem plsOk{s:Sol}{l:List Pl}(h:Rt s l):nod s≤300→∃L,Pls s L∧L.length=nod s∧E2 fun n m=>loopN (Dimpl_Solid_planes_b n) m s=some L:=by
 induction h with
 | @leaf i p _ _=>exact fun _=>⟨[],.leaf,(nod_leaf _ _).symm,E2.suc (E2.of fun n m=>by rw[loop_suc,plsStep];rfl)⟩
 | @node p a b _ hp _ _ _ _ _ iha ihb =>
  intro hn
  rw[nod2] at hn
  obtain⟨la,a1,a2,a3⟩:=iha (by omega)
  obtain⟨lb,b1,b2,b3⟩:=ihb (by omega)
  refine⟨_,.node a1 b1,by rw[nod2];simp;omega,E2.suc (((a3.and b3).and ((iGreater (pOk_PB hp)).e2)).mono fun n m ⟨⟨h2,h4⟩,h5⟩=>?_)⟩
  rw[loop_suc,plsStep,show ((([a,b]:List Sol).length:Int)==0)=false from rfl,frk_f]
  show ((some a).bind _)=_
  rw[Option.bind_some,h2,Option.bind_some,h5,Option.bind_some,chk_eq (ap32 (by omega))]
  show ((some b).bind _)=_
  rw[Option.bind_some,h4,Option.bind_some,chk_eq (ap32 (by simp;omega))]
open Classical in
theorem planesOfOk{s:Sol}(h:Right s):∃L,Pls s L∧L.length=nod s∧Ev fun n=>Dimpl_Solid_planesOf n s=some (once (srtP L))∧Dimpl_PlanesOf n s=some (once (srtP L)):=by
 obtain⟨L,h1,h2,h3⟩:=plsOk h.1 h.2
 have hl:L.length<lim62:=by have:=h.2;unfold lim62;omega
 have h4:Ev fun n=>Dimpl_Solid_planesOf n s=some (once (srtP L)):=h3.ev.mono fun n h=>by
  unfold Dimpl_Solid_planesOf Dimpl_Solid_planes Dimpl_Solid_planesOf_0 DsrtPl Dimpl_Solid_planesOf_1 DcutPl
  rw[h,Option.bind_some,if_pos hl,Option.bind_some,if_pos (by rw[srtP_len];exact hl)];rfl
 refine⟨L,h1,h2,(h4.and (iSolidOk s)).mono fun n ⟨g1,g2⟩=>⟨g1,?_⟩⟩
 unfold Dimpl_PlanesOf
 rw[g2,Option.bind_some,decide_eq_true h]
 show frk false _ _=_
 rw[frk_f,g1];rfl
inductive Aln(G:Pl→Prop):Sol→Prop
 | leaf {i p}:Aln G (.mk i p [])
 | node {i p a b}:G p→Aln G a→Aln G b→Aln G (.mk i p [a,b])
theorem Pls.has{s:Sol}{l:List Pl}(h:Pls s l){G:Pl→Prop}(ha:Aln G s):∀q∈l,∃p,G p∧q=gtr p:=by
 induction h with
 | leaf=>simp
 | node _ _ iha ihb =>
  cases ha with
  | node hp h1 h2 =>
   intro q hq
   simp only[List.mem_append,List.mem_singleton] at hq
   rcases hq with (hq | rfl) | hq
   ·exact iha h1 q hq
   ·exact⟨_,hp,rfl⟩
   ·exact ihb h2 q hq
theorem Pls.aln{s:Sol}{l:List Pl}(h:Pls s l){G:Pl→Prop}:(∀q∈l,∀p,q=gtr p→G p)→Aln G s:=by
 induction h with
 | leaf=>intro _;exact .leaf
 | @node i p a b la lb _ _ iha ihb =>
  intro hg
  exact .node (hg (gtr p) (by simp) p rfl) (iha fun q hq=>hg q (by simp[hq])) (ihb fun q hq=>hg q (by simp[hq]))
theorem aln_jn{G:Pl→Prop}{p:Pl}(hp:G p){x y:Sol}(hx:Aln G x)(hy:Aln G y):Aln G (jn p x y):=by
 unfold jn
 split
 ·exact .leaf
 ·exact .node hp hx hy
theorem Tk.aln{G:Pl→Prop}{op:Int}{inn:Bool}{b:Sol}{path:List Pl}{x:Sol}{sb:Bool}(h:Tk op inn b path x sb):Aln G b→Aln G x:=by
 induction h with
 | leaf=>intro _;exact .leaf
 | one _ _ ih=>intro hf;cases hf with | node _ ha _=>exact ih ha
 | two _ _ _ ih=>intro hf;cases hf with | node _ _ hb=>exact ih hb
 | deep=>intro _;exact .leaf
 | node _ _ _ _ _ _ iha ihb=>intro hf;cases hf with | node hp ha hb=>exact aln_jn hp (iha ha) (ihb hb)
theorem Pt2.aln{G:Pl→Prop}{op:Int}{a b:Sol}{path:List Pl}{x:Sol}{sb:Bool}(h:Pt2 op a b path x sb):Aln G a→Aln G b→Aln G x:=by
 induction h with
 | leaf h=>intro _ hb;exact h.aln hb
 | node _ _ _ _ _ _ iha ihb=>intro ha hb;cases ha with | node hp h1 h2=>exact aln_jn hp (iha h1 hb) (ihb h2 hb)
end Evl.T
namespace Evl.T
open Go Evl
theorem big_small{l:List Int}(h:l.length≤1048576):Dlaws_big l=some false:=by unfold Dlaws_big;rw[dec_f (by omega)]
theorem big_big{l:List Int}(h:¬l.length≤1048576):Dlaws_big l=some true:=by unfold Dlaws_big;rw[dec_t (by omega)]
theorem atC{l:List Int}(hg:∀x∈l,0≤x∧x≤255)(hl:l.length≤1048576)(k:Nat)(hk:k≤100):∃v,Dlaws_at l (k:Int)=some v∧0≤v:=by
 unfold Dlaws_at
 by_cases h:k<l.length
 ·rw[dec_t (by omega),frk_t,lget_nat,List.getElem?_eq_getElem h,Option.bind_some]
  have:=hg l[k] (List.getElem_mem h)
  exact⟨_,rfl,by rw[w64_id (by omega) (by omega)];omega⟩
 ·rw[dec_f (by omega),frk_f]
  refine⟨_,rfl,Int.tmod_nonneg _ ?_⟩
  rw[w64_id (x:=(k:Int)*31) (by omega) (by omega),w64_id (x:=(l.length:Int)*7) (by omega) (by omega),w64_id (by omega) (by omega)];omega
theorem wv_one{q:Spot}{s:Sol}(h:wv q s≠0):∀u,Ar q s u→u=(wv q s==1):=by
 unfold wv at h ⊢
 by_cases h1:Ar q s true
 ·rw[if_pos h1] at h ⊢
  by_cases h2:Ar q s false
  ·rw[if_pos h2] at h;exact absurd rfl h
  ·rw[if_neg h2]
   intro u hu
   cases u
   ·exact absurd hu h2
   ·rfl
 ·rw[if_neg h1]
  intro u hu
  cases u
  ·rfl
  ·exact absurd hu h1
theorem wv_put{op:Int}{a b z:Sol}{q:Spot}(hw:0<q.W)(h:Pt2 op a b [] z false)(ha:wv q a≠0)(hb:wv q b≠0):wv q z=if lfB op (wv q a==1) (wv q b==1) then 1 else -1:=by
 have key:∀w,Ar q z w→w=lfB op (wv q a==1) (wv q b==1):=fun w hz=>by
  obtain⟨u,v,h1,h2,h3⟩:=pt_ar hw h rfl (by simp) (by simp) hz
  rw[wv_one ha u h1,wv_one hb v h2] at h3
  exact h3
 obtain⟨v,hv⟩:=h.rt.bin.ar q
 have e:=key v hv
 generalize lfB op (wv q a==1) (wv q b==1)=x at key e
 subst e
 unfold wv
 cases v
 ·rw[if_neg (fun h=>by have:=key _ h;cases this)];rfl
 ·rw[if_pos hv,if_neg (fun h=>by have:=key _ h;cases this)];rfl
theorem isInOk{op:Int}(h:1≤op∧op≤4)(x y:Bool):Dlaws_isIn op x y=some (lfB op x y):=by
 have:op=1∨op=2∨op=3∨op=4:=by omega
 rcases this with rfl | rfl | rfl | rfl <;> cases x <;> cases y <;> rfl
structure TopAt(n:Nat)(op:Int)(a b z:Sol)(q:Spot):Prop where
 wa:Dimpl_Where n a q=some (wv q a)
 wb:Dimpl_Where n b q=some (wv q b)
 wz:Dimpl_Where n z q=some (wv q z)
 e:wv q a≠0→wv q b≠0→wv q z=if lfB op (wv q a==1) (wv q b==1) then 1 else -1
theorem top4(n:Nat)(R:(Int×List Spot)→Option Bool)(op:Int)(a b z:Sol)(p q:Spot)(hR:R (2,[p,q])=some true)(hq:Dimpl_Where n z q=some (wv q z)){x:Int}(hx:wv q z=x) :
  Dlaws_FnTop_4 n R op a.inn a.pl.A a.pl.B a.pl.C a.pl.D a.kids b.inn b.pl.A b.pl.B b.pl.C b.pl.D b.kids z.inn z.pl.A z.pl.B z.pl.C z.pl.D z.kids 1 x [p,q]=some true:=by
 unfold Dlaws_FnTop_4
 rw[show lget [p,q] 1=some q from rfl,Option.bind_some,sol_eq',hq,Option.bind_some,hx,bne_self_eq_false,frk_f]
 exact hR
theorem top5(n:Nat)(R:(Int×List Spot)→Option Bool){op:Int}(ho:1≤op∧op≤4)(a b z:Sol)(p q:Spot)(hR:R (2,[p,q])=some true)(H:TopAt n op a b z q) :
  Dlaws_FnTop_5 n op a.inn a.pl.A a.pl.B a.pl.C a.pl.D a.kids b.inn b.pl.A b.pl.B b.pl.C b.pl.D b.kids z.inn z.pl.A z.pl.B z.pl.C z.pl.D z.kids R (1,[p,q])=some true:=by
 unfold Dlaws_FnTop_5
 dsimp only
 rw[show decide ((1:Int)<(([p,q]:List Spot).length:Int))=true from rfl,frk_t,show lget [p,q] 1=some q from rfl,Option.bind_some,sol_eq',H.wa,Option.bind_some,Option.bind_some,sol_eq',H.wb,Option.bind_some]
 by_cases ha:wv q a=0
 ·rw[ha,show ((0:Int)==0)=true from rfl,frk_t];exact hR
 ·rw[show (wv q a==0)=false by simpa using ha,frk_f]
  unfold Dlaws_FnTop_3
  by_cases hb:wv q b=0
  ·rw[hb,show ((0:Int)==0)=true from rfl,frk_t];exact hR
  ·rw[show (wv q b==0)=false by simpa using hb,frk_f,isInOk ho,Option.bind_some]
   have e:=H.e ha hb
   cases hl:lfB op (wv q a==1) (wv q b==1) with
   | true=>rw[hl,if_pos rfl] at e;rw[frk_t];exact top4 n R op a b z p q hR H.wz e
   | false=>rw[hl,if_neg (by simp)] at e;rw[frk_f];exact top4 n R op a b z p q hR H.wz e
theorem topL(n m:Nat){op:Int}(ho:1≤op∧op≤4)(a b z:Sol)(p q:Spot)(H:TopAt n op a b z q) :
  loopN (Dlaws_FnTop_5 n op a.inn a.pl.A a.pl.B a.pl.C a.pl.D a.kids b.inn b.pl.A b.pl.B b.pl.C b.pl.D b.kids z.inn z.pl.A z.pl.B z.pl.C z.pl.D z.kids) (m+2) (1,[p,q])=some true:=by
 rw[loop_suc]
 refine top5 n _ ho a b z p q ?_ H
 rw[loop_suc]
 rfl
theorem top1(n:Nat)(hn:2≤n)(l:List Int){op:Int}(ho:1≤op∧op≤4)(a b z:Sol)(p q:Spot){u3 u4 u5 u6:Int}(g3:Dlaws_at l 3=some u3)(g4:Dlaws_at l 4=some u4)(g5:Dlaws_at l 5=some u5)(g6:Dlaws_at l 6=some u6)
  (hs:Dspec_SpotOf n (w64 ((Int.tmod u3 9)-4)) (w64 ((Int.tmod u4 9)-4)) (w64 ((Int.tmod u5 9)-4)) (w64 (1+(Int.tmod u6 3)))=some (q,true)) (hz:Dimpl_SolidOk n z=some true) (Hp:TopAt n op a b z p) (Hq:TopAt n op a b z q) :
  Dlaws_FnTop_1 n l op a.inn a.pl.A a.pl.B a.pl.C a.pl.D a.kids b.inn b.pl.A b.pl.B b.pl.C b.pl.D b.kids p.X p.Y p.Z p.W z.inn z.pl.A z.pl.B z.pl.C z.pl.D z.kids=some true:=by
 obtain⟨m,rfl⟩:∃m,n=m+2:=⟨n-2,by omega⟩
 have L:=topL (m+2) m ho a b z p q Hq
 unfold Dlaws_FnTop_1
 rw[sol_eq',hz,Option.bind_some]
 show frk false _ _=_
 rw[frk_f,g3,Option.bind_some,g4,Option.bind_some,g5,Option.bind_some,g6,Option.bind_some,hs,Option.bind_some,sol_eq']
 show ((Dimpl_Where (m+2) a p).bind _)=_
 rw[Hp.wa,Option.bind_some,sol_eq']
 show ((Dimpl_Where (m+2) b p).bind _)=_
 rw[Hp.wb,Option.bind_some]
 by_cases ha:wv p a=0
 ·rw[ha,show ((0:Int)==0)=true from rfl,frk_t];exact L
 ·rw[show (wv p a==0)=false by simpa using ha,frk_f]
  unfold Dlaws_FnTop_6
  by_cases hb:wv p b=0
  ·rw[hb,show ((0:Int)==0)=true from rfl,frk_t];exact L
  ·rw[show (wv p b==0)=false by simpa using hb,frk_f,isInOk ho,Option.bind_some]
   have e:=Hp.e ha hb
   cases hl:lfB op (wv p a==1) (wv p b==1) with
   | true =>
    rw[hl,if_pos rfl] at e
    rw[frk_t]
    unfold Dlaws_FnTop_8
    show ((Dimpl_Where (m+2) (Sol.mk z.inn (Pl.mk z.pl.A z.pl.B z.pl.C z.pl.D) z.kids) p).bind _)=_
    rw[sol_eq',Hp.wz,Option.bind_some,e]
    exact L
   | false =>
    rw[hl,if_neg (by simp)] at e
    rw[frk_f]
    unfold Dlaws_FnTop_10
    show ((Dimpl_Where (m+2) (Sol.mk z.inn (Pl.mk z.pl.A z.pl.B z.pl.C z.pl.D) z.kids) p).bind _)=_
    rw[sol_eq',Hp.wz,Option.bind_some,e]
    exact L
theorem flipOk(p:Pl):∀n,502≤n→∃f,Dspec_Flip n p=some f:=fun n hn=>by
 unfold Dspec_Flip
 rw[sPlaneOk n p hn,Option.bind_some]
 cases h:pOk p with
 | false=>exact⟨_,rfl⟩
 | true=>rw[Bool.not_true,frk_f,sFlip p (pOk_PB h)];exact⟨_,rfl⟩
theorem amongStep(n:Nat)(l:List Pl)(p:Pl)(rec0:Int→Option Bool)(k:Int):Dlaws_among_1 n l p.A p.B p.C p.D rec0 k=frk (decide (k<(l.length:Int))) ((lget l k).bind fun v0=>frk (v0.A==p.A&&(v0.B==p.B&&(v0.C==p.C&&(v0.D==p.D&&true)))) (some true) ((lget l k).bind fun v1=>(Dspec_Flip n p).bind fun v2=>Dlaws_among_0 n rec0 l p.A p.B p.C p.D k (v1.A==v2.A&&(v1.B==v2.B&&(v1.C==v2.C&&(v1.D==v2.D&&true)))))) (some false):=rfl
theorem amongOk{l:List Pl}(hl:l.length≤1000000){p:Pl}(hp:p∈l):∀n,1000503≤n→Dlaws_among n l p=some true:=fun n hn=>by
 obtain⟨f,hf⟩:=flipOk p n (by omega)
 obtain⟨j,hj,e⟩:=List.getElem_of_mem hp
 have key:∀(d k m:Nat),k+d=j→d<m→loopN (Dlaws_among_1 n l p.A p.B p.C p.D) m ((k:Nat):Int)=some true:=by
  intro d
  induction d with
  | zero =>
   intro k m hk hm
   obtain⟨m,rfl⟩:∃i,m=i+1:=⟨m-1,by omega⟩
   rw[loop_suc,amongStep]
   have hkl:k<l.length:=by omega
   rw[dec_t (by omega),frk_t,lget_nat,List.getElem?_eq_getElem hkl,Option.bind_some]
   have:l[k]=p:=by rw[←e];congr 1
   rw[this]
   simp[frk_t]
  | succ d ih =>
   intro k m hk hm
   obtain⟨m,rfl⟩:∃i,m=i+1:=⟨m-1,by omega⟩
   rw[loop_suc,amongStep]
   have hkl:k<l.length:=by omega
   rw[dec_t (by omega),frk_t,lget_nat,List.getElem?_eq_getElem hkl,Option.bind_some,Option.bind_some]
   rw[hf,Option.bind_some]
   unfold Dlaws_among_0
   have r:=ih (k+1) m (by omega) (by omega)
   rw[w64_suc (by unfold big;omega),r]
   generalize (l[k].A==p.A&&(l[k].B==p.B&&(l[k].C==p.C&&(l[k].D==p.D&&true))))=x
   generalize (l[k].A==f.A&&(l[k].B==f.B&&(l[k].C==f.C&&(l[k].D==f.D&&true))))=y
   cases x <;> cases y <;> rfl
 exact key j 0 n (by omega) (by omega)
theorem topAll(n:Nat)(l:List Int)(op:Int)(a b z:Sol)(p:Spot)(have' L:List Pl)(hL:L.length≤1000)(hm:∀q∈L,Dlaws_among n have' q=some true)(hn:1001≤n)
  (hf:Dlaws_FnTop_1 n l op a.inn a.pl.A a.pl.B a.pl.C a.pl.D a.kids b.inn b.pl.A b.pl.B b.pl.C b.pl.D b.kids p.X p.Y p.Z p.W z.inn z.pl.A z.pl.B z.pl.C z.pl.D z.kids=some true) :
  loopN (Dlaws_FnTop_12 n l op L a.inn a.pl.A a.pl.B a.pl.C a.pl.D a.kids b.inn b.pl.A b.pl.B b.pl.C b.pl.D b.kids p.X p.Y p.Z p.W z.inn z.pl.A z.pl.B z.pl.C z.pl.D z.kids have') n 0=some true:=by
 have key:∀(d k m:Nat),k+d=L.length→d<m→loopN (Dlaws_FnTop_12 n l op L a.inn a.pl.A a.pl.B a.pl.C a.pl.D a.kids b.inn b.pl.A b.pl.B b.pl.C b.pl.D b.kids p.X p.Y p.Z p.W z.inn z.pl.A z.pl.B z.pl.C z.pl.D z.kids have') m ((k:Nat):Int)=some true:=by
  intro d
  induction d with
  | zero =>
   intro k m hk hm'
   obtain⟨m,rfl⟩:∃i,m=i+1:=⟨m-1,by omega⟩
   rw[loop_suc]
   unfold Dlaws_FnTop_12
   dsimp only
   rw[dec_f (by omega),frk_f];exact hf
  | succ d ih =>
   intro k m hk hm'
   obtain⟨m,rfl⟩:∃i,m=i+1:=⟨m-1,by omega⟩
   rw[loop_suc]
   unfold Dlaws_FnTop_12
   dsimp only
   have hkl:k<L.length:=by omega
   rw[dec_t (by omega),frk_t,lget_nat,List.getElem?_eq_getElem hkl,Option.bind_some,hm _ (List.getElem_mem hkl),Option.bind_some,Bool.not_true,frk_f,w64_suc (by unfold big;omega)]
   exact ih (k+1) m (by omega) (by omega)
 exact key L.length 0 n (by omega) (by omega)
open Classical in
theorem plain_FnTop(l:List Int)(hg:l.length≤maxLen∧∀x∈l,0≤x∧x≤255):∃n,Dlaws_FnTop n l=some true:=by
 by_cases hl:l.length≤1048576
 ·obtain⟨a,b,p,hra,hda,hrb,hdb,hp,eD⟩:=drawTwo l hl
  obtain⟨u2,g2,n2⟩:=atC hg.2 hl 2 (by omega)
  obtain⟨u3,g3,n3⟩:=atC hg.2 hl 3 (by omega)
  obtain⟨u4,g4,n4⟩:=atC hg.2 hl 4 (by omega)
  obtain⟨u5,g5,n5⟩:=atC hg.2 hl 5 (by omega)
  obtain⟨u6,g6,n6⟩:=atC hg.2 hl 6 (by omega)
  have t2:0≤Int.tmod u2 4∧Int.tmod u2 4<4:=⟨Int.tmod_nonneg _ n2,Int.tmod_lt_of_pos _ (by omega)⟩
  have t3:0≤Int.tmod u3 9∧Int.tmod u3 9<9:=⟨Int.tmod_nonneg _ n3,Int.tmod_lt_of_pos _ (by omega)⟩
  have t4:0≤Int.tmod u4 9∧Int.tmod u4 9<9:=⟨Int.tmod_nonneg _ n4,Int.tmod_lt_of_pos _ (by omega)⟩
  have t5:0≤Int.tmod u5 9∧Int.tmod u5 9<9:=⟨Int.tmod_nonneg _ n5,Int.tmod_lt_of_pos _ (by omega)⟩
  have t6:0≤Int.tmod u6 3∧Int.tmod u6 3<3:=⟨Int.tmod_nonneg _ n6,Int.tmod_lt_of_pos _ (by omega)⟩
  obtain⟨q,hq1,hq⟩:=spotOfOk (a:=w64 ((Int.tmod u3 9)-4)) (b:=w64 ((Int.tmod u4 9)-4)) (c:=w64 ((Int.tmod u5 9)-4)) (d:=w64 (1+(Int.tmod u6 3)))
   (by rw[w64_id (by omega) (by omega)];omega) (by rw[w64_id (by omega) (by omega)];omega) (by rw[w64_id (by omega) (by omega)];omega) (by rw[w64_id (by omega) (by omega)];omega) (by rw[w64_id (by omega) (by omega)];omega)
  obtain⟨op,ho,hop⟩:∃op:Int,op=w64 (1+(Int.tmod u2 4))∧1≤op∧op≤4:=⟨_,rfl,by rw[w64_id (by omega) (by omega)];omega⟩
  obtain⟨z,sb,hz,eP⟩:=putE hra hrb (op:=op) (rIn_iff.2 hop)
  have g2':Dlaws_at l 2=some u2:=g2
  by_cases hok:(pr z sb).2=true
  ·obtain⟨r1,rfl,rn⟩:=pr_yes hok
   have hrz:Right z:=⟨hz.rt,rn⟩
   obtain⟨La,a1,a2,a3⟩:=planesOfOk hra
   obtain⟨Lb,b1,b2,b3⟩:=planesOfOk hrb
   obtain⟨Lz,z1,z2,z3⟩:=planesOfOk hrz
   have la:=hra.2
   have lb:=hrb.2
   have lna:(once (srtP La)).length≤300:=by have:=once_len (srtP La);rw[srtP_len] at this;omega
   have lnb:(once (srtP Lb)).length≤300:=by have:=once_len (srtP Lb);rw[srtP_len] at this;omega
   have lnz:(once (srtP Lz)).length≤300:=by have:=once_len (srtP Lz);rw[srtP_len] at this;omega
   have hG:Aln (fun r=>gtr r∈La∨gtr r∈Lb) z:=hz.aln (a1.aln fun x hx r hr=>.inl (hr ▸ hx)) (b1.aln fun x hx r hr=>.inr (hr ▸ hx))
   have hin:∀x∈once (srtP Lz),x∈once (srtP La)++once (srtP Lb):=fun x hx=>by
    rw[mem_once,mem_srtP] at hx
    obtain⟨r,hr,rfl⟩:=z1.has hG x hx
    rw[List.mem_append,mem_once,mem_once,mem_srtP,mem_srtP];exact hr
   obtain⟨n,hN⟩:=(eD.and (eP.and (a3.and (b3.and z3)))).and ((((iWhereAr hra hp).and (iWhereAr hrb hp)).and ((iWhereAr hrz hp).and (iWhereAr hra hq))).and (((iWhereAr hrb hq).and (iWhereAr hrz hq)).and ((iSolidOk z).and (e_ge 2000000))))
   obtain⟨⟨g0,⟨f1,f2⟩,⟨-,g7⟩,⟨-,g8⟩,-,g9⟩,⟨⟨w1,w2⟩,w3,w4⟩,⟨w5,w6⟩,w7,hn⟩:=hN n (Nat.le_refl n)
   have wp:0<p.W:=by have:=hp.w.1;omega
   have wq:0<q.W:=by have:=hq.w.1;omega
   rw[decide_eq_true hrz] at w7
   rw[r1] at f1 f2
   refine⟨n,?_⟩
   unfold Dlaws_FnTop
   rw[big_small hl,Option.bind_some,frk_f,g0,Option.bind_some,g2',Option.bind_some,←ho]
   simp only[f1,f2,Option.bind_some,beq_self_eq_true,Bool.not_true,frk_f]
   unfold Dlaws_FnTop_0
   rw[frk_f,sol_eq',g7,Option.bind_some,sol_eq',g8,Option.bind_some,chk_eq (ap32 (by omega)),sol_eq',g9,Option.bind_some]
   exact topAll n l op a b z p _ _ (by omega) (fun x hx=>amongOk (by rw[List.length_append];omega) (hin x hx) n (by omega)) (by omega)
    (top1 n (by omega) l hop a b z p q g3 g4 g5 g6 (hq1 n (by omega)) w7 ⟨w1,w2,w3,fun h1 h2=>wv_put wp hz h1 h2⟩ ⟨w4,w5,w6,fun h1 h2=>wv_put wq hz h1 h2⟩)
  ·obtain⟨n,hN⟩:=eD.and eP
   obtain⟨g0,f1,f2⟩:=hN n (Nat.le_refl n)
   refine⟨n,?_⟩
   have hf:(pr z sb).2=false:=by simpa using hok
   unfold Dlaws_FnTop
   rw[big_small hl,Option.bind_some,frk_f,g0,Option.bind_some,g2',Option.bind_some,←ho]
   simp only[f1,f2,hf,Option.bind_some,beq_self_eq_true,Bool.not_true,frk_f]
   unfold Dlaws_FnTop_0
   rfl
 ·refine⟨0,?_⟩
  unfold Dlaws_FnTop
  rw[big_big hl,Option.bind_some,frk_t]
end Evl.T
