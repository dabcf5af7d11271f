
/- Walks. No condition. -/
import Derived.Test.YtjmnnljfhoeaaaaGreatWy
namespace Evl.T
open Go Evl Go.Proofs
set_option maxRecDepth 100000
def Dimpl_divisor_0(_n:Nat)(rec0:(Int×Int)→Option Int)(_t6:List Int)(_t7 t8:Int)(rec1:(Int×Int)→Option Int)(a:(Int×Int)):Option Int :=
 match a with
 | (t3,t5)=>frk (t5 != 0) ((rm .i64 t3 t5).bind fun v1=>rec1 (t5,v1)) (rec0 (t3,w64 (t8+1)))
theorem Timpl_divisor_0{Y}(n:Nat)(rec0:(Int×Int)→Option Int)(t6:List Int)(t7:Int)(hrec0:∀(a:(Int×Int)) (r:Int),rec0 a=some r→Wk Tryz.prog H Y 100 [.code (cp [1,1,0,1,0] (bodyOf Tryz.f100)),.blk 0,.code (cp [1,1,1] (bodyOf Tryz.f100))] (FinX Tryz.prog Tryz.f100 [] (i64 r) []) ⟨[(3,i64 a.1),(6,.sl false 1 t6.length ((eInt).f t6)),(7,i64 t7),(8,i64 a.2)],[]⟩)(t8:Int):∀(m:Nat) (a:(Int×Int)) (r:Int),loopN (Dimpl_divisor_0 n rec0 t6 t7 t8) m a=some r→Wk Tryz.prog H Y 100 [.code (cp [1,1,0,1,0,0,1,1,0,0,1,1,0] (bodyOf Tryz.f100)),.blk 2,.blk 1,.code (cp [1,1,0,1,0,0,1,1,1] (bodyOf Tryz.f100)),.lp (cp [1,1,0,1,0] (bodyOf Tryz.f100)),.blk 0,.code (cp [1,1,1] (bodyOf Tryz.f100))] (FinX Tryz.prog Tryz.f100 [] (i64 r) []) ⟨[(3,i64 a.1),(5,i64 a.2),(6,.sl false 1 t6.length ((eInt).f t6)),(7,i64 t7),(8,i64 t8)],[]⟩:=by
 refine loopN_ind (fun _rec1 hrec1 a r h=>?_)
 obtain⟨t3,t5⟩:=a
 unfold Dimpl_divisor_0 at h
 refine x_frk 7 [] onil h (by kernel_rfl) (fun h=>?_) (fun h=>?_)
 ·obtain⟨v1,y1,h⟩:=bm h
  exact x_to 12 [(3,.val (i64 v1))] (ocons (rmOk y1) onil) (hrec1 (t5,v1) r h) 
 ·exact x_to 7 [] onil (hrec0 (t3,w64 (t8+1)) r h) 
def Dimpl_divisor_1(n:Nat)(t6:List Int)(t7:Int)(rec0:(Int×Int)→Option Int)(a:(Int×Int)):Option Int :=
 match a with
 | (t3,t8)=>frk (decide (t8<t7)) ((lget t6 t8).bind fun v0=>loopN (Dimpl_divisor_0 n rec0 t6 t7 t8) n (t3,maxN v0 [w64 (0-v0)])) (some t3)
theorem Timpl_divisor_1{Y}(n:Nat)(t6:List Int)(t7:Int):∀(m:Nat) (a:(Int×Int)) (r:Int),loopN (Dimpl_divisor_1 n t6 t7) m a=some r→Wk Tryz.prog H Y 100 [.code (cp [1,1,0,1,0] (bodyOf Tryz.f100)),.blk 0,.code (cp [1,1,1] (bodyOf Tryz.f100))] (FinX Tryz.prog Tryz.f100 [] (i64 r) []) ⟨[(3,i64 a.1),(6,.sl false 1 t6.length ((eInt).f t6)),(7,i64 t7),(8,i64 a.2)],[]⟩:=by
 refine loopN_ind (fun rec0 hrec0 a r h=>?_)
 obtain⟨t3,t8⟩:=a
 unfold Dimpl_divisor_1 at h
 refine x_frk 6 [] onil h (by kernel_rfl) (fun h=>?_) (fun h=>?_)
 ·obtain⟨v0,y0,h⟩:=bm h
  exact x_to 18 [(0,.val (.cptr (eInt.c v0++(eInt).f ((t6).drop (Int.toNat t8+1))))),(5,.val (.lit (.int .i64 (maxN v0 [w64 (0-v0)]))))] (ocons (ix eInt y0) (ocons (maxNok .i64 [w64 (0-v0)] v0) onil)) (Timpl_divisor_0 n rec0 t6 t7 hrec0 t8 n (t3,maxN v0 [w64 (0-v0)]) r h) 
 ·replace h:=sj h;subst h
  exact x_end 6 [] [] onil onil 
def Dimpl_divisor(n:Nat)(a0:(List Int)):Option Int :=
 loopN (Dimpl_divisor_1 n a0 (a0.length:Int)) n (0,0)
theorem Timpl_divisor{Y}(n:Nat)(a0:(List Int))(r:Int)(h:Dimpl_divisor n a0=some r):Big Tryz.prog H Y (.call 100 [.sl false 1 a0.length ((eInt).f a0)] (lk []) (i64 r) (lk [])):=by
 unfold Dimpl_divisor at h
 refine x_call (fn:=Tryz.f100) (c:=bodyOf Tryz.f100) (bs0:=[]) Tryz.func100 (by kernel_rfl) (by kernel_rfl) ?_
 exact x_to 16 [] onil (Timpl_divisor_1 n a0 (a0.length:Int) n (0,0) r h) 
def Dimpl_PlaneOk_0(n:Nat)(t24:Bool)(zc zd zan zao:Int):Option Bool :=
 frk t24 (some false) (frk (zc != 0) ((Dimpl_divisor n [zc,zd,zan,zao]).bind fun v4=>some (v4==1)) (frk (zd != 0) ((Dimpl_divisor n [zc,zd,zan,zao]).bind fun v5=>some (v5==1)) (frk (zan != 0) ((Dimpl_divisor n [zc,zd,zan,zao]).bind fun v6=>some (v6==1)) (some false))))
theorem Timpl_PlaneOk_0{Y}(n:Nat)(t24:Bool)(zc zd zan zao:Int)(r:Bool)(h:Dimpl_PlaneOk_0 n t24 zc zd zan zao=some r):Wk Tryz.prog H Y 38 [.code (cp [1,0,1] (bodyOf Tryz.f38)),.code (cp [1,1] (bodyOf Tryz.f38))] (FinX Tryz.prog Tryz.f38 [] (bl r) []) ⟨[(1,.ptr 1 0),(24,bl t24)],[(1,⟨true,0,[i64 zc,i64 zd,i64 zan,i64 zao]⟩)]⟩:=by
 unfold Dimpl_PlaneOk_0 at h
 refine x_frk 0 [] onil h (by kernel_rfl) (fun h=>?_) (fun h=>?_)
 ·replace h:=sj h;subst h
  exact x_end 4 [] [] onil onil 
 ·refine x_frk 7 [] onil h (by kernel_rfl) (fun h=>?_) (fun h=>?_)
  ·obtain⟨v4,y4,h⟩:=bm h
   replace h:=sj h;subst h
   exact x_end 24 [(19,.call [] [(eInt).f [zc,zd,zan,zao]] (i64 v4) [])] [] (ocons (Timpl_divisor (Y:=Y) n [zc,zd,zan,zao] _ y4) (ocons (len_row (L:=[zc,zd,zan,zao]) eInt) (ocons (Enc.share eInt eInt sInt [zc,zd,zan,zao]) onil))) onil 
  ·refine x_frk 5 [] onil h (by kernel_rfl) (fun h=>?_) (fun h=>?_)
   ·obtain⟨v5,y5,h⟩:=bm h
    replace h:=sj h;subst h
    exact x_end 19 [(14,.call [] [(eInt).f [zc,zd,zan,zao]] (i64 v5) [])] [] (ocons (Timpl_divisor (Y:=Y) n [zc,zd,zan,zao] _ y5) (ocons (len_row (L:=[zc,zd,zan,zao]) eInt) (ocons (Enc.share eInt eInt sInt [zc,zd,zan,zao]) onil))) onil 
   ·refine x_frk 5 [] onil h (by kernel_rfl) (fun h=>?_) (fun h=>?_)
    ·obtain⟨v6,y6,h⟩:=bm h
     replace h:=sj h;subst h
     exact x_end 14 [(9,.call [] [(eInt).f [zc,zd,zan,zao]] (i64 v6) [])] [] (ocons (Timpl_divisor (Y:=Y) n [zc,zd,zan,zao] _ y6) (ocons (len_row (L:=[zc,zd,zan,zao]) eInt) (ocons (Enc.share eInt eInt sInt [zc,zd,zan,zao]) onil))) onil 
    ·replace h:=sj h;subst h
     exact x_end 14 [] [] onil onil 
def Dimpl_PlaneOk(n:Nat)(a0:Pl):Option Bool :=
 (Dimpl_isCoef a0.A).bind fun v0=>frk (!v0) (some false) ((Dimpl_isCoef a0.B).bind fun v1=>frk (!v1) (some false) ((Dimpl_isCoef a0.C).bind fun v2=>frk (!v2) (some false) ((Dimpl_isCoef a0.D).bind fun v3=>Dimpl_PlaneOk_0 n (!v3) a0.A a0.B a0.C a0.D)))
theorem Timpl_PlaneOk{Y}(n:Nat)(a0:Pl)(r:Bool)(h:Dimpl_PlaneOk n a0=some r):Big Tryz.prog H Y (.call 38 [.agg [i64 a0.A,i64 a0.B,i64 a0.C,i64 a0.D]] (lk []) (bl r) (lk [])):=by
 unfold Dimpl_PlaneOk at h
 refine x_call (fn:=Tryz.f38) (c:=bodyOf Tryz.f38) (bs0:=[]) Tryz.func38 (by kernel_rfl) (by kernel_rfl) ?_
 obtain⟨v0,y0,h⟩:=bm h
 refine x_frk 13 [(4,.call [] [] (bl v0) [])] (ocons (Timpl_isCoef (Y:=Y) a0.A _ y0) onil) h (by kernel_rfl) (fun h=>?_) (fun h=>?_)
 ·replace h:=sj h;subst h
  exact x_end 23 [] [] onil onil 
 ·obtain⟨v1,y1,h⟩:=bm h
  refine x_frk 6 [(2,.call [] [] (bl v1) [])] (ocons (Timpl_isCoef (Y:=Y) a0.B _ y1) onil) h (by kernel_rfl) (fun h=>?_) (fun h=>?_)
  ·replace h:=sj h;subst h
   exact x_end 17 [] [] onil onil 
  ·obtain⟨v2,y2,h⟩:=bm h
   refine x_frk 6 [(2,.call [] [] (bl v2) [])] (ocons (Timpl_isCoef (Y:=Y) a0.C _ y2) onil) h (by kernel_rfl) (fun h=>?_) (fun h=>?_)
   ·replace h:=sj h;subst h
    exact x_end 11 [] [] onil onil 
   ·obtain⟨v3,y3,h⟩:=bm h
    exact x_to 6 [(2,.call [] [] (bl v3) [])] (ocons (Timpl_isCoef (Y:=Y) a0.D _ y3) onil) (Timpl_PlaneOk_0 n (!v3) a0.A a0.B a0.C a0.D r h) 
def Dimpl_flip(a0:Pl):Option Pl :=
 some (Pl.mk (w64 (0-a0.A)) (w64 (0-a0.B)) (w64 (0-a0.C)) (w64 (0-a0.D)))
theorem Timpl_flip{Y}(a0:Pl)(r:Pl)(h:Dimpl_flip a0=some r):Big Tryz.prog H Y (.call 136 [.agg [i64 a0.A,i64 a0.B,i64 a0.C,i64 a0.D]] (lk []) (.agg [i64 r.A,i64 r.B,i64 r.C,i64 r.D]) (lk [])):=by
 unfold Dimpl_flip at h
 refine x_call (fn:=Tryz.f136) (c:=bodyOf Tryz.f136) (bs0:=[]) Tryz.func136 (by kernel_rfl) (by kernel_rfl) ?_
 replace h:=sj h;subst h
 exact x_end 22 [] [] onil onil 
def Dimpl_normal(a0:Pl):Option (Int×Int×Int) :=
 some (a0.A,a0.B,a0.C)
theorem Timpl_normal{Y}(a0:Pl)(r:(Int×Int×Int))(h:Dimpl_normal a0=some r):Big Tryz.prog H Y (.call 69 [.agg [i64 a0.A,i64 a0.B,i64 a0.C,i64 a0.D]] (lk []) (.agg [i64 r.1,i64 r.2.1,i64 r.2.2]) (lk [])):=by
 unfold Dimpl_normal at h
 refine x_call (fn:=Tryz.f69) (c:=bodyOf Tryz.f69) (bs0:=[]) Tryz.func69 (by kernel_rfl) (by kernel_rfl) ?_
 replace h:=sj h;subst h
 exact x_end 16 [] [] onil onil 
def Dimpl_crossOf(a0:(Int×Int×Int))(a1:(Int×Int×Int)):Option (Int×Int×Int) :=
 some (w64 ((w64 (a0.2.1*a1.2.2))-(w64 (a0.2.2*a1.2.1))),w64 ((w64 (a0.2.2*a1.1))-(w64 (a0.1*a1.2.2))),w64 ((w64 (a0.1*a1.2.1))-(w64 (a0.2.1*a1.1))))
theorem Timpl_crossOf{Y}(a0:(Int×Int×Int))(a1:(Int×Int×Int))(r:(Int×Int×Int))(h:Dimpl_crossOf a0 a1=some r):Big Tryz.prog H Y (.call 202 [.agg [i64 a0.1,i64 a0.2.1,i64 a0.2.2],.agg [i64 a1.1,i64 a1.2.1,i64 a1.2.2]] (lk []) (.agg [i64 r.1,i64 r.2.1,i64 r.2.2]) (lk [])):=by
 unfold Dimpl_crossOf at h
 refine x_call (fn:=Tryz.f202) (c:=bodyOf Tryz.f202) (bs0:=[]) Tryz.func202 (by kernel_rfl) (by kernel_rfl) ?_
 replace h:=sj h;subst h
 exact x_end 44 [] [] onil onil 
def Dimpl_dot(a0:(Int×Int×Int))(a1:(Int×Int×Int)):Option Int :=
 some (w64 ((w64 ((w64 (a0.1*a1.1))+(w64 (a0.2.1*a1.2.1))))+(w64 (a0.2.2*a1.2.2))))
theorem Timpl_dot{Y}(a0:(Int×Int×Int))(a1:(Int×Int×Int))(r:Int)(h:Dimpl_dot a0 a1=some r):Big Tryz.prog H Y (.call 204 [.agg [i64 a0.1,i64 a0.2.1,i64 a0.2.2],.agg [i64 a1.1,i64 a1.2.1,i64 a1.2.2]] (lk []) (i64 r) (lk [])):=by
 unfold Dimpl_dot at h
 refine x_call (fn:=Tryz.f204) (c:=bodyOf Tryz.f204) (bs0:=[]) Tryz.func204 (by kernel_rfl) (by kernel_rfl) ?_
 replace h:=sj h;subst h
 exact x_end 27 [] [] onil onil 
def Dcmp_isNaN(a0:Int):Option Bool :=
 some (a0 != a0)
theorem Tcmp_isNaN{Y}(a0:Int)(r:Bool)(h:Dcmp_isNaN a0=some r):Big Tryz.prog H Y (.call 219 [i64 a0] (lk []) (bl r) (lk [])):=by
 unfold Dcmp_isNaN at h
 refine x_call (fn:=Tryz.f219) (c:=bodyOf Tryz.f219) (bs0:=[]) Tryz.func219 (by kernel_rfl) (by kernel_rfl) ?_
 replace h:=sj h;subst h
 exact x_end 11 [] [] onil onil 
def Dcmp_Compare(a0 a1:Int):Option Int :=
 (Dcmp_isNaN a0).bind fun v0=>(Dcmp_isNaN a1).bind fun v1=>frk v0 (frk v1 (some 0) (some (-1))) (frk v1 (some 1) (frk (decide (a0<a1)) (some (-1)) (frk (decide (a0>a1)) (some 1) (some 0))))
theorem Tcmp_Compare{Y}(a0 a1 r:Int)(h:Dcmp_Compare a0 a1=some r):Big Tryz.prog H Y (.call 194 [i64 a0,i64 a1] (lk []) (i64 r) (lk [])):=by
 unfold Dcmp_Compare at h
 refine x_call (fn:=Tryz.f194) (c:=bodyOf Tryz.f194) (bs0:=[]) Tryz.func194 (by kernel_rfl) (by kernel_rfl) ?_
 obtain⟨v0,y0,h⟩:=bm h
 obtain⟨v1,y1,h⟩:=bm h
 refine x_frk 21 [(2,.call [] [] (bl v0) []),(2,.call [] [] (bl v1) [])] (ocons (Tcmp_isNaN (Y:=Y) a0 _ y0) (ocons (Tcmp_isNaN (Y:=Y) a1 _ y1) onil)) h (by kernel_rfl) (fun h=>?_) (fun h=>?_)
 ·refine x_frk 5 [] onil h (by kernel_rfl) (fun h=>?_) (fun h=>?_)
  ·replace h:=sj h;subst h
   exact x_end 4 [] [] onil onil 
  ·replace h:=sj h;subst h
   exact x_end 5 [] [] onil onil 
 ·refine x_frk 6 [] onil h (by kernel_rfl) (fun h=>?_) (fun h=>?_)
  ·replace h:=sj h;subst h
   exact x_end 4 [] [] onil onil 
  ·refine x_frk 8 [] onil h (by kernel_rfl) (fun h=>?_) (fun h=>?_)
   ·replace h:=sj h;subst h
    exact x_end 4 [] [] onil onil 
   ·refine x_frk 8 [] onil h (by kernel_rfl) (fun h=>?_) (fun h=>?_)
    ·replace h:=sj h;subst h
     exact x_end 4 [] [] onil onil 
    ·replace h:=sj h;subst h
     exact x_end 5 [] [] onil onil 
def Dimpl_sign(a0:Int):Option Int :=
 (Dcmp_Compare a0 0).bind fun v0=>some v0
theorem Timpl_sign{Y}(a0 r:Int)(h:Dimpl_sign a0=some r):Big Tryz.prog H Y (.call 207 [i64 a0] (lk []) (i64 r) (lk [])):=by
 unfold Dimpl_sign at h
 refine x_call (fn:=Tryz.f207) (c:=bodyOf Tryz.f207) (bs0:=[]) Tryz.func207 (by kernel_rfl) (by kernel_rfl) ?_
 obtain⟨v0,y0,h⟩:=bm h
 replace h:=sj h;subst h
 exact x_end 10 [(2,.call [] [] (i64 v0) [])] [] (ocons (Tcmp_Compare (Y:=Y) a0 0 _ y0) onil) onil 
def Dimpl_parallel(a0:Pl)(a1:Pl):Option Int :=
 (Dimpl_normal a0).bind fun v0=>(Dimpl_normal a1).bind fun v1=>(Dimpl_crossOf v0 v1).bind fun v2=>frk (!(v2.1==0&&(v2.2.1==0&&(v2.2.2==0&&true)))) (some 0) ((Dimpl_normal a0).bind fun v3=>(Dimpl_normal a1).bind fun v4=>(Dimpl_dot v3 v4).bind fun v5=>(Dimpl_sign v5).bind fun v6=>some v6)
theorem Timpl_parallel{Y}(a0:Pl)(a1:Pl)(r:Int)(h:Dimpl_parallel a0 a1=some r):Big Tryz.prog H Y (.call 200 [.agg [i64 a0.A,i64 a0.B,i64 a0.C,i64 a0.D],.agg [i64 a1.A,i64 a1.B,i64 a1.C,i64 a1.D]] (lk []) (i64 r) (lk [])):=by
 unfold Dimpl_parallel at h
 refine x_call (fn:=Tryz.f200) (c:=bodyOf Tryz.f200) (bs0:=[]) Tryz.func200 (by kernel_rfl) (by kernel_rfl) ?_
 obtain⟨v0,y0,h⟩:=bm h
 obtain⟨v1,y1,h⟩:=bm h
 obtain⟨v2,y2,h⟩:=bm h
 refine x_frk 17 [(4,.call [] [] (.agg [i64 v0.1,i64 v0.2.1,i64 v0.2.2]) []),(1,.call [] [] (.agg [i64 v1.1,i64 v1.2.1,i64 v1.2.2]) []),(0,.call [] [] (.agg [i64 v2.1,i64 v2.2.1,i64 v2.2.2]) [])] (ocons (Timpl_normal (Y:=Y) a0 _ y0) (ocons (Timpl_normal (Y:=Y) a1 _ y1) (ocons (Timpl_crossOf (Y:=Y) v0 v1 _ y2) onil))) h (by kernel_rfl) (fun h=>?_) (fun h=>?_)
 ·replace h:=sj h;subst h
  exact x_end 4 [] [] onil onil 
 ·obtain⟨v3,y3,h⟩:=bm h
  obtain⟨v4,y4,h⟩:=bm h
  obtain⟨v5,y5,h⟩:=bm h
  obtain⟨v6,y6,h⟩:=bm h
  replace h:=sj h;subst h
  exact x_end 11 [(1,.call [] [] (.agg [i64 v3.1,i64 v3.2.1,i64 v3.2.2]) []),(1,.call [] [] (.agg [i64 v4.1,i64 v4.2.1,i64 v4.2.2]) []),(0,.call [] [] (i64 v5) []),(0,.call [] [] (i64 v6) [])] [] (ocons (Timpl_normal (Y:=Y) a0 _ y3) (ocons (Timpl_normal (Y:=Y) a1 _ y4) (ocons (Timpl_dot (Y:=Y) v3 v4 _ y5) (ocons (Timpl_sign (Y:=Y) v5 _ y6) onil)))) onil 
def Dimpl_clash2(_n:Nat)(a0:Pl)(a1:Pl):Option Bool :=
 (Dimpl_parallel a0 a1).bind fun v0=>frk (decide (v0≥0)) (some false) ((Dimpl_normal a0).bind fun v1=>(Dimpl_normal a1).bind fun v2=>frk (v1.1 != 0) (some (decide ((w64 ((w64 (a0.D*(maxN v2.1 [w64 (0-v2.1)])))+(w64 (a1.D*(maxN v1.1 [w64 (0-v1.1)])))))≤0))) (frk (v1.2.1 != 0) (some (decide ((w64 ((w64 (a0.D*(maxN v2.2.1 [w64 (0-v2.2.1)])))+(w64 (a1.D*(maxN v1.2.1 [w64 (0-v1.2.1)])))))≤0))) (frk (v1.2.2 != 0) (some (decide ((w64 ((w64 (a0.D*(maxN v2.2.2 [w64 (0-v2.2.2)])))+(w64 (a1.D*(maxN v1.2.2 [w64 (0-v1.2.2)])))))≤0))) (some false))))
theorem Timpl_clash2{Y}(n:Nat)(a0:Pl)(a1:Pl)(r:Bool)(h:Dimpl_clash2 n a0 a1=some r):Big Tryz.prog H Y (.call 177 [.agg [i64 a0.A,i64 a0.B,i64 a0.C,i64 a0.D],.agg [i64 a1.A,i64 a1.B,i64 a1.C,i64 a1.D]] (lk []) (bl r) (lk [])):=by
 unfold Dimpl_clash2 at h
 refine x_call (fn:=Tryz.f177) (c:=bodyOf Tryz.f177) (bs0:=[]) Tryz.func177 (by kernel_rfl) (by kernel_rfl) ?_
 obtain⟨v0,y0,h⟩:=bm h
 refine x_frk 14 [(5,.call [] [] (i64 v0) [])] (ocons (Timpl_parallel (Y:=Y) a0 a1 _ y0) onil) h (by kernel_rfl) (fun h=>?_) (fun h=>?_)
 ·replace h:=sj h;subst h
  exact x_end 4 [] [] onil onil 
 ·obtain⟨v1,y1,h⟩:=bm h
  obtain⟨v2,y2,h⟩:=bm h
  refine x_frk 40 [(1,.call [] [] (.agg [i64 v1.1,i64 v1.2.1,i64 v1.2.2]) []),(1,.call [] [] (.agg [i64 v2.1,i64 v2.2.1,i64 v2.2.2]) [])] (ocons (Timpl_normal (Y:=Y) a0 _ y1) (ocons (Timpl_normal (Y:=Y) a1 _ y2) onil)) h (by kernel_rfl) (fun h=>?_) (fun h=>?_)
  ·replace h:=sj h;subst h
   exact x_end 28 [(9,.val (.lit (.int .i64 (maxN v2.1 [w64 (0-v2.1)])))),(10,.val (.lit (.int .i64 (maxN v1.1 [w64 (0-v1.1)]))))] [] (ocons (maxNok .i64 [w64 (0-v2.1)] v2.1) (ocons (maxNok .i64 [w64 (0-v1.1)] v1.1) onil)) onil 
  ·refine x_frk 29 [] onil h (by kernel_rfl) (fun h=>?_) (fun h=>?_)
   ·replace h:=sj h;subst h
    exact x_end 28 [(9,.val (.lit (.int .i64 (maxN v2.2.1 [w64 (0-v2.2.1)])))),(10,.val (.lit (.int .i64 (maxN v1.2.1 [w64 (0-v1.2.1)]))))] [] (ocons (maxNok .i64 [w64 (0-v2.2.1)] v2.2.1) (ocons (maxNok .i64 [w64 (0-v1.2.1)] v1.2.1) onil)) onil 
   ·refine x_frk 29 [] onil h (by kernel_rfl) (fun h=>?_) (fun h=>?_)
    ·replace h:=sj h;subst h
     exact x_end 28 [(9,.val (.lit (.int .i64 (maxN v2.2.2 [w64 (0-v2.2.2)])))),(10,.val (.lit (.int .i64 (maxN v1.2.2 [w64 (0-v1.2.2)]))))] [] (ocons (maxNok .i64 [w64 (0-v2.2.2)] v2.2.2) (ocons (maxNok .i64 [w64 (0-v1.2.2)] v1.2.2) onil)) onil 
    ·replace h:=sj h;subst h
     exact x_end 19 [] [] onil onil 
def Dimpl_det(a0:(Int×Int×Int))(a1:(Int×Int×Int))(a2:(Int×Int×Int)):Option Int :=
 (Dimpl_crossOf a1 a2).bind fun v0=>(Dimpl_dot a0 v0).bind fun v1=>some v1
theorem Timpl_det{Y}(a0:(Int×Int×Int))(a1:(Int×Int×Int))(a2:(Int×Int×Int))(r:Int)(h:Dimpl_det a0 a1 a2=some r):Big Tryz.prog H Y (.call 201 [.agg [i64 a0.1,i64 a0.2.1,i64 a0.2.2],.agg [i64 a1.1,i64 a1.2.1,i64 a1.2.2],.agg [i64 a2.1,i64 a2.2.1,i64 a2.2.2]] (lk []) (i64 r) (lk [])):=by
 unfold Dimpl_det at h
 refine x_call (fn:=Tryz.f201) (c:=bodyOf Tryz.f201) (bs0:=[]) Tryz.func201 (by kernel_rfl) (by kernel_rfl) ?_
 obtain⟨v0,y0,h⟩:=bm h
 obtain⟨v1,y1,h⟩:=bm h
 replace h:=sj h;subst h
 exact x_end 16 [(7,.call [] [] (.agg [i64 v0.1,i64 v0.2.1,i64 v0.2.2]) []),(0,.call [] [] (i64 v1) [])] [] (ocons (Timpl_crossOf (Y:=Y) a1 a2 _ y0) (ocons (Timpl_dot (Y:=Y) a0 v0 _ y1) onil)) onil 
def Dimpl_weighs_0(_n:Nat)(rec0:(Int×Int)→Option Bool)(t1:List Int)(_t5:Int)(_t13:List Int)(_t14 t6 t7 t8 t15:Int)(t27:Bool):Option Bool :=
 frk t27 (some false) ((lget t1 t7).bind fun v4=>rec0 (w64 (t6+(w64 (t8*v4))),w64 (t15+1)))
theorem Timpl_weighs_0{Y}(n:Nat)(rec0:(Int×Int)→Option Bool)(t1:List Int)(t5:Int)(t13:List Int)(t14:Int)(hrec0:∀(a:(Int×Int)) (r:Bool),rec0 a=some r→Wk Tryz.prog H Y 203 [.code (cp [1,1,1,0,1,0] (bodyOf Tryz.f203)),.blk 0,.code (cp [1,1,1,1] (bodyOf Tryz.f203))] (FinX Tryz.prog Tryz.f203 [] (bl r) []) ⟨[(1,.sl false 1 t1.length ((eInt).f t1)),(5,i64 t5),(6,i64 a.1),(13,.sl false 1 t13.length ((eInt).f t13)),(14,i64 t14),(15,i64 a.2)],[]⟩)(t6 t7 t8 t15:Int)(t27 r:Bool)(h:Dimpl_weighs_0 n rec0 t1 t5 t13 t14 t6 t7 t8 t15 t27=some r):Wk Tryz.prog H Y 203 [.code (cp [1,1,1,0,1,0,0,1,1,0,0,1,0,1] (bodyOf Tryz.f203)),.code (cp [1,1,1,0,1,0,0,1,1,0,0,1,1] (bodyOf Tryz.f203)),.blk 1,.code (cp [1,1,1,0,1,0,0,1,1,1] (bodyOf Tryz.f203)),.lp (cp [1,1,1,0,1,0] (bodyOf Tryz.f203)),.blk 0,.code (cp [1,1,1,1] (bodyOf Tryz.f203))] (FinX Tryz.prog Tryz.f203 [] (bl r) []) ⟨[(1,.sl false 1 t1.length ((eInt).f t1)),(5,i64 t5),(6,i64 t6),(7,i64 t7),(8,i64 t8),(13,.sl false 1 t13.length ((eInt).f t13)),(14,i64 t14),(15,i64 t15),(27,bl t27)],[]⟩:=by
 unfold Dimpl_weighs_0 at h
 refine x_frk 0 [] onil h (by kernel_rfl) (fun h=>?_) (fun h=>?_)
 ·replace h:=sj h;subst h
  exact x_end 4 [] [] onil onil 
 ·obtain⟨v4,y4,h⟩:=bm h
  exact x_to 18 [(4,.val (.cptr (eInt.c v4++(eInt).f ((t1).drop (Int.toNat t7+1)))))] (ocons (ix eInt y4) onil) (hrec0 (w64 (t6+(w64 (t8*v4))),w64 (t15+1)) r h) 
def Dimpl_weighs_1(n:Nat)(t1:List Int)(t5:Int)(t13:List Int)(t14:Int)(rec0:(Int×Int)→Option Bool)(a:(Int×Int)):Option Bool :=
 match a with
 | (t6,t15)=>frk (decide (t15<t14)) ((lget t13 t15).bind fun v2=>frk (t5==0) (some false) ((Dimpl_sign v2).bind fun v3=>Dimpl_weighs_0 n rec0 t1 t5 t13 t14 t6 t15 v2 t15 (v3 != t5))) (some (decide ((w64 (t6*t5))≤0)))
theorem Timpl_weighs_1{Y}(n:Nat)(t1:List Int)(t5:Int)(t13:List Int)(t14:Int):∀(m:Nat) (a:(Int×Int)) (r:Bool),loopN (Dimpl_weighs_1 n t1 t5 t13 t14) m a=some r→Wk Tryz.prog H Y 203 [.code (cp [1,1,1,0,1,0] (bodyOf Tryz.f203)),.blk 0,.code (cp [1,1,1,1] (bodyOf Tryz.f203))] (FinX Tryz.prog Tryz.f203 [] (bl r) []) ⟨[(1,.sl false 1 t1.length ((eInt).f t1)),(5,i64 t5),(6,i64 a.1),(13,.sl false 1 t13.length ((eInt).f t13)),(14,i64 t14),(15,i64 a.2)],[]⟩:=by
 refine loopN_ind (fun rec0 hrec0 a r h=>?_)
 obtain⟨t6,t15⟩:=a
 unfold Dimpl_weighs_1 at h
 refine x_frk 6 [] onil h (by kernel_rfl) (fun h=>?_) (fun h=>?_)
 ·obtain⟨v2,y2,h⟩:=bm h
  refine x_frk 17 [(1,.val (.cptr (eInt.c v2++(eInt).f ((t13).drop (Int.toNat t15+1)))))] (ocons (ix eInt y2) onil) h (by kernel_rfl) (fun h=>?_) (fun h=>?_)
  ·replace h:=sj h;subst h
   exact x_end 11 [] [] onil onil 
  ·obtain⟨v3,y3,h⟩:=bm h
   exact x_to 6 [(1,.call [] [] (i64 v3) [])] (ocons (Timpl_sign (Y:=Y) v2 _ y3) onil) (Timpl_weighs_0 n rec0 t1 t5 t13 t14 hrec0 t6 t15 v2 t15 (v3 != t5) r h) 
 ·replace h:=sj h;subst h
  exact x_end 9 [] [] onil onil 
def Dimpl_weighs(n:Nat)(a0:(List Int))(a1:(List Int)):Option Bool :=
 (lget a0 0).bind fun v0=>(Dimpl_sign v0).bind fun v1=>loopN (Dimpl_weighs_1 n a1 v1 a0 (a0.length:Int)) n (0,0)
theorem Timpl_weighs{Y}(n:Nat)(a0:(List Int))(a1:(List Int))(r:Bool)(h:Dimpl_weighs n a0 a1=some r):Big Tryz.prog H Y (.call 203 [.sl false 1 a0.length ((eInt).f a0),.sl false 1 a1.length ((eInt).f a1)] (lk []) (bl r) (lk [])):=by
 unfold Dimpl_weighs at h
 refine x_call (fn:=Tryz.f203) (c:=bodyOf Tryz.f203) (bs0:=[]) Tryz.func203 (by kernel_rfl) (by kernel_rfl) ?_
 obtain⟨v0,y0,h⟩:=bm h
 obtain⟨v1,y1,h⟩:=bm h
 exact x_to 24 [(2,.val (.cptr (eInt.c v0++(eInt).f ((a0).drop (Int.toNat 0+1))))),(1,.call [] [] (i64 v1) [])] (ocons (ix eInt y0) (ocons (Timpl_sign (Y:=Y) v0 _ y1) onil)) (Timpl_weighs_1 n a1 v1 a0 (a0.length:Int) n (0,0) r h) 
def Dimpl_clash3(n:Nat)(a0:Pl)(a1:Pl)(a2:Pl):Option Bool :=
 (Dimpl_normal a0).bind fun v0=>(Dimpl_normal a1).bind fun v1=>(Dimpl_normal a2).bind fun v2=>(Dimpl_det v0 v1 v2).bind fun v3=>frk (v3 != 0) (some false) ((Dimpl_crossOf v0 v1).bind fun v4=>(Dimpl_crossOf v1 v2).bind fun v5=>(Dimpl_dot v5 v4).bind fun v6=>(Dimpl_crossOf v2 v0).bind fun v7=>(Dimpl_dot v7 v4).bind fun v8=>(Dimpl_dot v4 v4).bind fun v9=>(Dimpl_weighs n [v6,v8,v9] [a0.D,a1.D,a2.D]).bind fun v10=>some v10)
theorem Timpl_clash3{Y}(n:Nat)(a0:Pl)(a1:Pl)(a2:Pl)(r:Bool)(h:Dimpl_clash3 n a0 a1 a2=some r):Big Tryz.prog H Y (.call 178 [.agg [i64 a0.A,i64 a0.B,i64 a0.C,i64 a0.D],.agg [i64 a1.A,i64 a1.B,i64 a1.C,i64 a1.D],.agg [i64 a2.A,i64 a2.B,i64 a2.C,i64 a2.D]] (lk []) (bl r) (lk [])):=by
 unfold Dimpl_clash3 at h
 refine x_call (fn:=Tryz.f178) (c:=bodyOf Tryz.f178) (bs0:=[]) Tryz.func178 (by kernel_rfl) (by kernel_rfl) ?_
 obtain⟨v0,y0,h⟩:=bm h
 obtain⟨v1,y1,h⟩:=bm h
 obtain⟨v2,y2,h⟩:=bm h
 obtain⟨v3,y3,h⟩:=bm h
 refine x_frk 31 [(5,.call [] [] (.agg [i64 v0.1,i64 v0.2.1,i64 v0.2.2]) []),(1,.call [] [] (.agg [i64 v1.1,i64 v1.2.1,i64 v1.2.2]) []),(1,.call [] [] (.agg [i64 v2.1,i64 v2.2.1,i64 v2.2.2]) []),(9,.call [] [] (i64 v3) [])] (ocons (Timpl_normal (Y:=Y) a0 _ y0) (ocons (Timpl_normal (Y:=Y) a1 _ y1) (ocons (Timpl_normal (Y:=Y) a2 _ y2) (ocons (Timpl_det (Y:=Y) v0 v1 v2 _ y3) onil)))) h (by kernel_rfl) (fun h=>?_) (fun h=>?_)
 ·replace h:=sj h;subst h
  exact x_end 4 [] [] onil onil 
 ·obtain⟨v4,y4,h⟩:=bm h
  obtain⟨v5,y5,h⟩:=bm h
  obtain⟨v6,y6,h⟩:=bm h
  obtain⟨v7,y7,h⟩:=bm h
  obtain⟨v8,y8,h⟩:=bm h
  obtain⟨v9,y9,h⟩:=bm h
  obtain⟨v10,y10,h⟩:=bm h
  replace h:=sj h;subst h
  exact x_end 35 [(2,.call [] [] (.agg [i64 v4.1,i64 v4.2.1,i64 v4.2.2]) []),(4,.call [] [] (.agg [i64 v5.1,i64 v5.2.1,i64 v5.2.2]) []),(1,.call [] [] (i64 v6) []),(2,.call [] [] (.agg [i64 v7.1,i64 v7.2.1,i64 v7.2.2]) []),(1,.call [] [] (i64 v8) []),(2,.call [] [] (i64 v9) []),(8,.call [] [(eInt).f [a0.D,a1.D,a2.D],(eInt).f [v6,v8,v9]] (bl v10) [])] [] (ocons (Timpl_crossOf (Y:=Y) v0 v1 _ y4) (ocons (Timpl_crossOf (Y:=Y) v1 v2 _ y5) (ocons (Timpl_dot (Y:=Y) v5 v4 _ y6) (ocons (Timpl_crossOf (Y:=Y) v2 v0 _ y7) (ocons (Timpl_dot (Y:=Y) v7 v4 _ y8) (ocons (Timpl_dot (Y:=Y) v4 v4 _ y9) (ocons (Timpl_weighs (Y:=Y) n [v6,v8,v9] [a0.D,a1.D,a2.D] _ y10) (ocons (len_row (L:=[v6,v8,v9]) eInt) (ocons (Enc.share eInt eInt sInt [v6,v8,v9]) (ocons (len_row (L:=[a0.D,a1.D,a2.D]) eInt) (ocons (Enc.share eInt eInt sInt [a0.D,a1.D,a2.D]) onil))))))))))) onil 
def Dimpl_det3(a0:Pl)(a1:Pl)(a2:Pl):Option Int :=
 (Dimpl_normal a0).bind fun v0=>(Dimpl_normal a1).bind fun v1=>(Dimpl_normal a2).bind fun v2=>(Dimpl_det v0 v1 v2).bind fun v3=>some v3
theorem Timpl_det3{Y}(a0:Pl)(a1:Pl)(a2:Pl)(r:Int)(h:Dimpl_det3 a0 a1 a2=some r):Big Tryz.prog H Y (.call 205 [.agg [i64 a0.A,i64 a0.B,i64 a0.C,i64 a0.D],.agg [i64 a1.A,i64 a1.B,i64 a1.C,i64 a1.D],.agg [i64 a2.A,i64 a2.B,i64 a2.C,i64 a2.D]] (lk []) (i64 r) (lk [])):=by
 unfold Dimpl_det3 at h
 refine x_call (fn:=Tryz.f205) (c:=bodyOf Tryz.f205) (bs0:=[]) Tryz.func205 (by kernel_rfl) (by kernel_rfl) ?_
 obtain⟨v0,y0,h⟩:=bm h
 obtain⟨v1,y1,h⟩:=bm h
 obtain⟨v2,y2,h⟩:=bm h
 obtain⟨v3,y3,h⟩:=bm h
 replace h:=sj h;subst h
 exact x_end 18 [(5,.call [] [] (.agg [i64 v0.1,i64 v0.2.1,i64 v0.2.2]) []),(1,.call [] [] (.agg [i64 v1.1,i64 v1.2.1,i64 v1.2.2]) []),(1,.call [] [] (.agg [i64 v2.1,i64 v2.2.1,i64 v2.2.2]) []),(0,.call [] [] (i64 v3) [])] [] (ocons (Timpl_normal (Y:=Y) a0 _ y0) (ocons (Timpl_normal (Y:=Y) a1 _ y1) (ocons (Timpl_normal (Y:=Y) a2 _ y2) (ocons (Timpl_det (Y:=Y) v0 v1 v2 _ y3) onil)))) onil 
def Dimpl_clash4(n:Nat)(a0:Pl)(a1:Pl)(a2:Pl)(a3:Pl):Option Bool :=
 (Dimpl_det3 a1 a2 a3).bind fun v0=>(Dimpl_det3 a0 a2 a3).bind fun v1=>(Dimpl_det3 a0 a1 a3).bind fun v2=>(Dimpl_det3 a0 a1 a2).bind fun v3=>(Dimpl_weighs n [v0,w64 (0-v1),v2,w64 (0-v3)] [a0.D,a1.D,a2.D,a3.D]).bind fun v4=>some v4
theorem Timpl_clash4{Y}(n:Nat)(a0:Pl)(a1:Pl)(a2:Pl)(a3:Pl)(r:Bool)(h:Dimpl_clash4 n a0 a1 a2 a3=some r):Big Tryz.prog H Y (.call 179 [.agg [i64 a0.A,i64 a0.B,i64 a0.C,i64 a0.D],.agg [i64 a1.A,i64 a1.B,i64 a1.C,i64 a1.D],.agg [i64 a2.A,i64 a2.B,i64 a2.C,i64 a2.D],.agg [i64 a3.A,i64 a3.B,i64 a3.C,i64 a3.D]] (lk []) (bl r) (lk [])):=by
 unfold Dimpl_clash4 at h
 refine x_call (fn:=Tryz.f179) (c:=bodyOf Tryz.f179) (bs0:=[]) Tryz.func179 (by kernel_rfl) (by kernel_rfl) ?_
 obtain⟨v0,y0,h⟩:=bm h
 obtain⟨v1,y1,h⟩:=bm h
 obtain⟨v2,y2,h⟩:=bm h
 obtain⟨v3,y3,h⟩:=bm h
 obtain⟨v4,y4,h⟩:=bm h
 replace h:=sj h;subst h
 exact x_end 46 [(8,.call [] [] (i64 v0) []),(3,.call [] [] (i64 v1) []),(4,.call [] [] (i64 v2) []),(3,.call [] [] (i64 v3) []),(13,.call [] [(eInt).f [a0.D,a1.D,a2.D,a3.D],(eInt).f [v0,w64 (0-v1),v2,w64 (0-v3)]] (bl v4) [])] [] (ocons (Timpl_det3 (Y:=Y) a1 a2 a3 _ y0) (ocons (Timpl_det3 (Y:=Y) a0 a2 a3 _ y1) (ocons (Timpl_det3 (Y:=Y) a0 a1 a3 _ y2) (ocons (Timpl_det3 (Y:=Y) a0 a1 a2 _ y3) (ocons (Timpl_weighs (Y:=Y) n [v0,w64 (0-v1),v2,w64 (0-v3)] [a0.D,a1.D,a2.D,a3.D] _ y4) (ocons (len_row (L:=[v0,w64 (0-v1),v2,w64 (0-v3)]) eInt) (ocons (Enc.share eInt eInt sInt [v0,w64 (0-v1),v2,w64 (0-v3)]) (ocons (len_row (L:=[a0.D,a1.D,a2.D,a3.D]) eInt) (ocons (Enc.share eInt eInt sInt [a0.D,a1.D,a2.D,a3.D]) onil))))))))) onil 
def Dimpl_room_0(n:Nat)(rec1:Int→Option Bool)(_rec0:Int→Option Bool)(_t13:Int)(_t23:List Pl)(_t24 zah zai zaj zak:Int)(_t0:List Pl)(_t11:List Pl)(_t12 ze zf zs zt t25:Int)(t36:List Pl)(t37 zg zh zi zj:Int)(rec2:Int→Option Bool)(a:Int):Option Bool :=
 match a with
 | t38=>frk (decide (t38<t37)) ((lget t36 t38).bind fun v6=>(Dimpl_clash4 n v6 (Pl.mk zg zh zi zj) (Pl.mk zah zai zaj zak) (Pl.mk ze zf zs zt)).bind fun v7=>frk v7 (some false) (rec2 (w64 (t38+1)))) (rec1 (w64 (t25+1)))
theorem Timpl_room_0{Y}(n:Nat)(rec1:Int→Option Bool)(rec0:Int→Option Bool)(t13:Int)(t23:List Pl)(t24 zah zai zaj zak:Int)(t0:List Pl)(t11:List Pl)(t12 ze zf zs zt:Int)(hrec1:∀(a:Int) (r:Bool),rec1 a=some r→Wk Tryz.prog H Y 137 [.code (cp [1,0,1,0,0,1,1,0,0,1,1,1,0] (bodyOf Tryz.f137)),.blk 2,.blk 1,.code (cp [1,0,1,0,0,1,1,1] (bodyOf Tryz.f137)),.lp (cp [1,0,1,0] (bodyOf Tryz.f137)),.blk 0,.code (cp [1,1] (bodyOf Tryz.f137))] (FinX Tryz.prog Tryz.f137 [] (bl r) []) ⟨[(0,.sl false 4 t0.length ((ePl).f t0)),(3,.ptr 3 0),(6,.ptr 6 0),(11,.sl false 4 t11.length ((ePl).f t11)),(12,i64 t12),(13,i64 t13),(23,.sl false 4 t23.length ((ePl).f t23)),(24,i64 t24),(25,i64 a)],[(3,⟨true,0,[i64 ze,i64 zf,i64 zs,i64 zt]⟩),(6,⟨true,0,[i64 zah,i64 zai,i64 zaj,i64 zak]⟩)]⟩)(_hrec0:∀(a:Int) (r:Bool),rec0 a=some r→Wk Tryz.prog H Y 137 [.code (cp [1,0,1,0] (bodyOf Tryz.f137)),.blk 0,.code (cp [1,1] (bodyOf Tryz.f137))] (FinX Tryz.prog Tryz.f137 [] (bl r) []) ⟨[(0,.sl false 4 t0.length ((ePl).f t0)),(3,.ptr 3 0),(11,.sl false 4 t11.length ((ePl).f t11)),(12,i64 t12),(13,i64 a)],[(3,⟨true,0,[i64 ze,i64 zf,i64 zs,i64 zt]⟩)]⟩)(t25:Int)(t36:List Pl)(t37 zg zh zi zj:Int):∀(m:Nat) (a:Int) (r:Bool),loopN (Dimpl_room_0 n rec1 rec0 t13 t23 t24 zah zai zaj zak t0 t11 t12 ze zf zs zt t25 t36 t37 zg zh zi zj) m a=some r→Wk Tryz.prog H Y 137 [.code (cp [1,0,1,0,0,1,1,0,0,1,1,1,0,0,1,1,0,0,1,1,1,0] (bodyOf Tryz.f137)),.blk 4,.blk 3,.code (cp [1,0,1,0,0,1,1,0,0,1,1,1,0,0,1,1,1] (bodyOf Tryz.f137)),.lp (cp [1,0,1,0,0,1,1,0,0,1,1,1,0] (bodyOf Tryz.f137)),.blk 2,.blk 1,.code (cp [1,0,1,0,0,1,1,1] (bodyOf Tryz.f137)),.lp (cp [1,0,1,0] (bodyOf Tryz.f137)),.blk 0,.code (cp [1,1] (bodyOf Tryz.f137))] (FinX Tryz.prog Tryz.f137 [] (bl r) []) ⟨[(0,.sl false 4 t0.length ((ePl).f t0)),(3,.ptr 3 0),(6,.ptr 6 0),(8,.ptr 8 0),(11,.sl false 4 t11.length ((ePl).f t11)),(12,i64 t12),(13,i64 t13),(23,.sl false 4 t23.length ((ePl).f t23)),(24,i64 t24),(25,i64 t25),(36,.sl false 4 t36.length ((ePl).f t36)),(37,i64 t37),(38,i64 a)],[(3,⟨true,0,[i64 ze,i64 zf,i64 zs,i64 zt]⟩),(6,⟨true,0,[i64 zah,i64 zai,i64 zaj,i64 zak]⟩),(8,⟨true,0,[i64 zg,i64 zh,i64 zi,i64 zj]⟩)]⟩:=by
 refine loopN_ind (fun _rec2 hrec2 a r h=>?_)
 obtain⟨t38,rfl⟩:∃x,x=a:=⟨a,rfl⟩
 unfold Dimpl_room_0 at h
 refine x_frk 6 [] onil h (by kernel_rfl) (fun h=>?_) (fun h=>?_)
 ·obtain⟨v6,y6,h⟩:=bm h
  obtain⟨v7,y7,h⟩:=bm h
  refine x_frk 18 [(0,.val (.cptr (ePl.c v6++(ePl).f ((t36).drop (Int.toNat t38+1))))),(7,.call [] [] (bl v7) [])] (ocons (ix ePl y6) (ocons (Timpl_clash4 (Y:=Y) n v6 (Pl.mk zg zh zi zj) (Pl.mk zah zai zaj zak) (Pl.mk ze zf zs zt) _ y7) onil)) h (by kernel_rfl) (fun h=>?_) (fun h=>?_)
  ·replace h:=sj h;subst h
   exact x_end 4 [] [] onil onil 
  ·exact x_to 7 [] onil (hrec2 (w64 (t38+1)) r h) 
 ·exact x_to 7 [] onil (hrec1 (w64 (t25+1)) r h) 
def Dimpl_room_1(n:Nat)(rec0:Int→Option Bool)(t0:List Pl)(t11:List Pl)(t12 ze zf zs zt t13:Int)(t23:List Pl)(t24 zah zai zaj zak:Int)(rec1:Int→Option Bool)(a:Int):Option Bool :=
 match a with
 | t25=>frk (decide (t25<t24)) ((lget t23 t25).bind fun v3=>(Dimpl_clash3 n v3 (Pl.mk zah zai zaj zak) (Pl.mk ze zf zs zt)).bind fun v4=>frk v4 (some false) ((lsl t0 0 t25).bind fun v5=>loopN (Dimpl_room_0 n rec1 rec0 t13 t23 t24 zah zai zaj zak t0 t11 t12 ze zf zs zt t25 v5 (v5.length:Int) v3.A v3.B v3.C v3.D) n 0)) (rec0 (w64 (t13+1)))
theorem Timpl_room_1{Y}(n:Nat)(rec0:Int→Option Bool)(t0:List Pl)(t11:List Pl)(t12 ze zf zs zt:Int)(hrec0:∀(a:Int) (r:Bool),rec0 a=some r→Wk Tryz.prog H Y 137 [.code (cp [1,0,1,0] (bodyOf Tryz.f137)),.blk 0,.code (cp [1,1] (bodyOf Tryz.f137))] (FinX Tryz.prog Tryz.f137 [] (bl r) []) ⟨[(0,.sl false 4 t0.length ((ePl).f t0)),(3,.ptr 3 0),(11,.sl false 4 t11.length ((ePl).f t11)),(12,i64 t12),(13,i64 a)],[(3,⟨true,0,[i64 ze,i64 zf,i64 zs,i64 zt]⟩)]⟩)(t13:Int)(t23:List Pl)(t24 zah zai zaj zak:Int):∀(m:Nat) (a:Int) (r:Bool),loopN (Dimpl_room_1 n rec0 t0 t11 t12 ze zf zs zt t13 t23 t24 zah zai zaj zak) m a=some r→Wk Tryz.prog H Y 137 [.code (cp [1,0,1,0,0,1,1,0,0,1,1,1,0] (bodyOf Tryz.f137)),.blk 2,.blk 1,.code (cp [1,0,1,0,0,1,1,1] (bodyOf Tryz.f137)),.lp (cp [1,0,1,0] (bodyOf Tryz.f137)),.blk 0,.code (cp [1,1] (bodyOf Tryz.f137))] (FinX Tryz.prog Tryz.f137 [] (bl r) []) ⟨[(0,.sl false 4 t0.length ((ePl).f t0)),(3,.ptr 3 0),(6,.ptr 6 0),(11,.sl false 4 t11.length ((ePl).f t11)),(12,i64 t12),(13,i64 t13),(23,.sl false 4 t23.length ((ePl).f t23)),(24,i64 t24),(25,i64 a)],[(3,⟨true,0,[i64 ze,i64 zf,i64 zs,i64 zt]⟩),(6,⟨true,0,[i64 zah,i64 zai,i64 zaj,i64 zak]⟩)]⟩:=by
 refine loopN_ind (fun rec1 hrec1 a r h=>?_)
 obtain⟨t25,rfl⟩:∃x,x=a:=⟨a,rfl⟩
 unfold Dimpl_room_1 at h
 refine x_frk 6 [] onil h (by kernel_rfl) (fun h=>?_) (fun h=>?_)
 ·obtain⟨v3,y3,h⟩:=bm h
  obtain⟨v4,y4,h⟩:=bm h
  refine x_frk 20 [(1,.val (.cptr (ePl.c v3++(ePl).f ((t23).drop (Int.toNat t25+1))))),(7,.call [] [] (bl v4) [])] (ocons (ix ePl y3) (ocons (Timpl_clash3 (Y:=Y) n v3 (Pl.mk zah zai zaj zak) (Pl.mk ze zf zs zt) _ y4) onil)) h (by kernel_rfl) (fun h=>?_) (fun h=>?_)
  ·replace h:=sj h;subst h
   exact x_end 4 [] [] onil onil 
  ·obtain⟨v5,y5,h⟩:=bm h
   exact x_to 10 [(2,.val (.sl false 4 v5.length ((ePl).f v5)))] (ocons (slF ePl y5) onil) (Timpl_room_0 n rec1 rec0 t13 t23 t24 zah zai zaj zak t0 t11 t12 ze zf zs zt hrec1 hrec0 t25 v5 (v5.length:Int) v3.A v3.B v3.C v3.D n 0 r h) 
 ·exact x_to 7 [] onil (hrec0 (w64 (t13+1)) r h) 
def Dimpl_room_2(n:Nat)(t0:List Pl)(t11:List Pl)(t12 ze zf zs zt:Int)(rec0:Int→Option Bool)(a:Int):Option Bool :=
 match a with
 | t13=>frk (decide (t13<t12)) ((lget t11 t13).bind fun v0=>(Dimpl_clash2 n v0 (Pl.mk ze zf zs zt)).bind fun v1=>frk v1 (some false) ((lsl t0 0 t13).bind fun v2=>loopN (Dimpl_room_1 n rec0 t0 t11 t12 ze zf zs zt t13 v2 (v2.length:Int) v0.A v0.B v0.C v0.D) n 0)) (some true)
theorem Timpl_room_2{Y}(n:Nat)(t0:List Pl)(t11:List Pl)(t12 ze zf zs zt:Int):∀(m:Nat) (a:Int) (r:Bool),loopN (Dimpl_room_2 n t0 t11 t12 ze zf zs zt) m a=some r→Wk Tryz.prog H Y 137 [.code (cp [1,0,1,0] (bodyOf Tryz.f137)),.blk 0,.code (cp [1,1] (bodyOf Tryz.f137))] (FinX Tryz.prog Tryz.f137 [] (bl r) []) ⟨[(0,.sl false 4 t0.length ((ePl).f t0)),(3,.ptr 3 0),(11,.sl false 4 t11.length ((ePl).f t11)),(12,i64 t12),(13,i64 a)],[(3,⟨true,0,[i64 ze,i64 zf,i64 zs,i64 zt]⟩)]⟩:=by
 refine loopN_ind (fun rec0 hrec0 a r h=>?_)
 obtain⟨t13,rfl⟩:∃x,x=a:=⟨a,rfl⟩
 unfold Dimpl_room_2 at h
 refine x_frk 6 [] onil h (by kernel_rfl) (fun h=>?_) (fun h=>?_)
 ·obtain⟨v0,y0,h⟩:=bm h
  obtain⟨v1,y1,h⟩:=bm h
  refine x_frk 19 [(1,.val (.cptr (ePl.c v0++(ePl).f ((t11).drop (Int.toNat t13+1))))),(6,.call [] [] (bl v1) [])] (ocons (ix ePl y0) (ocons (Timpl_clash2 (Y:=Y) n v0 (Pl.mk ze zf zs zt) _ y1) onil)) h (by kernel_rfl) (fun h=>?_) (fun h=>?_)
  ·replace h:=sj h;subst h
   exact x_end 4 [] [] onil onil 
  ·obtain⟨v2,y2,h⟩:=bm h
   exact x_to 10 [(2,.val (.sl false 4 v2.length ((ePl).f v2)))] (ocons (slF ePl y2) onil) (Timpl_room_1 n rec0 t0 t11 t12 ze zf zs zt hrec0 t13 v2 (v2.length:Int) v0.A v0.B v0.C v0.D n 0 r h) 
 ·replace h:=sj h;subst h
  exact x_end 5 [] [] onil onil 
def Dimpl_room(n:Nat)(a0:(List Pl))(a1:Pl):Option Bool :=
 loopN (Dimpl_room_2 n a0 a0 (a0.length:Int) a1.A a1.B a1.C a1.D) n 0
theorem Timpl_room{Y}(n:Nat)(a0:(List Pl))(a1:Pl)(r:Bool)(h:Dimpl_room n a0 a1=some r):Big Tryz.prog H Y (.call 137 [.sl false 4 a0.length ((ePl).f a0),.agg [i64 a1.A,i64 a1.B,i64 a1.C,i64 a1.D]] (lk []) (bl r) (lk [])):=by
 unfold Dimpl_room at h
 refine x_call (fn:=Tryz.f137) (c:=bodyOf Tryz.f137) (bs0:=[]) Tryz.func137 (by kernel_rfl) (by kernel_rfl) ?_
 exact x_to 13 [] onil (Timpl_room_2 n a0 a0 (a0.length:Int) a1.A a1.B a1.C a1.D n 0 r h) 
def Dimpl_with(a0:(List Pl))(a1:Pl):Option (List Pl) :=
 chk (apB 32 (0+a0.length)) (chk (apB 32 (([]++a0).length+1)) (some (([]++a0)++[a1])))
theorem Timpl_with{Y}(a0:(List Pl))(a1:Pl)(r:(List Pl))(h:Dimpl_with a0 a1=some r):Big Tryz.prog H Y (.call 138 [.sl false 4 a0.length ((ePl).f a0),.agg [i64 a1.A,i64 a1.B,i64 a1.C,i64 a1.D]] (lk []) (.sl true 4 r.length ((ePl).f r)) (lk [])):=by
 unfold Dimpl_with at h
 refine x_call (fn:=Tryz.f138) (c:=bodyOf Tryz.f138) (bs0:=[]) Tryz.func138 (by kernel_rfl) (by kernel_rfl) ?_
 obtain⟨c0,h⟩:=chk_some h
 obtain⟨c1,h⟩:=chk_some h
 replace h:=sj h;subst h
 exact x_end 15 [(4,.app false (List.length ([]++a0)) ((ePl).f ([]++a0))),(2,.app false (List.length (([]++a0)++[a1])) ((ePl).f (([]++a0)++[a1])))] [] (ocons (len_row' (L:=[]) ePl) (ocons (app_one (L:=[]) (M:=a0) ePl c0) (ocons (app_new (L:=[]) (M:=a0) ePl) (ocons (app_m (L:=[]) (M:=a0) ePl rfl) (ocons (len_row' (L:=a0) ePl) (ocons (len_row' (L:=([]++a0)) ePl) (ocons (app_one (L:=([]++a0)) (M:=[a1]) ePl c1) (ocons (app_new (L:=([]++a0)) (M:=[a1]) ePl) (ocons (app_m (L:=([]++a0)) (M:=[a1]) ePl rfl) (ocons (len_row' (L:=[a1]) ePl) (ocons (Enc.noOwn ePl (fun _=>rfl) [a1]) onil))))))))))) (ocons (len_row (L:=(([]++a0)++[a1])) ePl) onil) 
def Dimpl_checker_right_1(_n:Nat)(self:(Int×Sol×(List Pl))→Option (Bool×Int))(t2:List Pl)(t59 _za:Bool)(zu zv zw zam:Int)(zax:List Sol)(zab zac zad zau zp:Int):Option (Bool×Int) :=
 frk t59 (some (false,zp)) ((lget zax 0).bind fun v5=>(Dimpl_with t2 (Pl.mk zu zv zw zam)).bind fun v6=>(self (zp,v5,v6)).bind fun v7=>frk v7.1 ((lget zax 1).bind fun v8=>(Dimpl_with t2 (Pl.mk zab zac zad zau)).bind fun v9=>(self (v7.2,v8,v9)).bind fun v10=>some v10) (some (false,v7.2)))
theorem Timpl_checker_right_1{Y}(n:Nat)(self:(Int×Sol×(List Pl))→Option (Bool×Int))(hself:∀(a:(Int×Sol×(List Pl))) (r:(Bool×Int)),self a=some r→Big Tryz.prog H Y (.call 74 [.ptr 1000 0,eF a.2.1,.sl false 4 a.2.2.length ((ePl).f a.2.2)] (lk [(1000,⟨true,0,[i64 a.1]⟩)]) (bl r.1) (lk [(1000,⟨true,0,[i64 r.2]⟩)])))(t2:List Pl)(t59 za:Bool)(zu zv zw zam:Int)(zax:List Sol)(zab zac zad zau zp:Int)(r:(Bool×Int))(h:Dimpl_checker_right_1 n self t2 t59 za zu zv zw zam zax zab zac zad zau zp=some r):Wk Tryz.prog H Y 74 [.code (cp [1,1,1,1,1,0,1] (bodyOf Tryz.f74)),.code (cp [1,1,1,1,1,1] (bodyOf Tryz.f74))] (FinX Tryz.prog Tryz.f74 [(1000,⟨true,0,[.bad]⟩)] (bl r.1) [(1000,⟨true,0,[i64 r.2]⟩)]) ⟨[(0,.ptr 1000 0),(2,.sl false 4 t2.length ((ePl).f t2)),(4,.ptr 4 0),(7,.ptr 7 0),(59,bl t59)],[(4,⟨true,0,[bl za,i64 zu,i64 zv,i64 zw,i64 zam,.sl false 6 zax.length ((eSol false).f zax)]⟩),(7,⟨true,0,[i64 zab,i64 zac,i64 zad,i64 zau]⟩),(1000,⟨true,0,[i64 zp]⟩)]⟩:=by
 unfold Dimpl_checker_right_1 at h
 refine x_frk 0 [] onil h (by kernel_rfl) (fun h=>?_) (fun h=>?_)
 ·replace h:=sj h;subst h
  exact x_end 4 [] [] onil onil 
 ·obtain⟨v5,y5,h⟩:=bm h
  obtain⟨v6,y6,h⟩:=bm h
  obtain⟨v7,y7,h⟩:=bm h
  refine x_frk 14 [(3,.val (.cptr ((eSol false).c v5++(eSol false).f ((zax).drop (Int.toNat 0+1))))),(4,.call [] [] (.sl false 4 v6.length ((ePl).f v6)) []),(0,.call [] [] (bl v7.1) [(1000,⟨true,0,[i64 v7.2]⟩)])] (ocons (ix (eSol false) y5) (ocons (shSl (L:=v6) ePl ePl sPl (Timpl_with (Y:=Y) t2 (Pl.mk zu zv zw zam) _ y6)) (ocons (hself (zp,v5,v6) _ y7) onil))) h (by kernel_rfl) (fun h=>?_) (fun h=>?_)
  ·obtain⟨v8,y8,h⟩:=bm h
   obtain⟨v9,y9,h⟩:=bm h
   obtain⟨v10,y10,h⟩:=bm h
   replace h:=sj h;subst h
   exact x_end 12 [(3,.val (.cptr ((eSol false).c v8++(eSol false).f ((zax).drop (Int.toNat 1+1))))),(3,.call [] [] (.sl false 4 v9.length ((ePl).f v9)) []),(0,.call [] [] (bl v10.1) [(1000,⟨true,0,[i64 v10.2]⟩)])] [] (ocons (ix (eSol false) y8) (ocons (shSl (L:=v9) ePl ePl sPl (Timpl_with (Y:=Y) t2 (Pl.mk zab zac zad zau) _ y9)) (ocons (hself (v7.2,v8,v9) _ y10) onil))) onil 
  ·replace h:=sj h;subst h
   exact x_end 12 [] [] onil onil 
def Dimpl_checker_right_0(n:Nat)(self:(Int×Sol×(List Pl))→Option (Bool×Int))(t2:List Pl)(t45 za:Bool)(zu zv zw zam:Int)(zax:List Sol)(zp:Int):Option (Bool×Int) :=
 frk t45 (some (false,zp)) ((Dimpl_flip (Pl.mk zu zv zw zam)).bind fun v2=>(Dimpl_room n t2 (Pl.mk zu zv zw zam)).bind fun v3=>frk (!v3) (some (false,zp)) ((Dimpl_room n t2 v2).bind fun v4=>Dimpl_checker_right_1 n self t2 (!v4) za zu zv zw zam zax v2.A v2.B v2.C v2.D zp))
theorem Timpl_checker_right_0{Y}(n:Nat)(self:(Int×Sol×(List Pl))→Option (Bool×Int))(hself:∀(a:(Int×Sol×(List Pl))) (r:(Bool×Int)),self a=some r→Big Tryz.prog H Y (.call 74 [.ptr 1000 0,eF a.2.1,.sl false 4 a.2.2.length ((ePl).f a.2.2)] (lk [(1000,⟨true,0,[i64 a.1]⟩)]) (bl r.1) (lk [(1000,⟨true,0,[i64 r.2]⟩)])))(t2:List Pl)(t45 za:Bool)(zu zv zw zam:Int)(zax:List Sol)(zp:Int)(r:(Bool×Int))(h:Dimpl_checker_right_0 n self t2 t45 za zu zv zw zam zax zp=some r):Wk Tryz.prog H Y 74 [.code (cp [1,1,1,0,1] (bodyOf Tryz.f74)),.code (cp [1,1,1,1] (bodyOf Tryz.f74))] (FinX Tryz.prog Tryz.f74 [(1000,⟨true,0,[.bad]⟩)] (bl r.1) [(1000,⟨true,0,[i64 r.2]⟩)]) ⟨[(0,.ptr 1000 0),(2,.sl false 4 t2.length ((ePl).f t2)),(4,.ptr 4 0),(45,bl t45)],[(4,⟨true,0,[bl za,i64 zu,i64 zv,i64 zw,i64 zam,.sl false 6 zax.length ((eSol false).f zax)]⟩),(1000,⟨true,0,[i64 zp]⟩)]⟩:=by
 unfold Dimpl_checker_right_0 at h
 refine x_frk 0 [] onil h (by kernel_rfl) (fun h=>?_) (fun h=>?_)
 ·replace h:=sj h;subst h
  exact x_end 4 [] [] onil onil 
 ·obtain⟨v2,y2,h⟩:=bm h
  obtain⟨v3,y3,h⟩:=bm h
  refine x_frk 18 [(2,.call [] [] (.agg [i64 v2.A,i64 v2.B,i64 v2.C,i64 v2.D]) []),(5,.call [] [] (bl v3) [])] (ocons (Timpl_flip (Y:=Y) (Pl.mk zu zv zw zam) _ y2) (ocons (Timpl_room (Y:=Y) n t2 (Pl.mk zu zv zw zam) _ y3) onil)) h (by kernel_rfl) (fun h=>?_) (fun h=>?_)
  ·replace h:=sj h;subst h
   exact x_end 11 [] [] onil onil 
  ·obtain⟨v4,y4,h⟩:=bm h
   exact x_to 6 [(2,.call [] [] (bl v4) [])] (ocons (Timpl_room (Y:=Y) n t2 v2 _ y4) onil) (Timpl_checker_right_1 n self hself t2 (!v4) za zu zv zw zam zax v2.A v2.B v2.C v2.D zp r h) 
def Dimpl_checker_right_b(n:Nat)(self:(Int×Sol×(List Pl))→Option (Bool×Int))(a:(Int×Sol×(List Pl))):Option (Bool×Int) :=
 match a with
 | (a0,a1,a2)=>(Dimpl_Solid_isLeaf a1).bind fun v0=>frk v0 (some ((a1.pl.A==0&&(a1.pl.B==0&&(a1.pl.C==0&&(a1.pl.D==0&&true)))),a0)) (frk a1.inn (some (false,w64 (a0+1))) (frk ((a1.kids.length:Int) != 2) (some (false,w64 (a0+1))) (frk (decide ((w64 (a0+1))>300)) (some (false,w64 (a0+1))) (frk (decide ((a2.length:Int)≥24)) (some (false,w64 (a0+1))) ((Dimpl_PlaneOk n a1.pl).bind fun v1=>Dimpl_checker_right_0 n self a2 (!v1) a1.inn a1.pl.A a1.pl.B a1.pl.C a1.pl.D a1.kids (w64 (a0+1)))))))
def Dimpl_checker_right(n:Nat)(a0:Int)(a1:Sol)(a2:(List Pl)):Option (Bool×Int):=loopN (Dimpl_checker_right_b n) n (a0,a1,a2)
theorem Timpl_checker_right_b{Y}(n:Nat):∀(m:Nat) (a:(Int×Sol×(List Pl))) (r:(Bool×Int)),loopN (Dimpl_checker_right_b n) m a=some r→∀(_:Unit),Big Tryz.prog H Y (.call 74 [.ptr 1000 0,eF a.2.1,.sl false 4 a.2.2.length ((ePl).f a.2.2)] (lk [(1000,⟨true,0,[i64 a.1]⟩)]) (bl r.1) (lk [(1000,⟨true,0,[i64 r.2]⟩)])):=by
 refine loopN_ind (fun self hs a r h=>?_)
 have hself:∀(a:(Int×Sol×(List Pl))) (r:(Bool×Int)),self a=some r→Big Tryz.prog H Y (.call 74 [.ptr 1000 0,eF a.2.1,.sl false 4 a.2.2.length ((ePl).f a.2.2)] (lk [(1000,⟨true,0,[i64 a.1]⟩)]) (bl r.1) (lk [(1000,⟨true,0,[i64 r.2]⟩)])):=fun a r h=>hs a r h ()
 intro _
 obtain⟨a0,a1,a2⟩:=a
 unfold Dimpl_checker_right_b at h
 refine x_call (fn:=Tryz.f74) (c:=bodyOf Tryz.f74) (bs0:=[(1000,⟨true,0,[.bad]⟩)]) Tryz.func74 (by kernel_rfl) (by kernel_rfl) ?_
 obtain⟨v0,y0,h⟩:=bm h
 refine x_frk 10 [(2,.call [] [] (bl v0) [])] (ocons (Timpl_Solid_isLeaf (Y:=Y) a1 [] _ y0) onil) h (by kernel_rfl) (fun h=>?_) (fun h=>?_)
 ·replace h:=sj h;subst h
  exact x_end 8 [] [] onil onil 
 ·refine x_frk 18 [] onil h (by kernel_rfl) (fun h=>?_) (fun h=>?_)
  ·replace h:=sj h;subst h
   exact x_end 29 [] [] onil onil 
  ·refine x_frk 6 [] onil h (by kernel_rfl) (fun h=>?_) (fun h=>?_)
   ·replace h:=sj h;subst h
    exact x_end 23 [] [] onil onil 
   ·refine x_frk 7 [] onil h (by kernel_rfl) (fun h=>?_) (fun h=>?_)
    ·replace h:=sj h;subst h
     exact x_end 16 [] [] onil onil 
    ·refine x_frk 5 [] onil h (by kernel_rfl) (fun h=>?_) (fun h=>?_)
     ·replace h:=sj h;subst h
      exact x_end 11 [] [] onil onil 
     ·obtain⟨v1,y1,h⟩:=bm h
      exact x_to 6 [(2,.call [] [] (bl v1) [])] (ocons (Timpl_PlaneOk (Y:=Y) n a1.pl _ y1) onil) (Timpl_checker_right_0 n self hself a2 (!v1) a1.inn a1.pl.A a1.pl.B a1.pl.C a1.pl.D a1.kids (w64 (a0+1)) r h) 
theorem Timpl_checker_right{Y}(n:Nat)(a0:Int)(a1:Sol)(a2:(List Pl))(r:(Bool×Int))(h:Dimpl_checker_right n a0 a1 a2=some r):Big Tryz.prog H Y (.call 74 [.ptr 1000 0,eF a1,.sl false 4 a2.length ((ePl).f a2)] (lk [(1000,⟨true,0,[i64 a0]⟩)]) (bl r.1) (lk [(1000,⟨true,0,[i64 r.2]⟩)])):=Timpl_checker_right_b n n (a0,a1,a2) r h ()
def Dimpl_SolidOk(n:Nat)(a0:Sol):Option Bool :=
 (Dimpl_checker_right n 0 a0 []).bind fun v0=>some v0.1
theorem Timpl_SolidOk{Y}(n:Nat)(a0:Sol)(r:Bool)(h:Dimpl_SolidOk n a0=some r):Big Tryz.prog H Y (.call 18 [eF a0] (lk []) (bl r) (lk [])):=by
 unfold Dimpl_SolidOk at h
 refine x_call (fn:=Tryz.f18) (c:=bodyOf Tryz.f18) (bs0:=[]) Tryz.func18 (by kernel_rfl) (by kernel_rfl) ?_
 obtain⟨v0,y0,h⟩:=bm h
 replace h:=sj h;subst h
 exact x_end 15 [(4,.call [(false,4)] [] (bl v0.1) [(1000,⟨true,0,[i64 v0.2]⟩)])] [] (ocons (Timpl_checker_right (Y:=Y) n 0 a0 [] _ y0) onil) onil 
def Dimpl_merger_leaf(a0:(Int×Int×Bool))(a1 a2:Bool):Option (Sol×(Int×Int×Bool)) :=
 frk (a0.1==1) (frk a1 ((Dimpl_Leaf a2).bind fun v0=>some (v0,a0)) ((Dimpl_Leaf false).bind fun v1=>some (v1,a0))) (frk (a0.1==2) (frk a1 ((Dimpl_Leaf true).bind fun v2=>some (v2,a0)) ((Dimpl_Leaf a2).bind fun v3=>some (v3,a0))) (frk (a0.1==3) (frk a1 ((Dimpl_Leaf (!a2)).bind fun v4=>some (v4,a0)) ((Dimpl_Leaf false).bind fun v5=>some (v5,a0))) ((Dimpl_Leaf (!(a1==a2))).bind fun v6=>some (v6,a0))))
theorem Timpl_merger_leaf{Y}(a0:(Int×Int×Bool))(a1 a2:Bool)(r:(Sol×(Int×Int×Bool)))(h:Dimpl_merger_leaf a0 a1 a2=some r):Big Tryz.prog H Y (.call 206 [.ptr 1000 0,bl a1,bl a2] (lk [(1000,⟨true,0,[i64 a0.1,i64 a0.2.1,bl a0.2.2]⟩)]) (eS r.1) (lk [(1000,⟨true,0,[i64 r.2.1,i64 r.2.2.1,bl r.2.2.2]⟩)])):=by
 unfold Dimpl_merger_leaf at h
 refine x_call (fn:=Tryz.f206) (c:=bodyOf Tryz.f206) (bs0:=[(1000,⟨true,0,[.bad,.bad,.bad]⟩)]) Tryz.func206 (by kernel_rfl) (by kernel_rfl) ?_
 refine x_frk 18 [] onil h (by kernel_rfl) (fun h=>?_) (fun h=>?_)
 ·refine x_frk 4 [] onil h (by kernel_rfl) (fun h=>?_) (fun h=>?_)
  ·obtain⟨v0,y0,h⟩:=bm h
   replace h:=sj h;subst h
   exact x_end 5 [(2,.call [] [] (eS v0) [])] [] (ocons (Timpl_Leaf (Y:=Y) a2 _ y0) onil) onil 
  ·obtain⟨v1,y1,h⟩:=bm h
   replace h:=sj h;subst h
   exact x_end 5 [(2,.call [] [] (eS v1) [])] [] (ocons (Timpl_Leaf (Y:=Y) false _ y1) onil) onil 
 ·refine x_frk 5 [] onil h (by kernel_rfl) (fun h=>?_) (fun h=>?_)
  ·refine x_frk 4 [] onil h (by kernel_rfl) (fun h=>?_) (fun h=>?_)
   ·obtain⟨v2,y2,h⟩:=bm h
    replace h:=sj h;subst h
    exact x_end 5 [(2,.call [] [] (eS v2) [])] [] (ocons (Timpl_Leaf (Y:=Y) true _ y2) onil) onil 
   ·obtain⟨v3,y3,h⟩:=bm h
    replace h:=sj h;subst h
    exact x_end 5 [(2,.call [] [] (eS v3) [])] [] (ocons (Timpl_Leaf (Y:=Y) a2 _ y3) onil) onil 
  ·refine x_frk 5 [] onil h (by kernel_rfl) (fun h=>?_) (fun h=>?_)
   ·refine x_frk 4 [] onil h (by kernel_rfl) (fun h=>?_) (fun h=>?_)
    ·obtain⟨v4,y4,h⟩:=bm h
     replace h:=sj h;subst h
     exact x_end 6 [(3,.call [] [] (eS v4) [])] [] (ocons (Timpl_Leaf (Y:=Y) (!a2) _ y4) onil) onil 
    ·obtain⟨v5,y5,h⟩:=bm h
     replace h:=sj h;subst h
     exact x_end 6 [(3,.call [] [] (eS v5) [])] [] (ocons (Timpl_Leaf (Y:=Y) false _ y5) onil) onil 
   ·obtain⟨v6,y6,h⟩:=bm h
    replace h:=sj h;subst h
    exact x_end 10 [(3,.call [] [] (eS v6) [])] [] (ocons (Timpl_Leaf (Y:=Y) (!(a1==a2)) _ y6) onil) onil 
def Dimpl_nodeo1o2(a0:Pl)(a1:Sol)(a2:Sol):Option Sol :=
 some (Sol.mk false a0 [a1,a2])
theorem Timpl_nodeo1o2{Y}(a0:Pl)(a1:Sol)(a2:Sol)(r:Sol)(h:Dimpl_nodeo1o2 a0 a1 a2=some r):Big Tryz.prog H Y (.call 101 [.agg [i64 a0.A,i64 a0.B,i64 a0.C,i64 a0.D],eS a1,eS a2] (lk []) (eS r) (lk [])):=by
 unfold Dimpl_nodeo1o2 at h
 refine x_call (fn:=Tryz.f101) (c:=bodyOf Tryz.f101) (bs0:=[]) Tryz.func101 (by kernel_rfl) (by kernel_rfl) ?_
 replace h:=sj h;subst h
 exact x_end 17 [(8,.fixb 10 ⟨true,6,(eSol true).f [a1,a2]⟩)] [] (ocons (boxSol true true [a1,a2]) onil) (ocons (len_row (L:=[a1,a2]) (eSol true)) onil) 
def Dimpl_merger_joino2o3_1(zx zy zz zaa:Int)(zah:Bool)(zai zaj zak zal:Int)(zat:List Sol)(zab:Bool)(zac zad zau zav:Int)(zaw:List Sol)(_zg:Bool)(_zh _zi _zj _zay zp zq:Int)(zr:Bool):Option (Sol×(Int×Int×Bool)) :=
 (Dimpl_nodeo1o2 (Pl.mk zx zy zz zaa) (Sol.mk zah (Pl.mk zai zaj zak zal) zat) (Sol.mk zab (Pl.mk zac zad zau zav) zaw)).bind fun v3=>some (v3,(zp,zq,zr))
theorem Timpl_merger_joino2o3_1{Y}(zx zy zz zaa:Int)(zah:Bool)(zai zaj zak zal:Int)(zat:List Sol)(zab:Bool)(zac zad zau zav:Int)(zaw:List Sol)(zg:Bool)(zh zi zj zay zp zq:Int)(zr:Bool)(r:(Sol×(Int×Int×Bool)))(h:Dimpl_merger_joino2o3_1 zx zy zz zaa zah zai zaj zak zal zat zab zac zad zau zav zaw zg zh zi zj zay zp zq zr=some r):Wk Tryz.prog H Y 184 [.code (cp [1,1,1,1,0] (bodyOf Tryz.f184)),.code (cp [1,1,1,1,1] (bodyOf Tryz.f184))] (FinX Tryz.prog Tryz.f184 [(1000,⟨true,0,[.bad,.bad,.bad]⟩)] (eS r.1) [(1000,⟨true,0,[i64 r.2.1,i64 r.2.2.1,bl r.2.2.2]⟩)]) ⟨[(5,.ptr 5 0),(6,.ptr 6 0),(7,.ptr 7 0),(8,.ptr 8 0)],[(5,⟨true,0,[i64 zx,i64 zy,i64 zz,i64 zaa]⟩),(6,⟨true,0,[bl zah,i64 zai,i64 zaj,i64 zak,i64 zal,.sl true 6 zat.length ((eSol true).f zat)]⟩),(7,⟨true,0,[bl zab,i64 zac,i64 zad,i64 zau,i64 zav,.sl true 6 zaw.length ((eSol true).f zaw)]⟩),(8,⟨true,0,[bl zg,i64 zh,i64 zi,i64 zj,i64 zay,.nil]⟩),(1000,⟨true,0,[i64 zp,i64 zq,bl zr]⟩)]⟩:=by
 unfold Dimpl_merger_joino2o3_1 at h
 obtain⟨v3,y3,h⟩:=bm h
 replace h:=sj h;subst h
 exact x_end 7 [(3,.call [] [] (eS v3) [])] [] (ocons (Timpl_nodeo1o2 (Y:=Y) (Pl.mk zx zy zz zaa) (Sol.mk zah (Pl.mk zai zaj zak zal) zat) (Sol.mk zab (Pl.mk zac zad zau zav) zaw) _ y3) onil) onil 
def Dimpl_merger_joino2o3_0(t19:Bool)(zx zy zz zaa:Int)(zah:Bool)(zai zaj zak zal:Int)(zat:List Sol)(zab:Bool)(zac zad zau zav:Int)(zaw:List Sol)(zg:Bool)(zh zi zj zay zp zq:Int)(zr:Bool):Option (Sol×(Int×Int×Bool)) :=
 frk t19 ((Dimpl_Leaf zah).bind fun v2=>some (v2,(zp,zq,zr))) (frk zr (Dimpl_merger_joino2o3_1 zx zy zz zaa zah zai zaj zak zal zat zab zac zad zau zav zaw zg zh zi zj zay zp (w64 (zq+1)) true) (Dimpl_merger_joino2o3_1 zx zy zz zaa zah zai zaj zak zal zat zab zac zad zau zav zaw zg zh zi zj zay zp (w64 (zq+1)) (decide ((w64 (zq+1))>300))))
theorem Timpl_merger_joino2o3_0{Y}(t19:Bool)(zx zy zz zaa:Int)(zah:Bool)(zai zaj zak zal:Int)(zat:List Sol)(zab:Bool)(zac zad zau zav:Int)(zaw:List Sol)(zg:Bool)(zh zi zj zay zp zq:Int)(zr:Bool)(r:(Sol×(Int×Int×Bool)))(h:Dimpl_merger_joino2o3_0 t19 zx zy zz zaa zah zai zaj zak zal zat zab zac zad zau zav zaw zg zh zi zj zay zp zq zr=some r):Wk Tryz.prog H Y 184 [.code (cp [1,0,1] (bodyOf Tryz.f184)),.code (cp [1,1] (bodyOf Tryz.f184))] (FinX Tryz.prog Tryz.f184 [(1000,⟨true,0,[.bad,.bad,.bad]⟩)] (eS r.1) [(1000,⟨true,0,[i64 r.2.1,i64 r.2.2.1,bl r.2.2.2]⟩)]) ⟨[(0,.ptr 1000 0),(5,.ptr 5 0),(6,.ptr 6 0),(7,.ptr 7 0),(8,.ptr 8 0),(19,bl t19)],[(5,⟨true,0,[i64 zx,i64 zy,i64 zz,i64 zaa]⟩),(6,⟨true,0,[bl zah,i64 zai,i64 zaj,i64 zak,i64 zal,.sl true 6 zat.length ((eSol true).f zat)]⟩),(7,⟨true,0,[bl zab,i64 zac,i64 zad,i64 zau,i64 zav,.sl true 6 zaw.length ((eSol true).f zaw)]⟩),(8,⟨true,0,[bl zg,i64 zh,i64 zi,i64 zj,i64 zay,.nil]⟩),(1000,⟨true,0,[i64 zp,i64 zq,bl zr]⟩)]⟩:=by
 unfold Dimpl_merger_joino2o3_0 at h
 refine x_frk 0 [] onil h (by kernel_rfl) (fun h=>?_) (fun h=>?_)
 ·obtain⟨v2,y2,h⟩:=bm h
  replace h:=sj h;subst h
  exact x_end 7 [(2,.call [] [] (eS v2) [])] [] (ocons (Timpl_Leaf (Y:=Y) zah _ y2) onil) onil 
 ·refine x_frk 20 [] onil h (by kernel_rfl) (fun h=>?_) (fun h=>?_)
  ·exact x_to 11 [] onil (Timpl_merger_joino2o3_1 zx zy zz zaa zah zai zaj zak zal zat zab zac zad zau zav zaw zg zh zi zj zay zp (w64 (zq+1)) true r h) 
  ·exact x_to 11 [] onil (Timpl_merger_joino2o3_1 zx zy zz zaa zah zai zaj zak zal zat zab zac zad zau zav zaw zg zh zi zj zay zp (w64 (zq+1)) (decide ((w64 (zq+1))>300)) r h) 
def Dimpl_merger_joino2o3_2(zx zy zz zaa:Int)(zah:Bool)(zai zaj zak zal:Int)(zat:List Sol)(zab:Bool)(zac zad zau zav:Int)(zaw:List Sol)(zg:Bool)(zh zi zj zay zp zq:Int)(zr:Bool):Option (Sol×(Int×Int×Bool)) :=
 frk zr (Dimpl_merger_joino2o3_1 zx zy zz zaa zah zai zaj zak zal zat zab zac zad zau zav zaw zg zh zi zj zay zp zq true) (Dimpl_merger_joino2o3_1 zx zy zz zaa zah zai zaj zak zal zat zab zac zad zau zav zaw zg zh zi zj zay zp zq (decide (zq>300)))
theorem Timpl_merger_joino2o3_2{Y}(zx zy zz zaa:Int)(zah:Bool)(zai zaj zak zal:Int)(zat:List Sol)(zab:Bool)(zac zad zau zav:Int)(zaw:List Sol)(zg:Bool)(zh zi zj zay zp zq:Int)(zr:Bool)(r:(Sol×(Int×Int×Bool)))(h:Dimpl_merger_joino2o3_2 zx zy zz zaa zah zai zaj zak zal zat zab zac zad zau zav zaw zg zh zi zj zay zp zq zr=some r):Wk Tryz.prog H Y 184 [.code (cp [1,1,1,0] (bodyOf Tryz.f184)),.code (cp [1,1,1,1] (bodyOf Tryz.f184))] (FinX Tryz.prog Tryz.f184 [(1000,⟨true,0,[.bad,.bad,.bad]⟩)] (eS r.1) [(1000,⟨true,0,[i64 r.2.1,i64 r.2.2.1,bl r.2.2.2]⟩)]) ⟨[(0,.ptr 1000 0),(5,.ptr 5 0),(6,.ptr 6 0),(7,.ptr 7 0),(8,.ptr 8 0)],[(5,⟨true,0,[i64 zx,i64 zy,i64 zz,i64 zaa]⟩),(6,⟨true,0,[bl zah,i64 zai,i64 zaj,i64 zak,i64 zal,.sl true 6 zat.length ((eSol true).f zat)]⟩),(7,⟨true,0,[bl zab,i64 zac,i64 zad,i64 zau,i64 zav,.sl true 6 zaw.length ((eSol true).f zaw)]⟩),(8,⟨true,0,[bl zg,i64 zh,i64 zi,i64 zj,i64 zay,.nil]⟩),(1000,⟨true,0,[i64 zp,i64 zq,bl zr]⟩)]⟩:=by
 unfold Dimpl_merger_joino2o3_2 at h
 refine x_frk 7 [] onil h (by kernel_rfl) (fun h=>?_) (fun h=>?_)
 ·exact x_to 11 [] onil (Timpl_merger_joino2o3_1 zx zy zz zaa zah zai zaj zak zal zat zab zac zad zau zav zaw zg zh zi zj zay zp zq true r h) 
 ·exact x_to 11 [] onil (Timpl_merger_joino2o3_1 zx zy zz zaa zah zai zaj zak zal zat zab zac zad zau zav zaw zg zh zi zj zay zp zq (decide (zq>300)) r h) 
def Dimpl_merger_joino2o3(a0:(Int×Int×Bool))(a1:Pl)(a2:Sol)(a3:Sol):Option (Sol×(Int×Int×Bool)) :=
 (Dimpl_Solid_isLeaf a2).bind fun v0=>frk v0 ((Dimpl_Solid_isLeaf a3).bind fun v1=>frk v1 (Dimpl_merger_joino2o3_0 (a2.inn==a3.inn) a1.A a1.B a1.C a1.D a2.inn a2.pl.A a2.pl.B a2.pl.C a2.pl.D a2.kids a3.inn a3.pl.A a3.pl.B a3.pl.C a3.pl.D a3.kids false 0 0 0 0 a0.1 a0.2.1 a0.2.2) (Dimpl_merger_joino2o3_2 a1.A a1.B a1.C a1.D a2.inn a2.pl.A a2.pl.B a2.pl.C a2.pl.D a2.kids a3.inn a3.pl.A a3.pl.B a3.pl.C a3.pl.D a3.kids false 0 0 0 0 a0.1 (w64 (a0.2.1+1)) a0.2.2)) (Dimpl_merger_joino2o3_2 a1.A a1.B a1.C a1.D a2.inn a2.pl.A a2.pl.B a2.pl.C a2.pl.D a2.kids a3.inn a3.pl.A a3.pl.B a3.pl.C a3.pl.D a3.kids false 0 0 0 0 a0.1 (w64 (a0.2.1+1)) a0.2.2)
theorem Timpl_merger_joino2o3{Y}(a0:(Int×Int×Bool))(a1:Pl)(a2:Sol)(a3:Sol)(r:(Sol×(Int×Int×Bool)))(h:Dimpl_merger_joino2o3 a0 a1 a2 a3=some r):Big Tryz.prog H Y (.call 184 [.ptr 1000 0,.agg [i64 a1.A,i64 a1.B,i64 a1.C,i64 a1.D],eS a2,eS a3] (lk [(1000,⟨true,0,[i64 a0.1,i64 a0.2.1,bl a0.2.2]⟩)]) (eS r.1) (lk [(1000,⟨true,0,[i64 r.2.1,i64 r.2.2.1,bl r.2.2.2]⟩)])):=by
 unfold Dimpl_merger_joino2o3 at h
 refine x_call (fn:=Tryz.f184) (c:=bodyOf Tryz.f184) (bs0:=[(1000,⟨true,0,[.bad,.bad,.bad]⟩)]) Tryz.func184 (by kernel_rfl) (by kernel_rfl) ?_
 obtain⟨v0,y0,h⟩:=bm h
 refine x_frk 12 [(4,.call [] [(eSol false).f a2.kids] (bl v0) [])] (ocons (Timpl_Solid_isLeaf (Y:=Y) a2 [] _ y0) (ocons (Enc.share (eSol true) (eSol false) (sSol true) a2.kids) onil)) h (by kernel_rfl) (fun h=>?_) (fun h=>?_)
 ·obtain⟨v1,y1,h⟩:=bm h
  refine x_frk 3 [(0,.call [] [(eSol false).f a3.kids] (bl v1) [])] (ocons (Timpl_Solid_isLeaf (Y:=Y) a3 [] _ y1) (ocons (Enc.share (eSol true) (eSol false) (sSol true) a3.kids) onil)) h (by kernel_rfl) (fun h=>?_) (fun h=>?_)
  ·exact x_to 7 [] onil (Timpl_merger_joino2o3_0 (a2.inn==a3.inn) a1.A a1.B a1.C a1.D a2.inn a2.pl.A a2.pl.B a2.pl.C a2.pl.D a2.kids a3.inn a3.pl.A a3.pl.B a3.pl.C a3.pl.D a3.kids false 0 0 0 0 a0.1 a0.2.1 a0.2.2 r h) 
  ·exact x_to 21 [] onil (Timpl_merger_joino2o3_2 a1.A a1.B a1.C a1.D a2.inn a2.pl.A a2.pl.B a2.pl.C a2.pl.D a2.kids a3.inn a3.pl.A a3.pl.B a3.pl.C a3.pl.D a3.kids false 0 0 0 0 a0.1 (w64 (a0.2.1+1)) a0.2.2 r h) 
 ·exact x_to 24 [] onil (Timpl_merger_joino2o3_2 a1.A a1.B a1.C a1.D a2.inn a2.pl.A a2.pl.B a2.pl.C a2.pl.D a2.kids a3.inn a3.pl.A a3.pl.B a3.pl.C a3.pl.D a3.kids false 0 0 0 0 a0.1 (w64 (a0.2.1+1)) a0.2.2 r h) 
def Dimpl_merger_take_b(n:Nat)(self1:((Int×Int×Bool)×Bool×Sol×(List Pl))→Option (Sol×(Int×Int×Bool)))(a:((Int×Int×Bool)×Bool×Sol×(List Pl))):Option (Sol×(Int×Int×Bool)) :=
 match a with
 | (a0,a1,a2,a3)=>frk a0.2.2 (some ((Sol.mk false (Pl.mk 0 0 0 0) []),a0)) ((Dimpl_Solid_isLeaf a2).bind fun v0=>frk v0 ((Dimpl_merger_leaf a0 a1 a2.inn).bind fun v1=>some v1) ((Dimpl_flip a2.pl).bind fun v2=>(Dimpl_room n a3 v2).bind fun v3=>frk (!v3) ((lget a2.kids 0).bind fun v4=>(self1 (a0,a1,v4,a3)).bind fun v5=>some v5) ((Dimpl_room n a3 a2.pl).bind fun v6=>frk (!v6) ((lget a2.kids 1).bind fun v7=>(self1 (a0,a1,v7,a3)).bind fun v8=>some v8) (frk (decide ((a3.length:Int)≥24)) (some ((Sol.mk false (Pl.mk 0 0 0 0) []),(a0.1,a0.2.1,true))) ((lget a2.kids 0).bind fun v9=>(Dimpl_with a3 a2.pl).bind fun v10=>(self1 (a0,a1,v9,v10)).bind fun v11=>(lget a2.kids 1).bind fun v12=>(Dimpl_with a3 v2).bind fun v13=>(self1 (v11.2,a1,v12,v13)).bind fun v14=>(Dimpl_merger_joino2o3 v14.2 a2.pl v11.1 v14.1).bind fun v15=>some v15)))))
def Dimpl_merger_take(n:Nat)(a0:(Int×Int×Bool))(a1:Bool)(a2:Sol)(a3:(List Pl)):Option (Sol×(Int×Int×Bool)):=loopN (Dimpl_merger_take_b n) n (a0,a1,a2,a3)
theorem Timpl_merger_take_b{Y}(n:Nat):∀(m:Nat) (a:((Int×Int×Bool)×Bool×Sol×(List Pl))) (r:(Sol×(Int×Int×Bool))),loopN (Dimpl_merger_take_b n) m a=some r→∀(_:Unit),Big Tryz.prog H Y (.call 183 [.ptr 1000 0,bl a.2.1,eF a.2.2.1,.sl false 4 a.2.2.2.length ((ePl).f a.2.2.2)] (lk [(1000,⟨true,0,[i64 a.1.1,i64 a.1.2.1,bl a.1.2.2]⟩)]) (eS r.1) (lk [(1000,⟨true,0,[i64 r.2.1,i64 r.2.2.1,bl r.2.2.2]⟩)])):=by
 refine loopN_ind (fun self1 hs a r h=>?_)
 have hself1:∀(a:((Int×Int×Bool)×Bool×Sol×(List Pl))) (r:(Sol×(Int×Int×Bool))),self1 a=some r→Big Tryz.prog H Y (.call 183 [.ptr 1000 0,bl a.2.1,eF a.2.2.1,.sl false 4 a.2.2.2.length ((ePl).f a.2.2.2)] (lk [(1000,⟨true,0,[i64 a.1.1,i64 a.1.2.1,bl a.1.2.2]⟩)]) (eS r.1) (lk [(1000,⟨true,0,[i64 r.2.1,i64 r.2.2.1,bl r.2.2.2]⟩)])):=fun a r h=>hs a r h ()
 intro _
 obtain⟨a0,a1,a2,a3⟩:=a
 unfold Dimpl_merger_take_b at h
 refine x_call (fn:=Tryz.f183) (c:=bodyOf Tryz.f183) (bs0:=[(1000,⟨true,0,[.bad,.bad,.bad]⟩)]) Tryz.func183 (by kernel_rfl) (by kernel_rfl) ?_
 refine x_frk 13 [] onil h (by kernel_rfl) (fun h=>?_) (fun h=>?_)
 ·replace h:=sj h;subst h
  exact x_end 5 [] [(true,6)] onil onil 
 ·obtain⟨v0,y0,h⟩:=bm h
  refine x_frk 6 [(0,.call [] [] (bl v0) [])] (ocons (Timpl_Solid_isLeaf (Y:=Y) a2 [] _ y0) onil) h (by kernel_rfl) (fun h=>?_) (fun h=>?_)
  ·obtain⟨v1,y1,h⟩:=bm h
   replace h:=sj h;subst h
   exact x_end 9 [(4,.call [] [] (eS v1.1) [(1000,⟨true,0,[i64 v1.2.1,i64 v1.2.2.1,bl v1.2.2.2]⟩)])] [] (ocons (Timpl_merger_leaf (Y:=Y) a0 a1 a2.inn _ y1) onil) onil 
  ·obtain⟨v2,y2,h⟩:=bm h
   obtain⟨v3,y3,h⟩:=bm h
   refine x_frk 19 [(2,.call [] [] (.agg [i64 v2.A,i64 v2.B,i64 v2.C,i64 v2.D]) []),(4,.call [] [] (bl v3) [])] (ocons (Timpl_flip (Y:=Y) a2.pl _ y2) (ocons (Timpl_room (Y:=Y) n a3 v2 _ y3) onil)) h (by kernel_rfl) (fun h=>?_) (fun h=>?_)
   ·obtain⟨v4,y4,h⟩:=bm h
    obtain⟨v5,y5,h⟩:=bm h
    replace h:=sj h;subst h
    exact x_end 12 [(4,.val (.cptr ((eSol false).c v4++(eSol false).f ((a2.kids).drop (Int.toNat 0+1))))),(2,.call [] [] (eS v5.1) [(1000,⟨true,0,[i64 v5.2.1,i64 v5.2.2.1,bl v5.2.2.2]⟩)])] [] (ocons (ix (eSol false) y4) (ocons (hself1 (a0,a1,v4,a3) _ y5) onil)) onil 
   ·obtain⟨v6,y6,h⟩:=bm h
    refine x_frk 9 [(3,.call [] [] (bl v6) [])] (ocons (Timpl_room (Y:=Y) n a3 a2.pl _ y6) onil) h (by kernel_rfl) (fun h=>?_) (fun h=>?_)
    ·obtain⟨v7,y7,h⟩:=bm h
     obtain⟨v8,y8,h⟩:=bm h
     replace h:=sj h;subst h
     exact x_end 12 [(4,.val (.cptr ((eSol false).c v7++(eSol false).f ((a2.kids).drop (Int.toNat 1+1))))),(2,.call [] [] (eS v8.1) [(1000,⟨true,0,[i64 v8.2.1,i64 v8.2.2.1,bl v8.2.2.2]⟩)])] [] (ocons (ix (eSol false) y7) (ocons (hself1 (a0,a1,v7,a3) _ y8) onil)) onil 
    ·refine x_frk 7 [] onil h (by kernel_rfl) (fun h=>?_) (fun h=>?_)
     ·replace h:=sj h;subst h
      exact x_end 12 [] [(true,6)] onil onil 
     ·obtain⟨v9,y9,h⟩:=bm h
      obtain⟨v10,y10,h⟩:=bm h
      obtain⟨v11,y11,h⟩:=bm h
      obtain⟨v12,y12,h⟩:=bm h
      obtain⟨v13,y13,h⟩:=bm h
      obtain⟨v14,y14,h⟩:=bm h
      obtain⟨v15,y15,h⟩:=bm h
      replace h:=sj h;subst h
      exact x_end 43 [(4,.val (.cptr ((eSol false).c v9++(eSol false).f ((a2.kids).drop (Int.toNat 0+1))))),(4,.call [] [] (.sl false 4 v10.length ((ePl).f v10)) []),(0,.call [] [] (eS v11.1) [(1000,⟨true,0,[i64 v11.2.1,i64 v11.2.2.1,bl v11.2.2.2]⟩)]),(6,.val (.cptr ((eSol false).c v12++(eSol false).f ((a2.kids).drop (Int.toNat 1+1))))),(3,.call [] [] (.sl false 4 v13.length ((ePl).f v13)) []),(0,.call [] [] (eS v14.1) [(1000,⟨true,0,[i64 v14.2.1,i64 v14.2.2.1,bl v14.2.2.2]⟩)]),(7,.call [] [] (eS v15.1) [(1000,⟨true,0,[i64 v15.2.1,i64 v15.2.2.1,bl v15.2.2.2]⟩)])] [] (ocons (ix (eSol false) y9) (ocons (shSl (L:=v10) ePl ePl sPl (Timpl_with (Y:=Y) a3 a2.pl _ y10)) (ocons (hself1 (a0,a1,v9,v10) _ y11) (ocons (ix (eSol false) y12) (ocons (shSl (L:=v13) ePl ePl sPl (Timpl_with (Y:=Y) a3 v2 _ y13)) (ocons (hself1 (v11.2,a1,v12,v13) _ y14) (ocons (Timpl_merger_joino2o3 (Y:=Y) v14.2 a2.pl v11.1 v14.1 _ y15) onil))))))) onil 
theorem Timpl_merger_take{Y}(n:Nat)(a0:(Int×Int×Bool))(a1:Bool)(a2:Sol)(a3:(List Pl))(r:(Sol×(Int×Int×Bool)))(h:Dimpl_merger_take n a0 a1 a2 a3=some r):Big Tryz.prog H Y (.call 183 [.ptr 1000 0,bl a1,eF a2,.sl false 4 a3.length ((ePl).f a3)] (lk [(1000,⟨true,0,[i64 a0.1,i64 a0.2.1,bl a0.2.2]⟩)]) (eS r.1) (lk [(1000,⟨true,0,[i64 r.2.1,i64 r.2.2.1,bl r.2.2.2]⟩)])):=Timpl_merger_take_b n n (a0,a1,a2,a3) r h ()
def Dimpl_merger_put_b(n:Nat)(self:((Int×Int×Bool)×Sol×Sol×(List Pl))→Option (Sol×(Int×Int×Bool)))(a:((Int×Int×Bool)×Sol×Sol×(List Pl))):Option (Sol×(Int×Int×Bool)) :=
 match a with
 | (a0,a1,a2,a3)=>frk a0.2.2 (some ((Sol.mk false (Pl.mk 0 0 0 0) []),a0)) ((Dimpl_Solid_isLeaf a1).bind fun v0=>frk v0 ((Dimpl_merger_take n a0 a1.inn a2 a3).bind fun v1=>some v1) ((lget a1.kids 0).bind fun v2=>(Dimpl_with a3 a1.pl).bind fun v3=>(self (a0,v2,a2,v3)).bind fun v4=>(lget a1.kids 1).bind fun v5=>(Dimpl_flip a1.pl).bind fun v6=>(Dimpl_with a3 v6).bind fun v7=>(self (v4.2,v5,a2,v7)).bind fun v8=>(Dimpl_merger_joino2o3 v8.2 a1.pl v4.1 v8.1).bind fun v9=>some v9))
def Dimpl_merger_put(n:Nat)(a0:(Int×Int×Bool))(a1:Sol)(a2:Sol)(a3:(List Pl)):Option (Sol×(Int×Int×Bool)):=loopN (Dimpl_merger_put_b n) n (a0,a1,a2,a3)
theorem Timpl_merger_put_b{Y}(n:Nat):∀(m:Nat) (a:((Int×Int×Bool)×Sol×Sol×(List Pl))) (r:(Sol×(Int×Int×Bool))),loopN (Dimpl_merger_put_b n) m a=some r→∀(_:Unit),Big Tryz.prog H Y (.call 147 [.ptr 1000 0,eF a.2.1,eF a.2.2.1,.sl false 4 a.2.2.2.length ((ePl).f a.2.2.2)] (lk [(1000,⟨true,0,[i64 a.1.1,i64 a.1.2.1,bl a.1.2.2]⟩)]) (eS r.1) (lk [(1000,⟨true,0,[i64 r.2.1,i64 r.2.2.1,bl r.2.2.2]⟩)])):=by
 refine loopN_ind (fun self hs a r h=>?_)
 have hself:∀(a:((Int×Int×Bool)×Sol×Sol×(List Pl))) (r:(Sol×(Int×Int×Bool))),self a=some r→Big Tryz.prog H Y (.call 147 [.ptr 1000 0,eF a.2.1,eF a.2.2.1,.sl false 4 a.2.2.2.length ((ePl).f a.2.2.2)] (lk [(1000,⟨true,0,[i64 a.1.1,i64 a.1.2.1,bl a.1.2.2]⟩)]) (eS r.1) (lk [(1000,⟨true,0,[i64 r.2.1,i64 r.2.2.1,bl r.2.2.2]⟩)])):=fun a r h=>hs a r h ()
 intro _
 obtain⟨a0,a1,a2,a3⟩:=a
 unfold Dimpl_merger_put_b at h
 refine x_call (fn:=Tryz.f147) (c:=bodyOf Tryz.f147) (bs0:=[(1000,⟨true,0,[.bad,.bad,.bad]⟩)]) Tryz.func147 (by kernel_rfl) (by kernel_rfl) ?_
 refine x_frk 14 [] onil h (by kernel_rfl) (fun h=>?_) (fun h=>?_)
 ·replace h:=sj h;subst h
  exact x_end 5 [] [(true,6)] onil onil 
 ·obtain⟨v0,y0,h⟩:=bm h
  refine x_frk 6 [(0,.call [] [] (bl v0) [])] (ocons (Timpl_Solid_isLeaf (Y:=Y) a1 [] _ y0) onil) h (by kernel_rfl) (fun h=>?_) (fun h=>?_)
  ·obtain⟨v1,y1,h⟩:=bm h
   replace h:=sj h;subst h
   exact x_end 10 [(5,.call [] [] (eS v1.1) [(1000,⟨true,0,[i64 v1.2.1,i64 v1.2.2.1,bl v1.2.2.2]⟩)])] [] (ocons (Timpl_merger_take (Y:=Y) n a0 a1.inn a2 a3 _ y1) onil) onil 
  ·obtain⟨v2,y2,h⟩:=bm h
   obtain⟨v3,y3,h⟩:=bm h
   obtain⟨v4,y4,h⟩:=bm h
   obtain⟨v5,y5,h⟩:=bm h
   obtain⟨v6,y6,h⟩:=bm h
   obtain⟨v7,y7,h⟩:=bm h
   obtain⟨v8,y8,h⟩:=bm h
   obtain⟨v9,y9,h⟩:=bm h
   replace h:=sj h;subst h
   exact x_end 44 [(3,.val (.cptr ((eSol false).c v2++(eSol false).f ((a1.kids).drop (Int.toNat 0+1))))),(5,.call [] [] (.sl false 4 v3.length ((ePl).f v3)) []),(0,.call [] [] (eS v4.1) [(1000,⟨true,0,[i64 v4.2.1,i64 v4.2.2.1,bl v4.2.2.2]⟩)]),(5,.val (.cptr ((eSol false).c v5++(eSol false).f ((a1.kids).drop (Int.toNat 1+1))))),(5,.call [] [] (.agg [i64 v6.A,i64 v6.B,i64 v6.C,i64 v6.D]) []),(0,.call [] [] (.sl false 4 v7.length ((ePl).f v7)) []),(0,.call [] [] (eS v8.1) [(1000,⟨true,0,[i64 v8.2.1,i64 v8.2.2.1,bl v8.2.2.2]⟩)]),(7,.call [] [] (eS v9.1) [(1000,⟨true,0,[i64 v9.2.1,i64 v9.2.2.1,bl v9.2.2.2]⟩)])] [] (ocons (ix (eSol false) y2) (ocons (shSl (L:=v3) ePl ePl sPl (Timpl_with (Y:=Y) a3 a1.pl _ y3)) (ocons (hself (a0,v2,a2,v3) _ y4) (ocons (ix (eSol false) y5) (ocons (Timpl_flip (Y:=Y) a1.pl _ y6) (ocons (shSl (L:=v7) ePl ePl sPl (Timpl_with (Y:=Y) a3 v6 _ y7)) (ocons (hself (v4.2,v5,a2,v7) _ y8) (ocons (Timpl_merger_joino2o3 (Y:=Y) v8.2 a1.pl v4.1 v8.1 _ y9) onil)))))))) onil 
theorem Timpl_merger_put{Y}(n:Nat)(a0:(Int×Int×Bool))(a1:Sol)(a2:Sol)(a3:(List Pl))(r:(Sol×(Int×Int×Bool)))(h:Dimpl_merger_put n a0 a1 a2 a3=some r):Big Tryz.prog H Y (.call 147 [.ptr 1000 0,eF a1,eF a2,.sl false 4 a3.length ((ePl).f a3)] (lk [(1000,⟨true,0,[i64 a0.1,i64 a0.2.1,bl a0.2.2]⟩)]) (eS r.1) (lk [(1000,⟨true,0,[i64 r.2.1,i64 r.2.2.1,bl r.2.2.2]⟩)])):=Timpl_merger_put_b n n (a0,a1,a2,a3) r h ()
def Dimpl_put(n:Nat)(a0:Sol)(a1:Sol)(a2:Int):Option (Sol×Bool) :=
 (Dimpl_merger_put n (a2,0,false) a0 a1 []).bind fun v0=>frk v0.2.2.2 ((Dimpl_Leaf false).bind fun v1=>some (v1,false)) (some (v0.1,true))
theorem Timpl_put{Y}(n:Nat)(a0:Sol)(a1:Sol)(a2:Int)(r:(Sol×Bool))(h:Dimpl_put n a0 a1 a2=some r):Big Tryz.prog H Y (.call 85 [eF a0,eF a1,i64 a2] (lk []) (.tup [eS r.1,bl r.2]) (lk [])):=by
 unfold Dimpl_put at h
 refine x_call (fn:=Tryz.f85) (c:=bodyOf Tryz.f85) (bs0:=[]) Tryz.func85 (by kernel_rfl) (by kernel_rfl) ?_
 obtain⟨v0,y0,h⟩:=bm h
 refine x_frk 28 [(10,.call [(false,4)] [] (eS v0.1) [(1000,⟨true,0,[i64 v0.2.1,i64 v0.2.2.1,bl v0.2.2.2]⟩)])] (ocons (Timpl_merger_put (Y:=Y) n (a2,0,false) a0 a1 [] _ y0) onil) h (by kernel_rfl) (fun h=>?_) (fun h=>?_)
 ·obtain⟨v1,y1,h⟩:=bm h
  replace h:=sj h;subst h
  exact x_end 6 [(0,.call [] [] (eS v1) [])] [] (ocons (Timpl_Leaf (Y:=Y) false _ y1) onil) onil 
 ·replace h:=sj h;subst h
  exact x_end 7 [] [] onil onil 
def Dimpl_Put_0(_n:Nat)(_zah:Bool)(_zai _zaj _zak _zal:Int):Option (Sol×Bool) :=
 (Dimpl_Leaf false).bind fun v1=>some (v1,false)
theorem Timpl_Put_0{Y}(n:Nat)(zah:Bool)(zai zaj zak zal:Int)(r:(Sol×Bool))(h:Dimpl_Put_0 n zah zai zaj zak zal=some r):Wk Tryz.prog H Y 22 [.code (cp [1,0,1,0,0] (bodyOf Tryz.f22)),.code (cp [1,0,1,0,1] (bodyOf Tryz.f22)),.code (cp [1,1] (bodyOf Tryz.f22))] (FinX Tryz.prog Tryz.f22 [] (.tup [eS r.1,bl r.2]) []) ⟨[(6,.ptr 6 0)],[(6,⟨true,0,[bl zah,i64 zai,i64 zaj,i64 zak,i64 zal,.nil]⟩)]⟩:=by
 unfold Dimpl_Put_0 at h
 obtain⟨v1,y1,h⟩:=bm h
 replace h:=sj h;subst h
 exact x_end 5 [(0,.call [] [] (eS v1) [])] [] (ocons (Timpl_Leaf (Y:=Y) false _ y1) onil) onil 
def Dimpl_Put_1(n:Nat)(t2:Int)(t20 ze:Bool)(zf zs zt zas:Int)(zaz:List Sol)(za:Bool)(zu zv zw zam:Int)(zax:List Sol)(_zah:Bool)(_zai _zaj _zak _zal:Int):Option (Sol×Bool) :=
 frk t20 ((Dimpl_Leaf false).bind fun v4=>some (v4,false)) ((Dimpl_put n (Sol.mk ze (Pl.mk zf zs zt zas) zaz) (Sol.mk za (Pl.mk zu zv zw zam) zax) t2).bind fun v5=>some v5)
theorem Timpl_Put_1{Y}(n:Nat)(t2:Int)(t20 ze:Bool)(zf zs zt zas:Int)(zaz:List Sol)(za:Bool)(zu zv zw zam:Int)(zax:List Sol)(zah:Bool)(zai zaj zak zal:Int)(r:(Sol×Bool))(h:Dimpl_Put_1 n t2 t20 ze zf zs zt zas zaz za zu zv zw zam zax zah zai zaj zak zal=some r):Wk Tryz.prog H Y 22 [.code (cp [1,0,1] (bodyOf Tryz.f22)),.code (cp [1,1] (bodyOf Tryz.f22))] (FinX Tryz.prog Tryz.f22 [] (.tup [eS r.1,bl r.2]) []) ⟨[(2,i64 t2),(3,.ptr 3 0),(4,.ptr 4 0),(6,.ptr 6 0),(20,bl t20)],[(3,⟨true,0,[bl ze,i64 zf,i64 zs,i64 zt,i64 zas,.sl false 6 zaz.length ((eSol false).f zaz)]⟩),(4,⟨true,0,[bl za,i64 zu,i64 zv,i64 zw,i64 zam,.sl false 6 zax.length ((eSol false).f zax)]⟩),(6,⟨true,0,[bl zah,i64 zai,i64 zaj,i64 zak,i64 zal,.nil]⟩)]⟩:=by
 unfold Dimpl_Put_1 at h
 refine x_frk 0 [] onil h (by kernel_rfl) (fun h=>?_) (fun h=>?_)
 ·obtain⟨v4,y4,h⟩:=bm h
  replace h:=sj h;subst h
  exact x_end 6 [(0,.call [] [] (eS v4) [])] [] (ocons (Timpl_Leaf (Y:=Y) false _ y4) onil) onil 
 ·obtain⟨v5,y5,h⟩:=bm h
  replace h:=sj h;subst h
  exact x_end 12 [(3,.call [] [] (.tup [eS v5.1,bl v5.2]) [])] [] (ocons (Timpl_put (Y:=Y) n (Sol.mk ze (Pl.mk zf zs zt zas) zaz) (Sol.mk za (Pl.mk zu zv zw zam) zax) t2 _ y5) onil) onil 
def Dimpl_Put(n:Nat)(a0:Sol)(a1:Sol)(a2:Int):Option (Sol×Bool) :=
 (Dimpl_isOp a2).bind fun v0=>frk (!v0) (Dimpl_Put_0 n false 0 0 0 0) ((Dimpl_SolidOk n a0).bind fun v2=>frk (!v2) (Dimpl_Put_0 n false 0 0 0 0) ((Dimpl_SolidOk n a1).bind fun v3=>Dimpl_Put_1 n a2 (!v3) a0.inn a0.pl.A a0.pl.B a0.pl.C a0.pl.D a0.kids a1.inn a1.pl.A a1.pl.B a1.pl.C a1.pl.D a1.kids false 0 0 0 0))
theorem Timpl_Put{Y}(n:Nat)(a0:Sol)(a1:Sol)(a2:Int)(r:(Sol×Bool))(h:Dimpl_Put n a0 a1 a2=some r):Big Tryz.prog H Y (.call 22 [eF a0,eF a1,i64 a2] (lk []) (.tup [eS r.1,bl r.2]) (lk [])):=by
 unfold Dimpl_Put at h
 refine x_call (fn:=Tryz.f22) (c:=bodyOf Tryz.f22) (bs0:=[]) Tryz.func22 (by kernel_rfl) (by kernel_rfl) ?_
 obtain⟨v0,y0,h⟩:=bm h
 refine x_frk 14 [(5,.call [] [] (bl v0) [])] (ocons (Timpl_isOp (Y:=Y) a2 _ y0) onil) h (by kernel_rfl) (fun h=>?_) (fun h=>?_)
 ·exact x_to 12 [] onil (Timpl_Put_0 n false 0 0 0 0 r h) 
 ·obtain⟨v2,y2,h⟩:=bm h
  refine x_frk 5 [(1,.call [] [] (bl v2) [])] (ocons (Timpl_SolidOk (Y:=Y) n a0 _ y2) onil) h (by kernel_rfl) (fun h=>?_) (fun h=>?_)
  ·exact x_to 7 [] onil (Timpl_Put_0 n false 0 0 0 0 r h) 
  ·obtain⟨v3,y3,h⟩:=bm h
   exact x_to 5 [(1,.call [] [] (bl v3) [])] (ocons (Timpl_SolidOk (Y:=Y) n a1 _ y3) onil) (Timpl_Put_1 n a2 (!v3) a0.inn a0.pl.A a0.pl.B a0.pl.C a0.pl.D a0.kids a1.inn a1.pl.A a1.pl.B a1.pl.C a1.pl.D a1.kids false 0 0 0 0 r h) 
def Dspec_l8Leaf(a0:Sol):Option Bool :=
 some ((a0.kids.length:Int)==0)
theorem Tspec_l8Leaf{Y}(a0:Sol)(r:Bool)(h:Dspec_l8Leaf a0=some r):Big Tryz.prog H Y (.call 132 [eF a0] (lk []) (bl r) (lk [])):=by
 unfold Dspec_l8Leaf at h
 refine x_call (fn:=Tryz.f132) (c:=bodyOf Tryz.f132) (bs0:=[]) Tryz.func132 (by kernel_rfl) (by kernel_rfl) ?_
 replace h:=sj h;subst h
 exact x_end 13 [] [] onil onil 
def Dspec_l8Count_1(_n:Nat)(self:(Sol×Int)→Option Int)(t1:Int)(_zb:Bool)(_zm _zn _zo _zar:Int)(zba:List Sol)(rec0:(Int×Int)→Option Int)(a:(Int×Int)):Option Int :=
 match a with
 | (t5,t6)=>frk (decide (t6<(zba.length:Int))) ((lget zba t6).bind fun v1=>(self (v1,w64 (t1-t5))).bind fun v2=>rec0 (w64 (t5+v2),w64 (t6+1))) (some t5)
theorem Tspec_l8Count_1{Y}(n:Nat)(self:(Sol×Int)→Option Int)(hself:∀(a:(Sol×Int)) (r:Int),self a=some r→Big Tryz.prog H Y (.call 70 [eF a.1,i64 a.2] (lk []) (i64 r) (lk [])))(t1:Int)(zb:Bool)(zm zn zo zar:Int)(zba:List Sol):∀(m:Nat) (a:(Int×Int)) (r:Int),loopN (Dspec_l8Count_1 n self t1 zb zm zn zo zar zba) m a=some r→Wk Tryz.prog H Y 70 [.code (cp [1,1,1,0,1,0] (bodyOf Tryz.f70)),.blk 0,.code (cp [1,1,1,1] (bodyOf Tryz.f70))] (FinX Tryz.prog Tryz.f70 [] (i64 r) []) ⟨[(1,i64 t1),(2,.ptr 2 0),(5,i64 a.1),(6,i64 a.2)],[(2,⟨true,0,[bl zb,i64 zm,i64 zn,i64 zo,i64 zar,.sl false 6 zba.length ((eSol false).f zba)]⟩)]⟩:=by
 refine loopN_ind (fun _rec0 hrec0 a r h=>?_)
 obtain⟨t5,t6⟩:=a
 unfold Dspec_l8Count_1 at h
 refine x_frk 10 [] onil h (by kernel_rfl) (fun h=>?_) (fun h=>?_)
 ·obtain⟨v1,y1,h⟩:=bm h
  obtain⟨v2,y2,h⟩:=bm h
  exact x_to 24 [(4,.val (.cptr ((eSol false).c v1++(eSol false).f ((zba).drop (Int.toNat t6+1))))),(4,.call [] [] (i64 v2) [])] (ocons (ix (eSol false) y1) (ocons (hself (v1,w64 (t1-t5)) _ y2) onil)) (hrec0 (w64 (t5+v2),w64 (t6+1)) r h) 
 ·replace h:=sj h;subst h
  exact x_end 6 [] [] onil onil 
def Dspec_l8Count_0(n:Nat)(self:(Sol×Int)→Option Int)(t1:Int)(t12 zb:Bool)(zm zn zo zar:Int)(zba:List Sol):Option Int :=
 frk t12 (some 0) (loopN (Dspec_l8Count_1 n self t1 zb zm zn zo zar zba) n (1,0))
theorem Tspec_l8Count_0{Y}(n:Nat)(self:(Sol×Int)→Option Int)(hself:∀(a:(Sol×Int)) (r:Int),self a=some r→Big Tryz.prog H Y (.call 70 [eF a.1,i64 a.2] (lk []) (i64 r) (lk [])))(t1:Int)(t12 zb:Bool)(zm zn zo zar:Int)(zba:List Sol)(r:Int)(h:Dspec_l8Count_0 n self t1 t12 zb zm zn zo zar zba=some r):Wk Tryz.prog H Y 70 [.code (cp [1,0,1] (bodyOf Tryz.f70)),.code (cp [1,1] (bodyOf Tryz.f70))] (FinX Tryz.prog Tryz.f70 [] (i64 r) []) ⟨[(1,i64 t1),(2,.ptr 2 0),(12,bl t12)],[(2,⟨true,0,[bl zb,i64 zm,i64 zn,i64 zo,i64 zar,.sl false 6 zba.length ((eSol false).f zba)]⟩)]⟩:=by
 unfold Dspec_l8Count_0 at h
 refine x_frk 0 [] onil h (by kernel_rfl) (fun h=>?_) (fun h=>?_)
 ·replace h:=sj h;subst h
  exact x_end 4 [] [] onil onil 
 ·exact x_to 11 [] onil (Tspec_l8Count_1 n self hself t1 zb zm zn zo zar zba n (1,0) r h) 
def Dspec_l8Count_b(n:Nat)(self:(Sol×Int)→Option Int)(a:(Sol×Int)):Option Int :=
 match a with
 | (a0,a1)=>(Dspec_l8Leaf a0).bind fun v0=>frk v0 (some 0) (Dspec_l8Count_0 n self a1 (decide (a1≤0)) a0.inn a0.pl.A a0.pl.B a0.pl.C a0.pl.D a0.kids)
def Dspec_l8Count(n:Nat)(a0:Sol)(a1:Int):Option Int:=loopN (Dspec_l8Count_b n) n (a0,a1)
theorem Tspec_l8Count_b{Y}(n:Nat):∀(m:Nat) (a:(Sol×Int)) (r:Int),loopN (Dspec_l8Count_b n) m a=some r→∀(_:Unit),Big Tryz.prog H Y (.call 70 [eF a.1,i64 a.2] (lk []) (i64 r) (lk [])):=by
 refine loopN_ind (fun self hs a r h=>?_)
 have hself:∀(a:(Sol×Int)) (r:Int),self a=some r→Big Tryz.prog H Y (.call 70 [eF a.1,i64 a.2] (lk []) (i64 r) (lk [])):=fun a r h=>hs a r h ()
 intro _
 obtain⟨a0,a1⟩:=a
 unfold Dspec_l8Count_b at h
 refine x_call (fn:=Tryz.f70) (c:=bodyOf Tryz.f70) (bs0:=[]) Tryz.func70 (by kernel_rfl) (by kernel_rfl) ?_
 obtain⟨v0,y0,h⟩:=bm h
 refine x_frk 11 [(3,.call [] [] (bl v0) [])] (ocons (Tspec_l8Leaf (Y:=Y) a0 _ y0) onil) h (by kernel_rfl) (fun h=>?_) (fun h=>?_)
 ·replace h:=sj h;subst h
  exact x_end 9 [] [] onil onil 
 ·exact x_to 4 [] onil (Tspec_l8Count_0 n self hself a1 (decide (a1≤0)) a0.inn a0.pl.A a0.pl.B a0.pl.C a0.pl.D a0.kids r h) 
theorem Tspec_l8Count{Y}(n:Nat)(a0:Sol)(a1 r:Int)(h:Dspec_l8Count n a0 a1=some r):Big Tryz.prog H Y (.call 70 [eF a0,i64 a1] (lk []) (i64 r) (lk [])):=Tspec_l8Count_b n n (a0,a1) r h ()
def Dspec_l8Look_0(_n:Nat)(self:(Sol×(List Pl))→Option Bool)(t1:List Pl)(t42 _zb:Bool)(zm zn zo zar:Int)(zba:List Sol):Option Bool :=
 frk t42 (some false) ((lget zba 0).bind fun v5=>(Dspec_l8Path t1 (Pl.mk zm zn zo zar)).bind fun v6=>(self (v5,v6)).bind fun v7=>frk v7 ((lget zba 1).bind fun v8=>(Dspec_l3Flip (Pl.mk zm zn zo zar)).bind fun v9=>(Dspec_l8Path t1 v9).bind fun v10=>(self (v8,v10)).bind fun v11=>some v11) (some false))
theorem Tspec_l8Look_0{Y}(n:Nat)(self:(Sol×(List Pl))→Option Bool)(hself:∀(a:(Sol×(List Pl))) (r:Bool),self a=some r→Big Tryz.prog H Y (.call 71 [eF a.1,.sl false 4 a.2.length ((ePl).f a.2)] (lk []) (bl r) (lk [])))(t1:List Pl)(t42 zb:Bool)(zm zn zo zar:Int)(zba:List Sol)(r:Bool)(h:Dspec_l8Look_0 n self t1 t42 zb zm zn zo zar zba=some r):Wk Tryz.prog H Y 71 [.code (cp [1,1,0,1] (bodyOf Tryz.f71)),.code (cp [1,1,1] (bodyOf Tryz.f71))] (FinX Tryz.prog Tryz.f71 [] (bl r) []) ⟨[(1,.sl false 4 t1.length ((ePl).f t1)),(2,.ptr 2 0),(42,bl t42)],[(2,⟨true,0,[bl zb,i64 zm,i64 zn,i64 zo,i64 zar,.sl false 6 zba.length ((eSol false).f zba)]⟩)]⟩:=by
 unfold Dspec_l8Look_0 at h
 refine x_frk 0 [] onil h (by kernel_rfl) (fun h=>?_) (fun h=>?_)
 ·replace h:=sj h;subst h
  exact x_end 4 [] [] onil onil 
 ·obtain⟨v5,y5,h⟩:=bm h
  obtain⟨v6,y6,h⟩:=bm h
  obtain⟨v7,y7,h⟩:=bm h
  refine x_frk 13 [(2,.val (.cptr ((eSol false).c v5++(eSol false).f ((zba).drop (Int.toNat 0+1))))),(4,.call [] [] (.sl false 4 v6.length ((ePl).f v6)) []),(0,.call [] [] (bl v7) [])] (ocons (ix (eSol false) y5) (ocons (shSl (L:=v6) ePl ePl sPl (Tspec_l8Path (Y:=Y) t1 (Pl.mk zm zn zo zar) _ y6)) (ocons (hself (v5,v6) _ y7) onil))) h (by kernel_rfl) (fun h=>?_) (fun h=>?_)
  ·obtain⟨v8,y8,h⟩:=bm h
   obtain⟨v9,y9,h⟩:=bm h
   obtain⟨v10,y10,h⟩:=bm h
   obtain⟨v11,y11,h⟩:=bm h
   replace h:=sj h;subst h
   exact x_end 13 [(2,.val (.cptr ((eSol false).c v8++(eSol false).f ((zba).drop (Int.toNat 1+1))))),(4,.call [] [] (.agg [i64 v9.A,i64 v9.B,i64 v9.C,i64 v9.D]) []),(0,.call [] [] (.sl false 4 v10.length ((ePl).f v10)) []),(0,.call [] [] (bl v11) [])] [] (ocons (ix (eSol false) y8) (ocons (Tspec_l3Flip (Y:=Y) (Pl.mk zm zn zo zar) _ y9) (ocons (shSl (L:=v10) ePl ePl sPl (Tspec_l8Path (Y:=Y) t1 v9 _ y10)) (ocons (hself (v8,v10) _ y11) onil)))) onil 
  ·replace h:=sj h;subst h
   exact x_end 13 [] [] onil onil 
def Dspec_l8Look_b(n:Nat)(self:(Sol×(List Pl))→Option Bool)(a:(Sol×(List Pl))):Option Bool :=
 match a with
 | (a0,a1)=>(Dspec_l8Leaf a0).bind fun v0=>frk v0 (some (a0.pl.A==0&&(a0.pl.B==0&&(a0.pl.C==0&&(a0.pl.D==0&&true))))) (frk ((a0.kids.length:Int) != 2) (some false) (frk a0.inn (some false) ((Dspec_PlaneOk n a0.pl).bind fun v1=>frk (!v1) (some false) (frk ((a1.length:Int)==24) (some false) ((Dspec_l6With n a1 a0.pl).bind fun v2=>frk v2 (some false) ((Dspec_l3Flip a0.pl).bind fun v3=>(Dspec_l6With n a1 v3).bind fun v4=>Dspec_l8Look_0 n self a1 v4 a0.inn a0.pl.A a0.pl.B a0.pl.C a0.pl.D a0.kids))))))
def Dspec_l8Look(n:Nat)(a0:Sol)(a1:(List Pl)):Option Bool:=loopN (Dspec_l8Look_b n) n (a0,a1)
theorem Tspec_l8Look_b{Y}(n:Nat):∀(m:Nat) (a:(Sol×(List Pl))) (r:Bool),loopN (Dspec_l8Look_b n) m a=some r→∀(_:Unit),Big Tryz.prog H Y (.call 71 [eF a.1,.sl false 4 a.2.length ((ePl).f a.2)] (lk []) (bl r) (lk [])):=by
 refine loopN_ind (fun self hs a r h=>?_)
 have hself:∀(a:(Sol×(List Pl))) (r:Bool),self a=some r→Big Tryz.prog H Y (.call 71 [eF a.1,.sl false 4 a.2.length ((ePl).f a.2)] (lk []) (bl r) (lk [])):=fun a r h=>hs a r h ()
 intro _
 obtain⟨a0,a1⟩:=a
 unfold Dspec_l8Look_b at h
 refine x_call (fn:=Tryz.f71) (c:=bodyOf Tryz.f71) (bs0:=[]) Tryz.func71 (by kernel_rfl) (by kernel_rfl) ?_
 obtain⟨v0,y0,h⟩:=bm h
 refine x_frk 11 [(3,.call [] [] (bl v0) [])] (ocons (Tspec_l8Leaf (Y:=Y) a0 _ y0) onil) h (by kernel_rfl) (fun h=>?_) (fun h=>?_)
 ·replace h:=sj h;subst h
  exact x_end 8 [] [] onil onil 
 ·refine x_frk 9 [] onil h (by kernel_rfl) (fun h=>?_) (fun h=>?_)
  ·replace h:=sj h;subst h
   exact x_end 33 [] [] onil onil 
  ·refine x_frk 4 [] onil h (by kernel_rfl) (fun h=>?_) (fun h=>?_)
   ·replace h:=sj h;subst h
    exact x_end 29 [] [] onil onil 
   ·obtain⟨v1,y1,h⟩:=bm h
    refine x_frk 6 [(2,.call [] [] (bl v1) [])] (ocons (Tspec_PlaneOk (Y:=Y) n a0.pl _ y1) onil) h (by kernel_rfl) (fun h=>?_) (fun h=>?_)
    ·replace h:=sj h;subst h
     exact x_end 23 [] [] onil onil 
    ·refine x_frk 5 [] onil h (by kernel_rfl) (fun h=>?_) (fun h=>?_)
     ·replace h:=sj h;subst h
      exact x_end 18 [] [] onil onil 
     ·obtain⟨v2,y2,h⟩:=bm h
      refine x_frk 6 [(3,.call [] [] (bl v2) [])] (ocons (Tspec_l6With (Y:=Y) n a1 a0.pl _ y2) onil) h (by kernel_rfl) (fun h=>?_) (fun h=>?_)
      ·replace h:=sj h;subst h
       exact x_end 12 [] [] onil onil 
      ·obtain⟨v3,y3,h⟩:=bm h
       obtain⟨v4,y4,h⟩:=bm h
       exact x_to 7 [(3,.call [] [] (.agg [i64 v3.A,i64 v3.B,i64 v3.C,i64 v3.D]) []),(0,.call [] [] (bl v4) [])] (ocons (Tspec_l3Flip (Y:=Y) a0.pl _ y3) (ocons (Tspec_l6With (Y:=Y) n a1 v3 _ y4) onil)) (Tspec_l8Look_0 n self hself a1 v4 a0.inn a0.pl.A a0.pl.B a0.pl.C a0.pl.D a0.kids r h) 
theorem Tspec_l8Look{Y}(n:Nat)(a0:Sol)(a1:(List Pl))(r:Bool)(h:Dspec_l8Look n a0 a1=some r):Big Tryz.prog H Y (.call 71 [eF a0,.sl false 4 a1.length ((ePl).f a1)] (lk []) (bl r) (lk [])):=Tspec_l8Look_b n n (a0,a1) r h ()
def Dspec_SolidOk(n:Nat)(a0:Sol):Option Bool :=
 (Dspec_l8Count n a0 301).bind fun v0=>frk (decide (v0≤300)) ((Dspec_l8Look n a0 []).bind fun v1=>some v1) (some false)
theorem Tspec_SolidOk{Y}(n:Nat)(a0:Sol)(r:Bool)(h:Dspec_SolidOk n a0=some r):Big Tryz.prog H Y (.call 14 [eF a0] (lk []) (bl r) (lk [])):=by
 unfold Dspec_SolidOk at h
 refine x_call (fn:=Tryz.f14) (c:=bodyOf Tryz.f14) (bs0:=[]) Tryz.func14 (by kernel_rfl) (by kernel_rfl) ?_
 obtain⟨v0,y0,h⟩:=bm h
 refine x_frk 11 [(3,.call [] [] (i64 v0) [])] (ocons (Tspec_l8Count (Y:=Y) n a0 301 _ y0) onil) h (by kernel_rfl) (fun h=>?_) (fun h=>?_)
 ·obtain⟨v1,y1,h⟩:=bm h
  replace h:=sj h;subst h
  exact x_end 6 [(2,.call [] [(ePl).f []] (bl v1) [])] [] (ocons (Tspec_l8Look (Y:=Y) n a0 [] _ y1) (ocons (len_row (L:=[]) ePl) (ocons (Enc.share ePl ePl sPl []) onil))) onil 
 ·replace h:=sj h;subst h
  exact x_end 6 [] [] onil onil 
def Dspec_l11In(a0:Int)(a1 a2:Bool):Option Bool :=
 frk (a0==1) (frk a1 (some a2) (some false)) (frk (a0==2) (frk a1 (some true) (some a2)) (frk (a0==3) (frk a1 (some (!a2)) (some false)) (some (!(a1==a2)))))
theorem Tspec_l11In{Y}(a0:Int)(a1 a2 r:Bool)(h:Dspec_l11In a0 a1 a2=some r):Big Tryz.prog H Y (.call 185 [i64 a0,bl a1,bl a2] (lk []) (bl r) (lk [])):=by
 unfold Dspec_l11In at h
 refine x_call (fn:=Tryz.f185) (c:=bodyOf Tryz.f185) (bs0:=[]) Tryz.func185 (by kernel_rfl) (by kernel_rfl) ?_
 refine x_frk 15 [] onil h (by kernel_rfl) (fun h=>?_) (fun h=>?_)
 ·refine x_frk 4 [] onil h (by kernel_rfl) (fun h=>?_) (fun h=>?_)
  ·replace h:=sj h;subst h
   exact x_end 4 [] [] onil onil 
  ·replace h:=sj h;subst h
   exact x_end 4 [] [] onil onil 
 ·refine x_frk 5 [] onil h (by kernel_rfl) (fun h=>?_) (fun h=>?_)
  ·refine x_frk 4 [] onil h (by kernel_rfl) (fun h=>?_) (fun h=>?_)
   ·replace h:=sj h;subst h
    exact x_end 4 [] [] onil onil 
   ·replace h:=sj h;subst h
    exact x_end 4 [] [] onil onil 
  ·refine x_frk 5 [] onil h (by kernel_rfl) (fun h=>?_) (fun h=>?_)
   ·refine x_frk 4 [] onil h (by kernel_rfl) (fun h=>?_) (fun h=>?_)
    ·replace h:=sj h;subst h
     exact x_end 5 [] [] onil onil 
    ·replace h:=sj h;subst h
     exact x_end 5 [] [] onil onil 
   ·replace h:=sj h;subst h
    exact x_end 9 [] [] onil onil 
def Dspec_l11Nodeo1o2_0(t19:Bool)(ze zf zs zt:Int)(za:Bool)(zu zv zw zam:Int)(zax:List Sol)(zx:Bool)(zy zz zaa zbb:Int)(zbc:List Sol)(_zah:Bool)(_zai _zaj _zak _zal:Int):Option Sol :=
 frk t19 ((Dspec_Leaf za).bind fun v2=>some v2) ((Dspec_l8Nodeo1o2 (Pl.mk ze zf zs zt) (Sol.mk za (Pl.mk zu zv zw zam) zax) (Sol.mk zx (Pl.mk zy zz zaa zbb) zbc)).bind fun v3=>some v3)
theorem Tspec_l11Nodeo1o2_0{Y}(t19:Bool)(ze zf zs zt:Int)(za:Bool)(zu zv zw zam:Int)(zax:List Sol)(zx:Bool)(zy zz zaa zbb:Int)(zbc:List Sol)(zah:Bool)(zai zaj zak zal:Int)(r:Sol)(h:Dspec_l11Nodeo1o2_0 t19 ze zf zs zt za zu zv zw zam zax zx zy zz zaa zbb zbc zah zai zaj zak zal=some r):Wk Tryz.prog H Y 149 [.code (cp [1,0,1] (bodyOf Tryz.f149)),.code (cp [1,1] (bodyOf Tryz.f149))] (FinX Tryz.prog Tryz.f149 [] (eS r) []) ⟨[(3,.ptr 3 0),(4,.ptr 4 0),(5,.ptr 5 0),(6,.ptr 6 0),(19,bl t19)],[(3,⟨true,0,[i64 ze,i64 zf,i64 zs,i64 zt]⟩),(4,⟨true,0,[bl za,i64 zu,i64 zv,i64 zw,i64 zam,.sl true 6 zax.length ((eSol true).f zax)]⟩),(5,⟨true,0,[bl zx,i64 zy,i64 zz,i64 zaa,i64 zbb,.sl true 6 zbc.length ((eSol true).f zbc)]⟩),(6,⟨true,0,[bl zah,i64 zai,i64 zaj,i64 zak,i64 zal,.nil]⟩)]⟩:=by
 unfold Dspec_l11Nodeo1o2_0 at h
 refine x_frk 0 [] onil h (by kernel_rfl) (fun h=>?_) (fun h=>?_)
 ·obtain⟨v2,y2,h⟩:=bm h
  replace h:=sj h;subst h
  exact x_end 7 [(2,.call [] [] (eS v2) [])] [] (ocons (Tspec_Leaf (Y:=Y) za _ y2) onil) onil 
 ·obtain⟨v3,y3,h⟩:=bm h
  replace h:=sj h;subst h
  exact x_end 9 [(3,.call [] [] (eS v3) [])] [] (ocons (Tspec_l8Nodeo1o2 (Y:=Y) (Pl.mk ze zf zs zt) (Sol.mk za (Pl.mk zu zv zw zam) zax) (Sol.mk zx (Pl.mk zy zz zaa zbb) zbc) _ y3) onil) onil 
def Dspec_l11Nodeo1o2_1(ze zf zs zt:Int)(za:Bool)(zu zv zw zam:Int)(zax:List Sol)(zx:Bool)(zy zz zaa zbb:Int)(zbc:List Sol)(_zah:Bool)(_zai _zaj _zak _zal:Int):Option Sol :=
 (Dspec_l8Nodeo1o2 (Pl.mk ze zf zs zt) (Sol.mk za (Pl.mk zu zv zw zam) zax) (Sol.mk zx (Pl.mk zy zz zaa zbb) zbc)).bind fun v4=>some v4
theorem Tspec_l11Nodeo1o2_1{Y}(ze zf zs zt:Int)(za:Bool)(zu zv zw zam:Int)(zax:List Sol)(zx:Bool)(zy zz zaa zbb:Int)(zbc:List Sol)(zah:Bool)(zai zaj zak zal:Int)(r:Sol)(h:Dspec_l11Nodeo1o2_1 ze zf zs zt za zu zv zw zam zax zx zy zz zaa zbb zbc zah zai zaj zak zal=some r):Wk Tryz.prog H Y 149 [.code (cp [1,1,0] (bodyOf Tryz.f149)),.code (cp [1,1,1] (bodyOf Tryz.f149))] (FinX Tryz.prog Tryz.f149 [] (eS r) []) ⟨[(3,.ptr 3 0),(4,.ptr 4 0),(5,.ptr 5 0),(6,.ptr 6 0)],[(3,⟨true,0,[i64 ze,i64 zf,i64 zs,i64 zt]⟩),(4,⟨true,0,[bl za,i64 zu,i64 zv,i64 zw,i64 zam,.sl true 6 zax.length ((eSol true).f zax)]⟩),(5,⟨true,0,[bl zx,i64 zy,i64 zz,i64 zaa,i64 zbb,.sl true 6 zbc.length ((eSol true).f zbc)]⟩),(6,⟨true,0,[bl zah,i64 zai,i64 zaj,i64 zak,i64 zal,.nil]⟩)]⟩:=by
 unfold Dspec_l11Nodeo1o2_1 at h
 obtain⟨v4,y4,h⟩:=bm h
 replace h:=sj h;subst h
 exact x_end 7 [(3,.call [] [] (eS v4) [])] [] (ocons (Tspec_l8Nodeo1o2 (Y:=Y) (Pl.mk ze zf zs zt) (Sol.mk za (Pl.mk zu zv zw zam) zax) (Sol.mk zx (Pl.mk zy zz zaa zbb) zbc) _ y4) onil) onil 
def Dspec_l11Nodeo1o2(a0:Pl)(a1:Sol)(a2:Sol):Option Sol :=
 (Dspec_l8Leaf a1).bind fun v0=>frk v0 ((Dspec_l8Leaf a2).bind fun v1=>frk v1 (Dspec_l11Nodeo1o2_0 (a1.inn==a2.inn) a0.A a0.B a0.C a0.D a1.inn a1.pl.A a1.pl.B a1.pl.C a1.pl.D a1.kids a2.inn a2.pl.A a2.pl.B a2.pl.C a2.pl.D a2.kids false 0 0 0 0) (Dspec_l11Nodeo1o2_1 a0.A a0.B a0.C a0.D a1.inn a1.pl.A a1.pl.B a1.pl.C a1.pl.D a1.kids a2.inn a2.pl.A a2.pl.B a2.pl.C a2.pl.D a2.kids false 0 0 0 0)) (Dspec_l11Nodeo1o2_1 a0.A a0.B a0.C a0.D a1.inn a1.pl.A a1.pl.B a1.pl.C a1.pl.D a1.kids a2.inn a2.pl.A a2.pl.B a2.pl.C a2.pl.D a2.kids false 0 0 0 0)
theorem Tspec_l11Nodeo1o2{Y}(a0:Pl)(a1:Sol)(a2:Sol)(r:Sol)(h:Dspec_l11Nodeo1o2 a0 a1 a2=some r):Big Tryz.prog H Y (.call 149 [.agg [i64 a0.A,i64 a0.B,i64 a0.C,i64 a0.D],eS a1,eS a2] (lk []) (eS r) (lk [])):=by
 unfold Dspec_l11Nodeo1o2 at h
 refine x_call (fn:=Tryz.f149) (c:=bodyOf Tryz.f149) (bs0:=[]) Tryz.func149 (by kernel_rfl) (by kernel_rfl) ?_
 obtain⟨v0,y0,h⟩:=bm h
 refine x_frk 13 [(4,.rows [(eSol false).f a1.kids]),(0,.call [] [] (bl v0) [])] (ocons (Enc.share (eSol true) (eSol false) (sSol true) a1.kids) (ocons (Tspec_l8Leaf (Y:=Y) a1 _ y0) onil)) h (by kernel_rfl) (fun h=>?_) (fun h=>?_)
 ·obtain⟨v1,y1,h⟩:=bm h
  refine x_frk 4 [(0,.rows [(eSol false).f a2.kids]),(0,.call [] [] (bl v1) [])] (ocons (Enc.share (eSol true) (eSol false) (sSol true) a2.kids) (ocons (Tspec_l8Leaf (Y:=Y) a2 _ y1) onil)) h (by kernel_rfl) (fun h=>?_) (fun h=>?_)
  ·exact x_to 7 [] onil (Tspec_l11Nodeo1o2_0 (a1.inn==a2.inn) a0.A a0.B a0.C a0.D a1.inn a1.pl.A a1.pl.B a1.pl.C a1.pl.D a1.kids a2.inn a2.pl.A a2.pl.B a2.pl.C a2.pl.D a2.kids false 0 0 0 0 r h) 
  ·exact x_to 10 [] onil (Tspec_l11Nodeo1o2_1 a0.A a0.B a0.C a0.D a1.inn a1.pl.A a1.pl.B a1.pl.C a1.pl.D a1.kids a2.inn a2.pl.A a2.pl.B a2.pl.C a2.pl.D a2.kids false 0 0 0 0 r h) 
 ·exact x_to 14 [] onil (Tspec_l11Nodeo1o2_1 a0.A a0.B a0.C a0.D a1.inn a1.pl.A a1.pl.B a1.pl.C a1.pl.D a1.kids a2.inn a2.pl.A a2.pl.B a2.pl.C a2.pl.D a2.kids false 0 0 0 0 r h) 
def Dspec_l11Take_2(_n:Nat)(_self1:((Int×Bool)×Bool×Sol×(List Pl))→Option (Sol×(Int×Bool)))(_zg:Bool)(_zh _zi _zj _zay zp:Int)(zq:Bool):Option (Sol×(Int×Bool)) :=
 (Dspec_Leaf false).bind fun v10=>some (v10,(zp,zq))
theorem Tspec_l11Take_2{Y}(n:Nat)(self1:((Int×Bool)×Bool×Sol×(List Pl))→Option (Sol×(Int×Bool)))(_hself1:∀(a:((Int×Bool)×Bool×Sol×(List Pl))) (r:(Sol×(Int×Bool))),self1 a=some r→Big Tryz.prog H Y (.call 148 [.ptr 1000 0,bl a.2.1,eF a.2.2.1,.sl false 4 a.2.2.2.length ((ePl).f a.2.2.2)] (lk [(1000,⟨true,0,[i64 a.1.1,bl a.1.2]⟩)]) (eS r.1) (lk [(1000,⟨true,0,[i64 r.2.1,bl r.2.2]⟩)])))(zg:Bool)(zh zi zj zay zp:Int)(zq:Bool)(r:(Sol×(Int×Bool)))(h:Dspec_l11Take_2 n self1 zg zh zi zj zay zp zq=some r):Wk Tryz.prog H Y 148 [.code (cp [1,1,1,1,0,0,1,1,1,1,1,0,1,0] (bodyOf Tryz.f148)),.code (cp [1,1,1,1,0,0,1,1,1,1,1,0,1,1] (bodyOf Tryz.f148)),.blk 0,.code (cp [1,1,1,1,1] (bodyOf Tryz.f148))] (FinX Tryz.prog Tryz.f148 [(1000,⟨true,0,[.bad,.bad]⟩)] (eS r.1) [(1000,⟨true,0,[i64 r.2.1,bl r.2.2]⟩)]) ⟨[(8,.ptr 8 0)],[(8,⟨true,0,[bl zg,i64 zh,i64 zi,i64 zj,i64 zay,.nil]⟩),(1000,⟨true,0,[i64 zp,bl zq]⟩)]⟩:=by
 unfold Dspec_l11Take_2 at h
 obtain⟨v10,y10,h⟩:=bm h
 replace h:=sj h;subst h
 exact x_end 4 [(0,.call [] [] (eS v10) [])] [] (ocons (Tspec_Leaf (Y:=Y) false _ y10) onil) onil 
def Dspec_l11Take_3(_n:Nat)(self1:((Int×Bool)×Bool×Sol×(List Pl))→Option (Sol×(Int×Bool)))(t1:Bool)(t3:List Pl)(t62 _zah:Bool)(zai zaj zak zal:Int)(zat:List Sol)(_zg:Bool)(_zh _zi _zj _zay zp:Int)(zq:Bool):Option (Sol×(Int×Bool)) :=
 frk t62 ((Dspec_Leaf false).bind fun v11=>some (v11,(zp,true))) ((lget zat 0).bind fun v12=>(Dspec_l8Path t3 (Pl.mk zai zaj zak zal)).bind fun v13=>(self1 ((zp,zq),t1,v12,v13)).bind fun v14=>(lget zat 1).bind fun v15=>(Dspec_l3Flip (Pl.mk zai zaj zak zal)).bind fun v16=>(Dspec_l8Path t3 v16).bind fun v17=>(self1 (v14.2,t1,v15,v17)).bind fun v18=>(Dspec_l11Nodeo1o2 (Pl.mk zai zaj zak zal) v14.1 v18.1).bind fun v19=>some (v19,v18.2))
theorem Tspec_l11Take_3{Y}(n:Nat)(self1:((Int×Bool)×Bool×Sol×(List Pl))→Option (Sol×(Int×Bool)))(hself1:∀(a:((Int×Bool)×Bool×Sol×(List Pl))) (r:(Sol×(Int×Bool))),self1 a=some r→Big Tryz.prog H Y (.call 148 [.ptr 1000 0,bl a.2.1,eF a.2.2.1,.sl false 4 a.2.2.2.length ((ePl).f a.2.2.2)] (lk [(1000,⟨true,0,[i64 a.1.1,bl a.1.2]⟩)]) (eS r.1) (lk [(1000,⟨true,0,[i64 r.2.1,bl r.2.2]⟩)])))(t1:Bool)(t3:List Pl)(t62 zah:Bool)(zai zaj zak zal:Int)(zat:List Sol)(zg:Bool)(zh zi zj zay zp:Int)(zq:Bool)(r:(Sol×(Int×Bool)))(h:Dspec_l11Take_3 n self1 t1 t3 t62 zah zai zaj zak zal zat zg zh zi zj zay zp zq=some r):Wk Tryz.prog H Y 148 [.code (cp [1,1,1,1,0,0,1,1,1,1,1] (bodyOf Tryz.f148)),.blk 0,.code (cp [1,1,1,1,1] (bodyOf Tryz.f148))] (FinX Tryz.prog Tryz.f148 [(1000,⟨true,0,[.bad,.bad]⟩)] (eS r.1) [(1000,⟨true,0,[i64 r.2.1,bl r.2.2]⟩)]) ⟨[(0,.ptr 1000 0),(1,bl t1),(3,.sl false 4 t3.length ((ePl).f t3)),(6,.ptr 6 0),(8,.ptr 8 0),(62,bl t62)],[(6,⟨true,0,[bl zah,i64 zai,i64 zaj,i64 zak,i64 zal,.sl false 6 zat.length ((eSol false).f zat)]⟩),(8,⟨true,0,[bl zg,i64 zh,i64 zi,i64 zj,i64 zay,.nil]⟩),(1000,⟨true,0,[i64 zp,bl zq]⟩)]⟩:=by
 unfold Dspec_l11Take_3 at h
 refine x_frk 0 [] onil h (by kernel_rfl) (fun h=>?_) (fun h=>?_)
 ·obtain⟨v11,y11,h⟩:=bm h
  replace h:=sj h;subst h
  exact x_end 12 [(4,.call [] [] (eS v11) [])] [] (ocons (Tspec_Leaf (Y:=Y) false _ y11) onil) onil 
 ·obtain⟨v12,y12,h⟩:=bm h
  obtain⟨v13,y13,h⟩:=bm h
  obtain⟨v14,y14,h⟩:=bm h
  obtain⟨v15,y15,h⟩:=bm h
  obtain⟨v16,y16,h⟩:=bm h
  obtain⟨v17,y17,h⟩:=bm h
  obtain⟨v18,y18,h⟩:=bm h
  obtain⟨v19,y19,h⟩:=bm h
  replace h:=sj h;subst h
  exact x_end 38 [(4,.val (.cptr ((eSol false).c v12++(eSol false).f ((zat).drop (Int.toNat 0+1))))),(4,.call [] [] (.sl false 4 v13.length ((ePl).f v13)) []),(0,.call [] [] (eS v14.1) [(1000,⟨true,0,[i64 v14.2.1,bl v14.2.2]⟩)]),(9,.val (.cptr ((eSol false).c v15++(eSol false).f ((zat).drop (Int.toNat 1+1))))),(4,.call [] [] (.agg [i64 v16.A,i64 v16.B,i64 v16.C,i64 v16.D]) []),(0,.call [] [] (.sl false 4 v17.length ((ePl).f v17)) []),(0,.call [] [] (eS v18.1) [(1000,⟨true,0,[i64 v18.2.1,bl v18.2.2]⟩)]),(0,.call [] [] (eS v19) [])] [] (ocons (ix (eSol false) y12) (ocons (shSl (L:=v13) ePl ePl sPl (Tspec_l8Path (Y:=Y) t3 (Pl.mk zai zaj zak zal) _ y13)) (ocons (hself1 ((zp,zq),t1,v12,v13) _ y14) (ocons (ix (eSol false) y15) (ocons (Tspec_l3Flip (Y:=Y) (Pl.mk zai zaj zak zal) _ y16) (ocons (shSl (L:=v17) ePl ePl sPl (Tspec_l8Path (Y:=Y) t3 v16 _ y17)) (ocons (hself1 (v14.2,t1,v15,v17) _ y18) (ocons (Tspec_l11Nodeo1o2 (Y:=Y) (Pl.mk zai zaj zak zal) v14.1 v18.1 _ y19) onil)))))))) onil 
def Dspec_l11Take_1(n:Nat)(self1:((Int×Bool)×Bool×Sol×(List Pl))→Option (Sol×(Int×Bool)))(t1:Bool)(t3:List Pl)(t48 zah:Bool)(zai zaj zak zal:Int)(zat:List Sol)(zg:Bool)(zh zi zj zay zp:Int)(zq:Bool):Option (Sol×(Int×Bool)) :=
 frk t48 ((lget zat 1).bind fun v8=>(self1 ((zp,zq),t1,v8,t3)).bind fun v9=>some v9) (frk zq (Dspec_l11Take_2 n self1 zg zh zi zj zay zp true) (Dspec_l11Take_3 n self1 t1 t3 ((t3.length:Int)==24) zah zai zaj zak zal zat zg zh zi zj zay zp zq))
theorem Tspec_l11Take_1{Y}(n:Nat)(self1:((Int×Bool)×Bool×Sol×(List Pl))→Option (Sol×(Int×Bool)))(hself1:∀(a:((Int×Bool)×Bool×Sol×(List Pl))) (r:(Sol×(Int×Bool))),self1 a=some r→Big Tryz.prog H Y (.call 148 [.ptr 1000 0,bl a.2.1,eF a.2.2.1,.sl false 4 a.2.2.2.length ((ePl).f a.2.2.2)] (lk [(1000,⟨true,0,[i64 a.1.1,bl a.1.2]⟩)]) (eS r.1) (lk [(1000,⟨true,0,[i64 r.2.1,bl r.2.2]⟩)])))(t1:Bool)(t3:List Pl)(t48 zah:Bool)(zai zaj zak zal:Int)(zat:List Sol)(zg:Bool)(zh zi zj zay zp:Int)(zq:Bool)(r:(Sol×(Int×Bool)))(h:Dspec_l11Take_1 n self1 t1 t3 t48 zah zai zaj zak zal zat zg zh zi zj zay zp zq=some r):Wk Tryz.prog H Y 148 [.code (cp [1,1,1,1,0,0,1,1,1] (bodyOf Tryz.f148)),.blk 0,.code (cp [1,1,1,1,1] (bodyOf Tryz.f148))] (FinX Tryz.prog Tryz.f148 [(1000,⟨true,0,[.bad,.bad]⟩)] (eS r.1) [(1000,⟨true,0,[i64 r.2.1,bl r.2.2]⟩)]) ⟨[(0,.ptr 1000 0),(1,bl t1),(3,.sl false 4 t3.length ((ePl).f t3)),(6,.ptr 6 0),(8,.ptr 8 0),(48,bl t48)],[(6,⟨true,0,[bl zah,i64 zai,i64 zaj,i64 zak,i64 zal,.sl false 6 zat.length ((eSol false).f zat)]⟩),(8,⟨true,0,[bl zg,i64 zh,i64 zi,i64 zj,i64 zay,.nil]⟩),(1000,⟨true,0,[i64 zp,bl zq]⟩)]⟩:=by
 unfold Dspec_l11Take_1 at h
 refine x_frk 0 [] onil h (by kernel_rfl) (fun h=>?_) (fun h=>?_)
 ·obtain⟨v8,y8,h⟩:=bm h
  obtain⟨v9,y9,h⟩:=bm h
  replace h:=sj h;subst h
  exact x_end 12 [(4,.val (.cptr ((eSol false).c v8++(eSol false).f ((zat).drop (Int.toNat 1+1))))),(2,.call [] [] (eS v9.1) [(1000,⟨true,0,[i64 v9.2.1,bl v9.2.2]⟩)])] [] (ocons (ix (eSol false) y8) (ocons (hself1 ((zp,zq),t1,v8,t3) _ y9) onil)) onil 
 ·refine x_frk 7 [] onil h (by kernel_rfl) (fun h=>?_) (fun h=>?_)
  ·exact x_to 15 [] onil (Tspec_l11Take_2 n self1 hself1 zg zh zi zj zay zp true r h) 
  ·exact x_to 6 [] onil (Tspec_l11Take_3 n self1 hself1 t1 t3 ((t3.length:Int)==24) zah zai zaj zak zal zat zg zh zi zj zay zp zq r h) 
def Dspec_l11Take_4(n:Nat)(self1:((Int×Bool)×Bool×Sol×(List Pl))→Option (Sol×(Int×Bool)))(t1:Bool)(t3:List Pl)(zah:Bool)(zai zaj zak zal:Int)(zat:List Sol)(zg:Bool)(zh zi zj zay zp:Int)(zq:Bool):Option (Sol×(Int×Bool)) :=
 frk zq (Dspec_l11Take_2 n self1 zg zh zi zj zay zp true) (Dspec_l11Take_3 n self1 t1 t3 ((t3.length:Int)==24) zah zai zaj zak zal zat zg zh zi zj zay zp zq)
theorem Tspec_l11Take_4{Y}(n:Nat)(self1:((Int×Bool)×Bool×Sol×(List Pl))→Option (Sol×(Int×Bool)))(hself1:∀(a:((Int×Bool)×Bool×Sol×(List Pl))) (r:(Sol×(Int×Bool))),self1 a=some r→Big Tryz.prog H Y (.call 148 [.ptr 1000 0,bl a.2.1,eF a.2.2.1,.sl false 4 a.2.2.2.length ((ePl).f a.2.2.2)] (lk [(1000,⟨true,0,[i64 a.1.1,bl a.1.2]⟩)]) (eS r.1) (lk [(1000,⟨true,0,[i64 r.2.1,bl r.2.2]⟩)])))(t1:Bool)(t3:List Pl)(zah:Bool)(zai zaj zak zal:Int)(zat:List Sol)(zg:Bool)(zh zi zj zay zp:Int)(zq:Bool)(r:(Sol×(Int×Bool)))(h:Dspec_l11Take_4 n self1 t1 t3 zah zai zaj zak zal zat zg zh zi zj zay zp zq=some r):Wk Tryz.prog H Y 148 [.code (cp [1,1,1,1,0,0,1,1,1,1,0] (bodyOf Tryz.f148)),.code (cp [1,1,1,1,0,0,1,1,1,1,1] (bodyOf Tryz.f148)),.blk 0,.code (cp [1,1,1,1,1] (bodyOf Tryz.f148))] (FinX Tryz.prog Tryz.f148 [(1000,⟨true,0,[.bad,.bad]⟩)] (eS r.1) [(1000,⟨true,0,[i64 r.2.1,bl r.2.2]⟩)]) ⟨[(0,.ptr 1000 0),(1,bl t1),(3,.sl false 4 t3.length ((ePl).f t3)),(6,.ptr 6 0),(8,.ptr 8 0)],[(6,⟨true,0,[bl zah,i64 zai,i64 zaj,i64 zak,i64 zal,.sl false 6 zat.length ((eSol false).f zat)]⟩),(8,⟨true,0,[bl zg,i64 zh,i64 zi,i64 zj,i64 zay,.nil]⟩),(1000,⟨true,0,[i64 zp,bl zq]⟩)]⟩:=by
 unfold Dspec_l11Take_4 at h
 refine x_frk 6 [] onil h (by kernel_rfl) (fun h=>?_) (fun h=>?_)
 ·exact x_to 15 [] onil (Tspec_l11Take_2 n self1 hself1 zg zh zi zj zay zp true r h) 
 ·exact x_to 6 [] onil (Tspec_l11Take_3 n self1 hself1 t1 t3 ((t3.length:Int)==24) zah zai zaj zak zal zat zg zh zi zj zay zp zq r h) 
def Dspec_l11Take_0(n:Nat)(self1:((Int×Bool)×Bool×Sol×(List Pl))→Option (Sol×(Int×Bool)))(t1:Bool)(t3:List Pl)(t9 t10 t34 zah:Bool)(zai zaj zak zal:Int)(zat:List Sol)(zg:Bool)(zh zi zj zay zp:Int)(zq:Bool):Option (Sol×(Int×Bool)) :=
 frk t34 ((lget zat 0).bind fun v6=>(self1 ((zp,zq),t1,v6,t3)).bind fun v7=>some v7) (frk t10 (Dspec_l11Take_1 n self1 t1 t3 (!t9) zah zai zaj zak zal zat zg zh zi zj zay zp zq) (Dspec_l11Take_4 n self1 t1 t3 zah zai zaj zak zal zat zg zh zi zj zay zp zq))
theorem Tspec_l11Take_0{Y}(n:Nat)(self1:((Int×Bool)×Bool×Sol×(List Pl))→Option (Sol×(Int×Bool)))(hself1:∀(a:((Int×Bool)×Bool×Sol×(List Pl))) (r:(Sol×(Int×Bool))),self1 a=some r→Big Tryz.prog H Y (.call 148 [.ptr 1000 0,bl a.2.1,eF a.2.2.1,.sl false 4 a.2.2.2.length ((ePl).f a.2.2.2)] (lk [(1000,⟨true,0,[i64 a.1.1,bl a.1.2]⟩)]) (eS r.1) (lk [(1000,⟨true,0,[i64 r.2.1,bl r.2.2]⟩)])))(t1:Bool)(t3:List Pl)(t9 t10 t34 zah:Bool)(zai zaj zak zal:Int)(zat:List Sol)(zg:Bool)(zh zi zj zay zp:Int)(zq:Bool)(r:(Sol×(Int×Bool)))(h:Dspec_l11Take_0 n self1 t1 t3 t9 t10 t34 zah zai zaj zak zal zat zg zh zi zj zay zp zq=some r):Wk Tryz.prog H Y 148 [.code (cp [1,1,1,1,0,0,1] (bodyOf Tryz.f148)),.blk 0,.code (cp [1,1,1,1,1] (bodyOf Tryz.f148))] (FinX Tryz.prog Tryz.f148 [(1000,⟨true,0,[.bad,.bad]⟩)] (eS r.1) [(1000,⟨true,0,[i64 r.2.1,bl r.2.2]⟩)]) ⟨[(0,.ptr 1000 0),(1,bl t1),(3,.sl false 4 t3.length ((ePl).f t3)),(6,.ptr 6 0),(8,.ptr 8 0),(9,bl t9),(10,bl t10),(34,bl t34)],[(6,⟨true,0,[bl zah,i64 zai,i64 zaj,i64 zak,i64 zal,.sl false 6 zat.length ((eSol false).f zat)]⟩),(8,⟨true,0,[bl zg,i64 zh,i64 zi,i64 zj,i64 zay,.nil]⟩),(1000,⟨true,0,[i64 zp,bl zq]⟩)]⟩:=by
 unfold Dspec_l11Take_0 at h
 refine x_frk 0 [] onil h (by kernel_rfl) (fun h=>?_) (fun h=>?_)
 ·obtain⟨v6,y6,h⟩:=bm h
  obtain⟨v7,y7,h⟩:=bm h
  replace h:=sj h;subst h
  exact x_end 12 [(4,.val (.cptr ((eSol false).c v6++(eSol false).f ((zat).drop (Int.toNat 0+1))))),(2,.call [] [] (eS v7.1) [(1000,⟨true,0,[i64 v7.2.1,bl v7.2.2]⟩)])] [] (ocons (ix (eSol false) y6) (ocons (hself1 ((zp,zq),t1,v6,t3) _ y7) onil)) onil 
 ·refine x_frk 4 [] onil h (by kernel_rfl) (fun h=>?_) (fun h=>?_)
  ·exact x_to 5 [] onil (Tspec_l11Take_1 n self1 hself1 t1 t3 (!t9) zah zai zaj zak zal zat zg zh zi zj zay zp zq r h) 
  ·exact x_to 7 [] onil (Tspec_l11Take_4 n self1 hself1 t1 t3 zah zai zaj zak zal zat zg zh zi zj zay zp zq r h) 
def Dspec_l11Take_5(n:Nat)(self1:((Int×Bool)×Bool×Sol×(List Pl))→Option (Sol×(Int×Bool)))(t1:Bool)(t3:List Pl)(t9 t10 zah:Bool)(zai zaj zak zal:Int)(zat:List Sol)(zg:Bool)(zh zi zj zay zp:Int)(zq:Bool):Option (Sol×(Int×Bool)) :=
 frk t10 (Dspec_l11Take_1 n self1 t1 t3 (!t9) zah zai zaj zak zal zat zg zh zi zj zay zp zq) (Dspec_l11Take_4 n self1 t1 t3 zah zai zaj zak zal zat zg zh zi zj zay zp zq)
theorem Tspec_l11Take_5{Y}(n:Nat)(self1:((Int×Bool)×Bool×Sol×(List Pl))→Option (Sol×(Int×Bool)))(hself1:∀(a:((Int×Bool)×Bool×Sol×(List Pl))) (r:(Sol×(Int×Bool))),self1 a=some r→Big Tryz.prog H Y (.call 148 [.ptr 1000 0,bl a.2.1,eF a.2.2.1,.sl false 4 a.2.2.2.length ((ePl).f a.2.2.2)] (lk [(1000,⟨true,0,[i64 a.1.1,bl a.1.2]⟩)]) (eS r.1) (lk [(1000,⟨true,0,[i64 r.2.1,bl r.2.2]⟩)])))(t1:Bool)(t3:List Pl)(t9 t10 zah:Bool)(zai zaj zak zal:Int)(zat:List Sol)(zg:Bool)(zh zi zj zay zp:Int)(zq:Bool)(r:(Sol×(Int×Bool)))(h:Dspec_l11Take_5 n self1 t1 t3 t9 t10 zah zai zaj zak zal zat zg zh zi zj zay zp zq=some r):Wk Tryz.prog H Y 148 [.code (cp [1,1,1,1,0,0,1,1,0] (bodyOf Tryz.f148)),.code (cp [1,1,1,1,0,0,1,1,1] (bodyOf Tryz.f148)),.blk 0,.code (cp [1,1,1,1,1] (bodyOf Tryz.f148))] (FinX Tryz.prog Tryz.f148 [(1000,⟨true,0,[.bad,.bad]⟩)] (eS r.1) [(1000,⟨true,0,[i64 r.2.1,bl r.2.2]⟩)]) ⟨[(0,.ptr 1000 0),(1,bl t1),(3,.sl false 4 t3.length ((ePl).f t3)),(6,.ptr 6 0),(8,.ptr 8 0),(9,bl t9),(10,bl t10)],[(6,⟨true,0,[bl zah,i64 zai,i64 zaj,i64 zak,i64 zal,.sl false 6 zat.length ((eSol false).f zat)]⟩),(8,⟨true,0,[bl zg,i64 zh,i64 zi,i64 zj,i64 zay,.nil]⟩),(1000,⟨true,0,[i64 zp,bl zq]⟩)]⟩:=by
 unfold Dspec_l11Take_5 at h
 refine x_frk 3 [] onil h (by kernel_rfl) (fun h=>?_) (fun h=>?_)
 ·exact x_to 5 [] onil (Tspec_l11Take_1 n self1 hself1 t1 t3 (!t9) zah zai zaj zak zal zat zg zh zi zj zay zp zq r h) 
 ·exact x_to 7 [] onil (Tspec_l11Take_4 n self1 hself1 t1 t3 zah zai zaj zak zal zat zg zh zi zj zay zp zq r h) 
def Dspec_l11Take_b(n:Nat)(self1:((Int×Bool)×Bool×Sol×(List Pl))→Option (Sol×(Int×Bool)))(a:((Int×Bool)×Bool×Sol×(List Pl))):Option (Sol×(Int×Bool)) :=
 match a with
 | (a0,a1,a2,a3)=>(Dspec_l8Leaf a2).bind fun v0=>frk v0 ((Dspec_l11In a0.1 a1 a2.inn).bind fun v1=>(Dspec_Leaf v1).bind fun v2=>some (v2,a0)) ((Dspec_l6With n a3 a2.pl).bind fun v3=>(Dspec_l3Flip a2.pl).bind fun v4=>(Dspec_l6With n a3 v4).bind fun v5=>frk (!v3) (Dspec_l11Take_0 n self1 a1 a3 (!v3) (!v5) (!(!v5)) a2.inn a2.pl.A a2.pl.B a2.pl.C a2.pl.D a2.kids false 0 0 0 0 a0.1 a0.2) (Dspec_l11Take_5 n self1 a1 a3 (!v3) (!v5) a2.inn a2.pl.A a2.pl.B a2.pl.C a2.pl.D a2.kids false 0 0 0 0 a0.1 a0.2))
def Dspec_l11Take(n:Nat)(a0:(Int×Bool))(a1:Bool)(a2:Sol)(a3:(List Pl)):Option (Sol×(Int×Bool)):=loopN (Dspec_l11Take_b n) n (a0,a1,a2,a3)
theorem Tspec_l11Take_b{Y}(n:Nat):∀(m:Nat) (a:((Int×Bool)×Bool×Sol×(List Pl))) (r:(Sol×(Int×Bool))),loopN (Dspec_l11Take_b n) m a=some r→∀(_:Unit),Big Tryz.prog H Y (.call 148 [.ptr 1000 0,bl a.2.1,eF a.2.2.1,.sl false 4 a.2.2.2.length ((ePl).f a.2.2.2)] (lk [(1000,⟨true,0,[i64 a.1.1,bl a.1.2]⟩)]) (eS r.1) (lk [(1000,⟨true,0,[i64 r.2.1,bl r.2.2]⟩)])):=by
 refine loopN_ind (fun self1 hs a r h=>?_)
 have hself1:∀(a:((Int×Bool)×Bool×Sol×(List Pl))) (r:(Sol×(Int×Bool))),self1 a=some r→Big Tryz.prog H Y (.call 148 [.ptr 1000 0,bl a.2.1,eF a.2.2.1,.sl false 4 a.2.2.2.length ((ePl).f a.2.2.2)] (lk [(1000,⟨true,0,[i64 a.1.1,bl a.1.2]⟩)]) (eS r.1) (lk [(1000,⟨true,0,[i64 r.2.1,bl r.2.2]⟩)])):=fun a r h=>hs a r h ()
 intro _
 obtain⟨a0,a1,a2,a3⟩:=a
 unfold Dspec_l11Take_b at h
 refine x_call (fn:=Tryz.f148) (c:=bodyOf Tryz.f148) (bs0:=[(1000,⟨true,0,[.bad,.bad]⟩)]) Tryz.func148 (by kernel_rfl) (by kernel_rfl) ?_
 obtain⟨v0,y0,h⟩:=bm h
 refine x_frk 11 [(3,.call [] [] (bl v0) [])] (ocons (Tspec_l8Leaf (Y:=Y) a2 _ y0) onil) h (by kernel_rfl) (fun h=>?_) (fun h=>?_)
 ·obtain⟨v1,y1,h⟩:=bm h
  obtain⟨v2,y2,h⟩:=bm h
  replace h:=sj h;subst h
  exact x_end 13 [(7,.call [] [] (bl v1) []),(0,.call [] [] (eS v2) [])] [] (ocons (Tspec_l11In (Y:=Y) a0.1 a1 a2.inn _ y1) (ocons (Tspec_Leaf (Y:=Y) v1 _ y2) onil)) onil 
 ·obtain⟨v3,y3,h⟩:=bm h
  obtain⟨v4,y4,h⟩:=bm h
  obtain⟨v5,y5,h⟩:=bm h
  refine x_frk 26 [(3,.call [] [] (bl v3) []),(5,.call [] [] (.agg [i64 v4.A,i64 v4.B,i64 v4.C,i64 v4.D]) []),(0,.call [] [] (bl v5) [])] (ocons (Tspec_l6With (Y:=Y) n a3 a2.pl _ y3) (ocons (Tspec_l3Flip (Y:=Y) a2.pl _ y4) (ocons (Tspec_l6With (Y:=Y) n a3 v4 _ y5) onil))) h (by kernel_rfl) (fun h=>?_) (fun h=>?_)
  ·exact x_to 5 [] onil (Tspec_l11Take_0 n self1 hself1 a1 a3 (!v3) (!v5) (!(!v5)) a2.inn a2.pl.A a2.pl.B a2.pl.C a2.pl.D a2.kids false 0 0 0 0 a0.1 a0.2 r h) 
  ·exact x_to 7 [] onil (Tspec_l11Take_5 n self1 hself1 a1 a3 (!v3) (!v5) a2.inn a2.pl.A a2.pl.B a2.pl.C a2.pl.D a2.kids false 0 0 0 0 a0.1 a0.2 r h) 
theorem Tspec_l11Take{Y}(n:Nat)(a0:(Int×Bool))(a1:Bool)(a2:Sol)(a3:(List Pl))(r:(Sol×(Int×Bool)))(h:Dspec_l11Take n a0 a1 a2 a3=some r):Big Tryz.prog H Y (.call 148 [.ptr 1000 0,bl a1,eF a2,.sl false 4 a3.length ((ePl).f a3)] (lk [(1000,⟨true,0,[i64 a0.1,bl a0.2]⟩)]) (eS r.1) (lk [(1000,⟨true,0,[i64 r.2.1,bl r.2.2]⟩)])):=Tspec_l11Take_b n n (a0,a1,a2,a3) r h ()
def Dspec_l11Both_b(n:Nat)(self:((Int×Bool)×Sol×Sol×(List Pl))→Option (Sol×(Int×Bool)))(a:((Int×Bool)×Sol×Sol×(List Pl))):Option (Sol×(Int×Bool)) :=
 match a with
 | (a0,a1,a2,a3)=>(Dspec_l8Leaf a1).bind fun v0=>frk v0 ((Dspec_l11Take n a0 a1.inn a2 a3).bind fun v1=>some v1) ((lget a1.kids 0).bind fun v2=>(Dspec_l8Path a3 a1.pl).bind fun v3=>(self (a0,v2,a2,v3)).bind fun v4=>(lget a1.kids 1).bind fun v5=>(Dspec_l3Flip a1.pl).bind fun v6=>(Dspec_l8Path a3 v6).bind fun v7=>(self (v4.2,v5,a2,v7)).bind fun v8=>(Dspec_l11Nodeo1o2 a1.pl v4.1 v8.1).bind fun v9=>some (v9,v8.2))
def Dspec_l11Both(n:Nat)(a0:(Int×Bool))(a1:Sol)(a2:Sol)(a3:(List Pl)):Option (Sol×(Int×Bool)):=loopN (Dspec_l11Both_b n) n (a0,a1,a2,a3)
theorem Tspec_l11Both_b{Y}(n:Nat):∀(m:Nat) (a:((Int×Bool)×Sol×Sol×(List Pl))) (r:(Sol×(Int×Bool))),loopN (Dspec_l11Both_b n) m a=some r→∀(_:Unit),Big Tryz.prog H Y (.call 88 [.ptr 1000 0,eF a.2.1,eF a.2.2.1,.sl false 4 a.2.2.2.length ((ePl).f a.2.2.2)] (lk [(1000,⟨true,0,[i64 a.1.1,bl a.1.2]⟩)]) (eS r.1) (lk [(1000,⟨true,0,[i64 r.2.1,bl r.2.2]⟩)])):=by
 refine loopN_ind (fun self hs a r h=>?_)
 have hself:∀(a:((Int×Bool)×Sol×Sol×(List Pl))) (r:(Sol×(Int×Bool))),self a=some r→Big Tryz.prog H Y (.call 88 [.ptr 1000 0,eF a.2.1,eF a.2.2.1,.sl false 4 a.2.2.2.length ((ePl).f a.2.2.2)] (lk [(1000,⟨true,0,[i64 a.1.1,bl a.1.2]⟩)]) (eS r.1) (lk [(1000,⟨true,0,[i64 r.2.1,bl r.2.2]⟩)])):=fun a r h=>hs a r h ()
 intro _
 obtain⟨a0,a1,a2,a3⟩:=a
 unfold Dspec_l11Both_b at h
 refine x_call (fn:=Tryz.f88) (c:=bodyOf Tryz.f88) (bs0:=[(1000,⟨true,0,[.bad,.bad]⟩)]) Tryz.func88 (by kernel_rfl) (by kernel_rfl) ?_
 obtain⟨v0,y0,h⟩:=bm h
 refine x_frk 12 [(4,.call [] [] (bl v0) [])] (ocons (Tspec_l8Leaf (Y:=Y) a1 _ y0) onil) h (by kernel_rfl) (fun h=>?_) (fun h=>?_)
 ·obtain⟨v1,y1,h⟩:=bm h
  replace h:=sj h;subst h
  exact x_end 10 [(5,.call [] [] (eS v1.1) [(1000,⟨true,0,[i64 v1.2.1,bl v1.2.2]⟩)])] [] (ocons (Tspec_l11Take (Y:=Y) n a0 a1.inn a2 a3 _ y1) onil) onil 
 ·obtain⟨v2,y2,h⟩:=bm h
  obtain⟨v3,y3,h⟩:=bm h
  obtain⟨v4,y4,h⟩:=bm h
  obtain⟨v5,y5,h⟩:=bm h
  obtain⟨v6,y6,h⟩:=bm h
  obtain⟨v7,y7,h⟩:=bm h
  obtain⟨v8,y8,h⟩:=bm h
  obtain⟨v9,y9,h⟩:=bm h
  replace h:=sj h;subst h
  exact x_end 37 [(3,.val (.cptr ((eSol false).c v2++(eSol false).f ((a1.kids).drop (Int.toNat 0+1))))),(5,.call [] [] (.sl false 4 v3.length ((ePl).f v3)) []),(0,.call [] [] (eS v4.1) [(1000,⟨true,0,[i64 v4.2.1,bl v4.2.2]⟩)]),(8,.val (.cptr ((eSol false).c v5++(eSol false).f ((a1.kids).drop (Int.toNat 1+1))))),(5,.call [] [] (.agg [i64 v6.A,i64 v6.B,i64 v6.C,i64 v6.D]) []),(0,.call [] [] (.sl false 4 v7.length ((ePl).f v7)) []),(0,.call [] [] (eS v8.1) [(1000,⟨true,0,[i64 v8.2.1,bl v8.2.2]⟩)]),(0,.call [] [] (eS v9) [])] [] (ocons (ix (eSol false) y2) (ocons (shSl (L:=v3) ePl ePl sPl (Tspec_l8Path (Y:=Y) a3 a1.pl _ y3)) (ocons (hself (a0,v2,a2,v3) _ y4) (ocons (ix (eSol false) y5) (ocons (Tspec_l3Flip (Y:=Y) a1.pl _ y6) (ocons (shSl (L:=v7) ePl ePl sPl (Tspec_l8Path (Y:=Y) a3 v6 _ y7)) (ocons (hself (v4.2,v5,a2,v7) _ y8) (ocons (Tspec_l11Nodeo1o2 (Y:=Y) a1.pl v4.1 v8.1 _ y9) onil)))))))) onil 
theorem Tspec_l11Both{Y}(n:Nat)(a0:(Int×Bool))(a1:Sol)(a2:Sol)(a3:(List Pl))(r:(Sol×(Int×Bool)))(h:Dspec_l11Both n a0 a1 a2 a3=some r):Big Tryz.prog H Y (.call 88 [.ptr 1000 0,eF a1,eF a2,.sl false 4 a3.length ((ePl).f a3)] (lk [(1000,⟨true,0,[i64 a0.1,bl a0.2]⟩)]) (eS r.1) (lk [(1000,⟨true,0,[i64 r.2.1,bl r.2.2]⟩)])):=Tspec_l11Both_b n n (a0,a1,a2,a3) r h ()
def Dspec_Put_0(_n:Nat)(_zah:Bool)(_zai _zaj _zak _zal:Int):Option (Sol×Bool) :=
 (Dspec_Leaf false).bind fun v1=>some (v1,false)
theorem Tspec_Put_0{Y}(n:Nat)(zah:Bool)(zai zaj zak zal:Int)(r:(Sol×Bool))(h:Dspec_Put_0 n zah zai zaj zak zal=some r):Wk Tryz.prog H Y 23 [.code (cp [1,0,1,0,0] (bodyOf Tryz.f23)),.code (cp [1,0,1,0,1] (bodyOf Tryz.f23)),.code (cp [1,1] (bodyOf Tryz.f23))] (FinX Tryz.prog Tryz.f23 [] (.tup [eS r.1,bl r.2]) []) ⟨[(6,.ptr 6 0)],[(6,⟨true,0,[bl zah,i64 zai,i64 zaj,i64 zak,i64 zal,.nil]⟩)]⟩:=by
 unfold Dspec_Put_0 at h
 obtain⟨v1,y1,h⟩:=bm h
 replace h:=sj h;subst h
 exact x_end 5 [(0,.call [] [] (eS v1) [])] [] (ocons (Tspec_Leaf (Y:=Y) false _ y1) onil) onil 
def Dspec_Put_2(_n:Nat)(_zah:Bool)(_zai _zaj _zak _zal:Int):Option (Sol×Bool) :=
 (Dspec_Leaf false).bind fun v6=>some (v6,false)
theorem Tspec_Put_2{Y}(n:Nat)(zah:Bool)(zai zaj zak zal:Int)(r:(Sol×Bool))(h:Dspec_Put_2 n zah zai zaj zak zal=some r):Wk Tryz.prog H Y 23 [.code (cp [1,1,1,1,0,1,0,0] (bodyOf Tryz.f23)),.code (cp [1,1,1,1,0,1,0,1] (bodyOf Tryz.f23)),.code (cp [1,1,1,1,1] (bodyOf Tryz.f23))] (FinX Tryz.prog Tryz.f23 [] (.tup [eS r.1,bl r.2]) []) ⟨[(6,.ptr 6 0)],[(6,⟨true,0,[bl zah,i64 zai,i64 zaj,i64 zak,i64 zal,.nil]⟩)]⟩:=by
 unfold Dspec_Put_2 at h
 obtain⟨v6,y6,h⟩:=bm h
 replace h:=sj h;subst h
 exact x_end 5 [(0,.call [] [] (eS v6) [])] [] (ocons (Tspec_Leaf (Y:=Y) false _ y6) onil) onil 
def Dspec_Put_3(_n:Nat)(t40 _zah:Bool)(_zai _zaj _zak _zal:Int)(zae:Bool)(zaf zag zbd zbe:Int)(zbf:List Sol):Option (Sol×Bool) :=
 frk t40 ((Dspec_Leaf false).bind fun v8=>some (v8,false)) (some ((Sol.mk zae (Pl.mk zaf zag zbd zbe) zbf),true))
theorem Tspec_Put_3{Y}(n:Nat)(t40 zah:Bool)(zai zaj zak zal:Int)(zae:Bool)(zaf zag zbd zbe:Int)(zbf:List Sol)(r:(Sol×Bool))(h:Dspec_Put_3 n t40 zah zai zaj zak zal zae zaf zag zbd zbe zbf=some r):Wk Tryz.prog H Y 23 [.code (cp [1,1,1,1,0,1] (bodyOf Tryz.f23)),.code (cp [1,1,1,1,1] (bodyOf Tryz.f23))] (FinX Tryz.prog Tryz.f23 [] (.tup [eS r.1,bl r.2]) []) ⟨[(6,.ptr 6 0),(9,.ptr 9 0),(40,bl t40)],[(6,⟨true,0,[bl zah,i64 zai,i64 zaj,i64 zak,i64 zal,.nil]⟩),(9,⟨true,0,[bl zae,i64 zaf,i64 zag,i64 zbd,i64 zbe,.sl true 6 zbf.length ((eSol true).f zbf)]⟩)]⟩:=by
 unfold Dspec_Put_3 at h
 refine x_frk 0 [] onil h (by kernel_rfl) (fun h=>?_) (fun h=>?_)
 ·obtain⟨v8,y8,h⟩:=bm h
  replace h:=sj h;subst h
  exact x_end 6 [(0,.call [] [] (eS v8) [])] [] (ocons (Tspec_Leaf (Y:=Y) false _ y8) onil) onil 
 ·replace h:=sj h;subst h
  exact x_end 7 [] [] onil onil 
def Dspec_Put_1(n:Nat)(t2:Int)(t22 ze:Bool)(zf zs zt zas:Int)(zaz:List Sol)(za:Bool)(zu zv zw zam:Int)(zax:List Sol)(zah:Bool)(zai zaj zak zal:Int):Option (Sol×Bool) :=
 frk t22 ((Dspec_Leaf false).bind fun v4=>some (v4,false)) ((Dspec_l11Both n (t2,false) (Sol.mk ze (Pl.mk zf zs zt zas) zaz) (Sol.mk za (Pl.mk zu zv zw zam) zax) []).bind fun v5=>frk v5.2.2 (Dspec_Put_2 n zah zai zaj zak zal) ((Dspec_l8Count n v5.1 301).bind fun v7=>Dspec_Put_3 n (decide (v7>300)) zah zai zaj zak zal v5.1.inn v5.1.pl.A v5.1.pl.B v5.1.pl.C v5.1.pl.D v5.1.kids))
theorem Tspec_Put_1{Y}(n:Nat)(t2:Int)(t22 ze:Bool)(zf zs zt zas:Int)(zaz:List Sol)(za:Bool)(zu zv zw zam:Int)(zax:List Sol)(zah:Bool)(zai zaj zak zal:Int)(r:(Sol×Bool))(h:Dspec_Put_1 n t2 t22 ze zf zs zt zas zaz za zu zv zw zam zax zah zai zaj zak zal=some r):Wk Tryz.prog H Y 23 [.code (cp [1,0,1] (bodyOf Tryz.f23)),.code (cp [1,1] (bodyOf Tryz.f23))] (FinX Tryz.prog Tryz.f23 [] (.tup [eS r.1,bl r.2]) []) ⟨[(2,i64 t2),(3,.ptr 3 0),(4,.ptr 4 0),(6,.ptr 6 0),(22,bl t22)],[(3,⟨true,0,[bl ze,i64 zf,i64 zs,i64 zt,i64 zas,.sl false 6 zaz.length ((eSol false).f zaz)]⟩),(4,⟨true,0,[bl za,i64 zu,i64 zv,i64 zw,i64 zam,.sl false 6 zax.length ((eSol false).f zax)]⟩),(6,⟨true,0,[bl zah,i64 zai,i64 zaj,i64 zak,i64 zal,.nil]⟩)]⟩:=by
 unfold Dspec_Put_1 at h
 refine x_frk 0 [] onil h (by kernel_rfl) (fun h=>?_) (fun h=>?_)
 ·obtain⟨v4,y4,h⟩:=bm h
  replace h:=sj h;subst h
  exact x_end 6 [(0,.call [] [] (eS v4) [])] [] (ocons (Tspec_Leaf (Y:=Y) false _ y4) onil) onil 
 ·obtain⟨v5,y5,h⟩:=bm h
  refine x_frk 26 [(8,.call [] [(ePl).f []] (eS v5.1) [(1000,⟨true,0,[i64 v5.2.1,bl v5.2.2]⟩)])] (ocons (Tspec_l11Both (Y:=Y) n (t2,false) (Sol.mk ze (Pl.mk zf zs zt zas) zaz) (Sol.mk za (Pl.mk zu zv zw zam) zax) [] _ y5) (ocons (len_row (L:=[]) ePl) (ocons (Enc.share ePl ePl sPl []) (ocons (show hasSh (eS v5.1)=false by simp[eS,hasSh,hasShL,nSh,nShI,nShB,nShP,nShT,nShN,nShPs]) onil)))) h (by kernel_rfl) (fun h=>?_) (fun h=>?_)
  ·exact x_to 7 [] onil (Tspec_Put_2 n zah zai zaj zak zal r h) 
  ·obtain⟨v7,y7,h⟩:=bm h
   exact x_to 5 [(0,.rows [(eSol false).f v5.1.kids]),(0,.call [] [] (i64 v7) [])] (ocons (Enc.share (eSol true) (eSol false) (sSol true) v5.1.kids) (ocons (Tspec_l8Count (Y:=Y) n v5.1 301 _ y7) onil)) (Tspec_Put_3 n (decide (v7>300)) zah zai zaj zak zal v5.1.inn v5.1.pl.A v5.1.pl.B v5.1.pl.C v5.1.pl.D v5.1.kids r h) 
def Dspec_Put(n:Nat)(a0:Sol)(a1:Sol)(a2:Int):Option (Sol×Bool) :=
 (Dspec_SolidOk n a0).bind fun v0=>frk (!v0) (Dspec_Put_0 n false 0 0 0 0) ((Dspec_SolidOk n a1).bind fun v2=>frk (!v2) (Dspec_Put_0 n false 0 0 0 0) ((Dspec_l1In a2 1 4).bind fun v3=>Dspec_Put_1 n a2 (!v3) a0.inn a0.pl.A a0.pl.B a0.pl.C a0.pl.D a0.kids a1.inn a1.pl.A a1.pl.B a1.pl.C a1.pl.D a1.kids false 0 0 0 0))
theorem Tspec_Put{Y}(n:Nat)(a0:Sol)(a1:Sol)(a2:Int)(r:(Sol×Bool))(h:Dspec_Put n a0 a1 a2=some r):Big Tryz.prog H Y (.call 23 [eF a0,eF a1,i64 a2] (lk []) (.tup [eS r.1,bl r.2]) (lk [])):=by
 unfold Dspec_Put at h
 refine x_call (fn:=Tryz.f23) (c:=bodyOf Tryz.f23) (bs0:=[]) Tryz.func23 (by kernel_rfl) (by kernel_rfl) ?_
 obtain⟨v0,y0,h⟩:=bm h
 refine x_frk 14 [(5,.call [] [] (bl v0) [])] (ocons (Tspec_SolidOk (Y:=Y) n a0 _ y0) onil) h (by kernel_rfl) (fun h=>?_) (fun h=>?_)
 ·exact x_to 12 [] onil (Tspec_Put_0 n false 0 0 0 0 r h) 
 ·obtain⟨v2,y2,h⟩:=bm h
  refine x_frk 5 [(1,.call [] [] (bl v2) [])] (ocons (Tspec_SolidOk (Y:=Y) n a1 _ y2) onil) h (by kernel_rfl) (fun h=>?_) (fun h=>?_)
  ·exact x_to 7 [] onil (Tspec_Put_0 n false 0 0 0 0 r h) 
  ·obtain⟨v3,y3,h⟩:=bm h
   exact x_to 5 [(1,.call [] [] (bl v3) [])] (ocons (Tspec_l1In (Y:=Y) a2 1 4 _ y3) onil) (Tspec_Put_1 n a2 (!v3) a0.inn a0.pl.A a0.pl.B a0.pl.C a0.pl.D a0.kids a1.inn a1.pl.A a1.pl.B a1.pl.C a1.pl.D a1.kids false 0 0 0 0 r h) 
def Dcmp_Or_0(_n:Nat)(t3:Int)(t6:List Int)(t7:Int)(rec0:Int→Option Int)(a:Int):Option Int :=
 match a with
 | t8=>frk (decide (t8<t7)) ((lget t6 t8).bind fun v0=>frk (v0 != t3) (some v0) (rec0 (w64 (t8+1)))) (some t3)
theorem Tcmp_Or_0{Y}(n:Nat)(t3:Int)(t6:List Int)(t7:Int):∀(m:Nat) (a r:Int),loopN (Dcmp_Or_0 n t3 t6 t7) m a=some r→Wk Tryz.prog H Y 193 [.code (cp [1,1,0,1,0] (bodyOf Tryz.f193)),.blk 0,.code (cp [1,1,1] (bodyOf Tryz.f193))] (FinX Tryz.prog Tryz.f193 [] (i64 r) []) ⟨[(3,i64 t3),(6,.sl false 1 t6.length ((eInt).f t6)),(7,i64 t7),(8,i64 a)],[]⟩:=by
 refine loopN_ind (fun _rec0 hrec0 a r h=>?_)
 obtain⟨t8,rfl⟩:∃x,x=a:=⟨a,rfl⟩
 unfold Dcmp_Or_0 at h
 refine x_frk 6 [] onil h (by kernel_rfl) (fun h=>?_) (fun h=>?_)
 ·obtain⟨v0,y0,h⟩:=bm h
  refine x_frk 15 [(0,.val (.cptr (eInt.c v0++(eInt).f ((t6).drop (Int.toNat t8+1)))))] (ocons (ix eInt y0) onil) h (by kernel_rfl) (fun h=>?_) (fun h=>?_)
  ·replace h:=sj h;subst h
   exact x_end 5 [] [] onil onil 
  ·exact x_to 7 [] onil (hrec0 (w64 (t8+1)) r h) 
 ·replace h:=sj h;subst h
  exact x_end 6 [] [] onil onil 
def Dcmp_Or(n:Nat)(a0:(List Int)):Option Int :=
 loopN (Dcmp_Or_0 n 0 a0 (a0.length:Int)) n 0
theorem Tcmp_Or{Y}(n:Nat)(a0:(List Int))(r:Int)(h:Dcmp_Or n a0=some r):Big Tryz.prog H Y (.call 193 [.sl false 1 a0.length ((eInt).f a0)] (lk []) (i64 r) (lk [])):=by
 unfold Dcmp_Or at h
 refine x_call (fn:=Tryz.f193) (c:=bodyOf Tryz.f193) (bs0:=[]) Tryz.func193 (by kernel_rfl) (by kernel_rfl) ?_
 exact x_to 16 [] onil (Tcmp_Or_0 n 0 a0 (a0.length:Int) n 0 r h) 
def Dimpl_CmpPlane(n:Nat)(a0:Pl)(a1:Pl):Option Int :=
 (Dcmp_Compare a0.A a1.A).bind fun v0=>(Dcmp_Compare a0.B a1.B).bind fun v1=>(Dcmp_Compare a0.C a1.C).bind fun v2=>(Dcmp_Compare a0.D a1.D).bind fun v3=>(Dcmp_Or n [v0,v1,v2,v3]).bind fun v4=>some v4
theorem Timpl_CmpPlane{Y}(n:Nat)(a0:Pl)(a1:Pl)(r:Int)(h:Dimpl_CmpPlane n a0 a1=some r):Big Tryz.prog H Y (.call 160 [.agg [i64 a0.A,i64 a0.B,i64 a0.C,i64 a0.D],.agg [i64 a1.A,i64 a1.B,i64 a1.C,i64 a1.D]] (lk []) (i64 r) (lk [])):=by
 unfold Dimpl_CmpPlane at h
 refine x_call (fn:=Tryz.f160) (c:=bodyOf Tryz.f160) (bs0:=[]) Tryz.func160 (by kernel_rfl) (by kernel_rfl) ?_
 obtain⟨v0,y0,h⟩:=bm h
 obtain⟨v1,y1,h⟩:=bm h
 obtain⟨v2,y2,h⟩:=bm h
 obtain⟨v3,y3,h⟩:=bm h
 obtain⟨v4,y4,h⟩:=bm h
 replace h:=sj h;subst h
 exact x_end 32 [(7,.call [] [] (i64 v0) []),(4,.call [] [] (i64 v1) []),(4,.call [] [] (i64 v2) []),(4,.call [] [] (i64 v3) []),(1,.call [] [(eInt).f [v0,v1,v2,v3]] (i64 v4) [])] [] (ocons (Tcmp_Compare (Y:=Y) a0.A a1.A _ y0) (ocons (Tcmp_Compare (Y:=Y) a0.B a1.B _ y1) (ocons (Tcmp_Compare (Y:=Y) a0.C a1.C _ y2) (ocons (Tcmp_Compare (Y:=Y) a0.D a1.D _ y3) (ocons (Tcmp_Or (Y:=Y) n [v0,v1,v2,v3] _ y4) (ocons (len_row (L:=[v0,v1,v2,v3]) eInt) (ocons (Enc.share eInt eInt sInt [v0,v1,v2,v3]) onil))))))) onil 
def Dimpl_greater(n:Nat)(a0:Pl):Option Pl :=
 (Dimpl_flip a0).bind fun v0=>(Dimpl_CmpPlane n v0 a0).bind fun v1=>frk (decide (v1>0)) (some v0) (some a0)
theorem Timpl_greater{Y}(n:Nat)(a0:Pl)(r:Pl)(h:Dimpl_greater n a0=some r):Big Tryz.prog H Y (.call 190 [.agg [i64 a0.A,i64 a0.B,i64 a0.C,i64 a0.D]] (lk []) (.agg [i64 r.A,i64 r.B,i64 r.C,i64 r.D]) (lk [])):=by
 unfold Dimpl_greater at h
 refine x_call (fn:=Tryz.f190) (c:=bodyOf Tryz.f190) (bs0:=[]) Tryz.func190 (by kernel_rfl) (by kernel_rfl) ?_
 obtain⟨v0,y0,h⟩:=bm h
 obtain⟨v1,y1,h⟩:=bm h
 refine x_frk 20 [(3,.call [] [] (.agg [i64 v0.A,i64 v0.B,i64 v0.C,i64 v0.D]) []),(4,.call [] [] (i64 v1) [])] (ocons (Timpl_flip (Y:=Y) a0 _ y0) (ocons (Timpl_CmpPlane (Y:=Y) n v0 a0 _ y1) onil)) h (by kernel_rfl) (fun h=>?_) (fun h=>?_)
 ·replace h:=sj h;subst h
  exact x_end 5 [] [] onil onil 
 ·replace h:=sj h;subst h
  exact x_end 6 [] [] onil onil 
def Dimpl_Solid_planes_b(n:Nat)(self:Sol→Option (List Pl))(a:Sol):Option (List Pl) :=
 match a with
 | a0=>(Dimpl_Solid_isLeaf a0).bind fun v0=>frk v0 (some []) ((lget a0.kids 0).bind fun v1=>(self v1).bind fun v2=>(Dimpl_greater n a0.pl).bind fun v3=>chk (apB 32 (v2.length+1)) ((lget a0.kids 1).bind fun v5=>(self v5).bind fun v6=>chk (apB 32 ((v2++[v3]).length+v6.length)) (some ((v2++[v3])++v6))))
def Dimpl_Solid_planes(n:Nat)(a0:Sol):Option (List Pl):=loopN (Dimpl_Solid_planes_b n) n a0
theorem Timpl_Solid_planes_b{Y}(n:Nat):∀(m:Nat) (a:Sol) (r:(List Pl)),loopN (Dimpl_Solid_planes_b n) m a=some r→∀(q0:List AV),Big Tryz.prog H Y (.call 158 [.cptr ([bl a.inn,i64 a.pl.A,i64 a.pl.B,i64 a.pl.C,i64 a.pl.D,.sl false 6 a.kids.length ((eSol false).f a.kids)]++q0)] (lk []) (.sl true 4 r.length ((ePl).f r)) (lk [])):=by
 refine loopN_ind (fun self hs a r h=>?_)
 have hself:∀(a:Sol) (q0:List AV) (r:(List Pl)),self a=some r→Big Tryz.prog H Y (.call 158 [.cptr ([bl a.inn,i64 a.pl.A,i64 a.pl.B,i64 a.pl.C,i64 a.pl.D,.sl false 6 a.kids.length ((eSol false).f a.kids)]++q0)] (lk []) (.sl true 4 r.length ((ePl).f r)) (lk [])):=fun a q0 r h=>hs a r h q0
 intro q0
 obtain⟨a0,rfl⟩:∃x,x=a:=⟨a,rfl⟩
 unfold Dimpl_Solid_planes_b at h
 refine x_call (fn:=Tryz.f158) (c:=bodyOf Tryz.f158) (bs0:=[]) Tryz.func158 (by kernel_rfl) (by kernel_rfl) ?_
 obtain⟨v0,y0,h⟩:=bm h
 refine x_frk 10 [(2,.call [] [] (bl v0) [])] (ocons (Timpl_Solid_isLeaf (Y:=Y) a0 q0 _ y0) onil) h (by kernel_rfl) (fun h=>?_) (fun h=>?_)
 ·replace h:=sj h;subst h
  exact x_end 4 [] [(true,4)] onil onil 
 ·obtain⟨v1,y1,h⟩:=bm h
  obtain⟨v2,y2,h⟩:=bm h
  obtain⟨v3,y3,h⟩:=bm h
  obtain⟨c4,h⟩:=chk_some h
  obtain⟨v5,y5,h⟩:=bm h
  obtain⟨v6,y6,h⟩:=bm h
  obtain⟨c7,h⟩:=chk_some h
  replace h:=sj h;subst h
  exact x_end 25 [(4,.val (.cptr ((eSol false).c v1++(eSol false).f ((a0.kids).drop (Int.toNat 0+1))))),(0,.call [] [] (.sl true 4 v2.length ((ePl).f v2)) []),(4,.call [] [] (.agg [i64 v3.A,i64 v3.B,i64 v3.C,i64 v3.D]) []),(1,.app false (List.length (v2++[v3])) ((ePl).f (v2++[v3]))),(4,.val (.cptr ((eSol false).c v5++(eSol false).f ((a0.kids).drop (Int.toNat 1+1))))),(0,.call [] [] (.sl false 4 v6.length ((ePl).f v6)) []),(0,.app false (List.length ((v2++[v3])++v6)) ((ePl).f ((v2++[v3])++v6)))] [] (ocons (ix (eSol false) y1) (ocons (hself v1 ((eSol false).f ((a0.kids).drop (Int.toNat 0+1))) _ y2) (ocons (Timpl_greater (Y:=Y) n a0.pl _ y3) (ocons (len_row' (L:=v2) ePl) (ocons (app_one (L:=v2) (M:=[v3]) ePl c4) (ocons (app_new (L:=v2) (M:=[v3]) ePl) (ocons (app_m (L:=v2) (M:=[v3]) ePl rfl) (ocons (len_row' (L:=[v3]) ePl) (ocons (Enc.noOwn ePl (fun _=>rfl) [v3]) (ocons (ix (eSol false) y5) (ocons (shSl (L:=v6) ePl ePl sPl (hself v5 ((eSol false).f ((a0.kids).drop (Int.toNat 1+1))) _ y6)) (ocons (len_row' (L:=(v2++[v3])) ePl) (ocons (app_one (L:=(v2++[v3])) (M:=v6) ePl c7) (ocons (app_new (L:=(v2++[v3])) (M:=v6) ePl) (ocons (app_m (L:=(v2++[v3])) (M:=v6) ePl rfl) (ocons (len_row' (L:=v6) ePl) onil)))))))))))))))) (ocons (len_row (L:=((v2++[v3])++v6)) ePl) onil) 
theorem Timpl_Solid_planes{Y}(n:Nat)(a0:Sol)(q0:List AV)(r:(List Pl))(h:Dimpl_Solid_planes n a0=some r):Big Tryz.prog H Y (.call 158 [.cptr ([bl a0.inn,i64 a0.pl.A,i64 a0.pl.B,i64 a0.pl.C,i64 a0.pl.D,.sl false 6 a0.kids.length ((eSol false).f a0.kids)]++q0)] (lk []) (.sl true 4 r.length ((ePl).f r)) (lk [])):=Timpl_Solid_planes_b n n a0 r h q0
theorem cmpD(a b:Int):Dcmp_Compare a b=some (cmpI a b):=by
 unfold Dcmp_Compare Dcmp_isNaN cmpI frk
 simp only[Option.bind_some,bne_self_eq_false]
 by_cases h1:a<b
 ·simp[h1]
 ·by_cases h2:a>b <;> simp[h1,h2]
theorem orD4(a b c d:Int):Dcmp_Or 9 [a,b,c,d]=some (or4 a b c d):=by
 unfold Dcmp_Or or4
 by_cases ha:a=0
 ·by_cases hb:b=0
  ·by_cases hc:c=0
   ·by_cases hd:d=0
    ·subst ha hb hc hd;rfl
    ·subst ha hb hc;simp[loopN,Dcmp_Or_0,frk,lget,w64,IntKind.wrap,IntKind.bits,IntKind.signed,hd]
   ·subst ha hb;simp[loopN,Dcmp_Or_0,frk,lget,w64,IntKind.wrap,IntKind.bits,IntKind.signed,hc]
  ·subst ha;simp[loopN,Dcmp_Or_0,frk,lget,w64,IntKind.wrap,IntKind.bits,IntKind.signed,hb]
 ·simp[loopN,Dcmp_Or_0,frk,lget,ha]
theorem CmpPlane_D(p q:Pl):Dimpl_CmpPlane 9 p q=some (cmpP p q):=by
 unfold Dimpl_CmpPlane
 simp only[cmpD,Option.bind_some,orD4]
 rfl
theorem srtPl_t{l l':List Pl}(h:DsrtPl l=some l'):l'.length=l.length∧TurnOk Tryz.prog 159 (fun u=>#[u,.func (.func 160) #[] #[]]) (.sl true 4 l.length (ePl.f l)) (.tuple #[]) (.sl true 4 l.length (ePl.f l')):=by
 unfold DsrtPl at h
 split at h
 ·rename_i hl
  replace h:=sj h;subst h
  refine⟨List.length_mergeSort _,?_⟩
  have:=sort_turn Tryz.sortPlane 4 (by decide) Tryz.isAgg25 Tryz.sizeOf25 vPl vPl_k vPl_pl cmpP swoP totP 160 (Go.Proofs.enters_of Tryz.func160 (by kernel_rfl) rfl) (cmp_of eqW mixW (by decide) vPl_pl fun x y=>Timpl_CmpPlane 9 x y _ (CmpPlane_D x y)) l hl
  rw[vPl_f,vPl_f] at this
  exact this
 ·cases h
theorem cutPl_t{l l':List Pl}(h:DcutPl l=some l'):CutOk Tryz.prog 162 161 (.sl true 4 l.length (ePl.f l)) (.sl true 4 l'.length (ePl.f l')):=by
 unfold DcutPl at h
 split at h
 ·rename_i hl
  replace h:=sj h;subst h
  have:=cut_turn Tryz.cutPlane (by decide) vPl vPl_k vPl_pl (fun x y w=>(eqPl (⟨by kernel_rfl,by kernel_rfl,by kernel_rfl,by kernel_rfl,by kernel_rfl⟩:EqS Tryz.prog 25) (by kernel_rfl) x y w).1) (fun x y w=>(eqPl (⟨by kernel_rfl,by kernel_rfl,by kernel_rfl,by kernel_rfl,by kernel_rfl⟩:EqS Tryz.prog 25) (by kernel_rfl) x y w).2.1) (fun op a b x y w=>(eqPl (⟨by kernel_rfl,by kernel_rfl,by kernel_rfl,by kernel_rfl,by kernel_rfl⟩:EqS Tryz.prog 25) (by kernel_rfl) x y w).2.2 op a b) ⟨0,0,0,0⟩ Tryz.zeroValue25 Tryz.clipPlane Tryz.cutNilPlane l (Nat.le_of_lt hl)
  rw[vPl_f,vPl_f] at this
  exact this
 ·cases h
def Dimpl_Solid_planesOf_1(_n:Nat)(l5:List Pl):Option (List Pl) :=
 (DcutPl l5).bind fun v2=>some v2
theorem Timpl_Solid_planesOf_1{Y}(n:Nat)(l5:List Pl)(_q0:List AV)(r:(List Pl))(h:Dimpl_Solid_planesOf_1 n l5=some r):Wk Tryz.prog H Y 115 [.code (cp [1,1,1,0] (bodyOf Tryz.f115)),.code (cp [1,1,1,1] (bodyOf Tryz.f115))] (FinX Tryz.prog Tryz.f115 [] (.sl true 4 r.length ((ePl).f r)) []) ⟨[(3,.msl 5 l5.length)],[(5,⟨false,4,(ePl).f l5⟩)]⟩:=by
 unfold Dimpl_Solid_planesOf_1 at h
 obtain⟨v2,y2,h⟩:=bm h
 refine x_cut (f:=162) (g:=161) (ta:=3) (d0:=8) (d1:=9) (d2:=10) (da:=2) (b:=5) (n:=l5.length) (z:=4) (st:=false) (cs:=ePl.f l5) (T:=.sl true 4 v2.length (ePl.f v2)) rfl (fun _ _ _ h=>h) (by kernel_rfl) (by kernel_rfl) (by kernel_rfl) (by simp[nlkLs,nlk,nlkL,nLk,nLkP]) (by decide) (Enc.len _ _) (cutPl_t y2) ?_
 replace h:=sj h;subst h
 exact x_end 0 [] [] onil onil 
def Dimpl_Solid_planesOf_0(n:Nat)(l5:List Pl):Option (List Pl) :=
 (DsrtPl l5).bind fun v1=>Dimpl_Solid_planesOf_1 n v1
theorem Timpl_Solid_planesOf_0{Y}(n:Nat)(l5:List Pl)(q0:List AV)(r:(List Pl))(h:Dimpl_Solid_planesOf_0 n l5=some r):Wk Tryz.prog H Y 115 [.code (cp [1,1,0] (bodyOf Tryz.f115)),.code (cp [1,1,1] (bodyOf Tryz.f115))] (FinX Tryz.prog Tryz.f115 [] (.sl true 4 r.length ((ePl).f r)) []) ⟨[(3,.msl 5 l5.length)],[(5,⟨false,4,(ePl).f l5⟩)]⟩:=by
 unfold Dimpl_Solid_planesOf_0 at h
 obtain⟨v1,y1,h⟩:=bm h
 obtain⟨hlv1,htv1⟩:=srtPl_t y1
 refine x_sort (f:=159) (ta:=3) (dl:=6) (dr:=7) (b:=5) (n:=l5.length) (z:=4) (g:=160) (st:=false) (cs:=ePl.f l5) (cs':=ePl.f v1) (rv:=.tuple #[]) rfl (fun _ _ _ h=>h) (by kernel_rfl) (by kernel_rfl) (by kernel_rfl) (by simp[nlkLs,nlk,nlkL,nLk,nLkP]) (by decide) (Enc.len _ _) (by rw[Enc.len,hlv1];rfl) (nLkP _) htv1 ?_
 exact x_to 2 [(0,.fix 3 (.msl 5 v1.length))] (ocons (congrArg (AV.msl 5) hlv1.symm) onil) (Timpl_Solid_planesOf_1 n v1 q0 r h) 
def Dimpl_Solid_planesOf(n:Nat)(a0:Sol):Option (List Pl) :=
 (Dimpl_Solid_planes n a0).bind fun v0=>Dimpl_Solid_planesOf_0 n v0
theorem Timpl_Solid_planesOf{Y}(n:Nat)(a0:Sol)(q0:List AV)(r:(List Pl))(h:Dimpl_Solid_planesOf n a0=some r):Big Tryz.prog H Y (.call 115 [.cptr ([bl a0.inn,i64 a0.pl.A,i64 a0.pl.B,i64 a0.pl.C,i64 a0.pl.D,.sl false 6 a0.kids.length ((eSol false).f a0.kids)]++q0)] (lk []) (.sl true 4 r.length ((ePl).f r)) (lk [])):=by
 unfold Dimpl_Solid_planesOf at h
 refine x_call (fn:=Tryz.f115) (c:=bodyOf Tryz.f115) (bs0:=[]) Tryz.func115 (by kernel_rfl) (by kernel_rfl) ?_
 obtain⟨v0,y0,h⟩:=bm h
 exact x_to 11 [(2,.call [] [] (.sl true 4 v0.length ((ePl).f v0)) [])] (ocons (Timpl_Solid_planes (Y:=Y) n a0 q0 _ y0) onil) (Timpl_Solid_planesOf_0 n v0 q0 r h) 
def Dimpl_PlanesOf(n:Nat)(a0:Sol):Option (List Pl) :=
 (Dimpl_SolidOk n a0).bind fun v0=>frk (!v0) (some []) ((Dimpl_Solid_planesOf n a0).bind fun v1=>some v1)
theorem Timpl_PlanesOf{Y}(n:Nat)(a0:Sol)(r:(List Pl))(h:Dimpl_PlanesOf n a0=some r):Big Tryz.prog H Y (.call 50 [eF a0] (lk []) (.sl true 4 r.length ((ePl).f r)) (lk [])):=by
 unfold Dimpl_PlanesOf at h
 refine x_call (fn:=Tryz.f50) (c:=bodyOf Tryz.f50) (bs0:=[]) Tryz.func50 (by kernel_rfl) (by kernel_rfl) ?_
 obtain⟨v0,y0,h⟩:=bm h
 refine x_frk 12 [(3,.call [] [] (bl v0) [])] (ocons (Timpl_SolidOk (Y:=Y) n a0 _ y0) onil) h (by kernel_rfl) (fun h=>?_) (fun h=>?_)
 ·replace h:=sj h;subst h
  exact x_end 4 [] [(true,4)] onil onil 
 ·obtain⟨v1,y1,h⟩:=bm h
  replace h:=sj h;subst h
  exact x_end 6 [(0,.call [] [] (.sl true 4 v1.length ((ePl).f v1)) [])] [] (ocons (Timpl_Solid_planesOf (Y:=Y) n a0 [] _ y1) (ocons (show hasSh (.sl true 4 v1.length ((ePl).f v1))=false by simp[hasSh,hasShL,nSh,nShI,nShB,nShP,nShT,nShN,nShPs]) onil)) (ocons (len_row (L:=v1) ePl) onil) 
def Dspec_Flip(n:Nat)(a0:Pl):Option Pl :=
 (Dspec_PlaneOk n a0).bind fun v0=>frk (!v0) (some a0) ((Dspec_l3Flip a0).bind fun v1=>some v1)
theorem Tspec_Flip{Y}(n:Nat)(a0:Pl)(r:Pl)(h:Dspec_Flip n a0=some r):Big Tryz.prog H Y (.call 116 [.agg [i64 a0.A,i64 a0.B,i64 a0.C,i64 a0.D]] (lk []) (.agg [i64 r.A,i64 r.B,i64 r.C,i64 r.D]) (lk [])):=by
 unfold Dspec_Flip at h
 refine x_call (fn:=Tryz.f116) (c:=bodyOf Tryz.f116) (bs0:=[]) Tryz.func116 (by kernel_rfl) (by kernel_rfl) ?_
 obtain⟨v0,y0,h⟩:=bm h
 refine x_frk 12 [(3,.call [] [] (bl v0) [])] (ocons (Tspec_PlaneOk (Y:=Y) n a0 _ y0) onil) h (by kernel_rfl) (fun h=>?_) (fun h=>?_)
 ·replace h:=sj h;subst h
  exact x_end 5 [] [] onil onil 
 ·obtain⟨v1,y1,h⟩:=bm h
  replace h:=sj h;subst h
  exact x_end 7 [(1,.call [] [] (.agg [i64 v1.A,i64 v1.B,i64 v1.C,i64 v1.D]) [])] [] (ocons (Tspec_l3Flip (Y:=Y) a0 _ y1) onil) onil 
def Dlaws_among_0(_n:Nat)(rec0:Int→Option Bool)(_t0:List Pl)(_ze _zf _zs _zt t5:Int)(t26:Bool):Option Bool :=
 frk t26 (some true) (rec0 (w64 (t5+1)))
theorem Tlaws_among_0{Y}(n:Nat)(rec0:Int→Option Bool)(t0:List Pl)(ze zf zs zt:Int)(hrec0:∀(a:Int) (r:Bool),rec0 a=some r→Wk Tryz.prog H Y 51 [.code (cp [1,0,1,0] (bodyOf Tryz.f51)),.blk 0,.code (cp [1,1] (bodyOf Tryz.f51))] (FinX Tryz.prog Tryz.f51 [] (bl r) []) ⟨[(0,.sl false 4 t0.length ((ePl).f t0)),(3,.ptr 3 0),(5,i64 a)],[(3,⟨true,0,[i64 ze,i64 zf,i64 zs,i64 zt]⟩)]⟩)(t5:Int)(t26 r:Bool)(h:Dlaws_among_0 n rec0 t0 ze zf zs zt t5 t26=some r):Wk Tryz.prog H Y 51 [.code (cp [1,0,1,0,0,1,0,0,1] (bodyOf Tryz.f51)),.blk 1,.code (cp [1,0,1,0,0,1,1] (bodyOf Tryz.f51)),.lp (cp [1,0,1,0] (bodyOf Tryz.f51)),.blk 0,.code (cp [1,1] (bodyOf Tryz.f51))] (FinX Tryz.prog Tryz.f51 [] (bl r) []) ⟨[(0,.sl false 4 t0.length ((ePl).f t0)),(3,.ptr 3 0),(5,i64 t5),(26,bl t26)],[(3,⟨true,0,[i64 ze,i64 zf,i64 zs,i64 zt]⟩)]⟩:=by
 unfold Dlaws_among_0 at h
 refine x_frk 0 [] onil h (by kernel_rfl) (fun h=>?_) (fun h=>?_)
 ·replace h:=sj h;subst h
  exact x_end 4 [] [] onil onil 
 ·exact x_to 8 [] onil (hrec0 (w64 (t5+1)) r h) 
def Dlaws_among_1(n:Nat)(t0:List Pl)(ze zf zs zt:Int)(rec0:Int→Option Bool)(a:Int):Option Bool :=
 match a with
 | t5=>frk (decide (t5<(t0.length:Int))) ((lget t0 t5).bind fun v0=>frk (v0.A==ze&&(v0.B==zf&&(v0.C==zs&&(v0.D==zt&&true)))) (some true) ((lget t0 t5).bind fun v1=>(Dspec_Flip n (Pl.mk ze zf zs zt)).bind fun v2=>Dlaws_among_0 n rec0 t0 ze zf zs zt t5 (v1.A==v2.A&&(v1.B==v2.B&&(v1.C==v2.C&&(v1.D==v2.D&&true)))))) (some false)
theorem Tlaws_among_1{Y}(n:Nat)(t0:List Pl)(ze zf zs zt:Int):∀(m:Nat) (a:Int) (r:Bool),loopN (Dlaws_among_1 n t0 ze zf zs zt) m a=some r→Wk Tryz.prog H Y 51 [.code (cp [1,0,1,0] (bodyOf Tryz.f51)),.blk 0,.code (cp [1,1] (bodyOf Tryz.f51))] (FinX Tryz.prog Tryz.f51 [] (bl r) []) ⟨[(0,.sl false 4 t0.length ((ePl).f t0)),(3,.ptr 3 0),(5,i64 a)],[(3,⟨true,0,[i64 ze,i64 zf,i64 zs,i64 zt]⟩)]⟩:=by
 refine loopN_ind (fun rec0 hrec0 a r h=>?_)
 obtain⟨t5,rfl⟩:∃x,x=a:=⟨a,rfl⟩
 unfold Dlaws_among_1 at h
 refine x_frk 9 [] onil h (by kernel_rfl) (fun h=>?_) (fun h=>?_)
 ·obtain⟨v0,y0,h⟩:=bm h
  refine x_frk 12 [(2,.val (.cptr (ePl.c v0++(ePl).f ((t0).drop (Int.toNat t5+1)))))] (ocons (ix ePl y0) onil) h (by kernel_rfl) (fun h=>?_) (fun h=>?_)
  ·replace h:=sj h;subst h
   exact x_end 14 [] [] onil onil 
  ·obtain⟨v1,y1,h⟩:=bm h
   obtain⟨v2,y2,h⟩:=bm h
   exact x_to 9 [(2,.val (.cptr (ePl.c v1++(ePl).f ((t0).drop (Int.toNat t5+1))))),(2,.call [] [] (.agg [i64 v2.A,i64 v2.B,i64 v2.C,i64 v2.D]) [])] (ocons (ix ePl y1) (ocons (Tspec_Flip (Y:=Y) n (Pl.mk ze zf zs zt) _ y2) onil)) (Tlaws_among_0 n rec0 t0 ze zf zs zt hrec0 t5 (v1.A==v2.A&&(v1.B==v2.B&&(v1.C==v2.C&&(v1.D==v2.D&&true)))) r h) 
 ·replace h:=sj h;subst h
  exact x_end 5 [] [] onil onil 
def Dlaws_among(n:Nat)(a0:(List Pl))(a1:Pl):Option Bool :=
 loopN (Dlaws_among_1 n a0 a1.A a1.B a1.C a1.D) n 0
theorem Tlaws_among{Y}(n:Nat)(a0:(List Pl))(a1:Pl)(r:Bool)(h:Dlaws_among n a0 a1=some r):Big Tryz.prog H Y (.call 51 [.sl false 4 a0.length ((ePl).f a0),.agg [i64 a1.A,i64 a1.B,i64 a1.C,i64 a1.D]] (lk []) (bl r) (lk [])):=by
 unfold Dlaws_among at h
 refine x_call (fn:=Tryz.f51) (c:=bodyOf Tryz.f51) (bs0:=[]) Tryz.func51 (by kernel_rfl) (by kernel_rfl) ?_
 exact x_to 11 [] onil (Tlaws_among_1 n a0 a1.A a1.B a1.C a1.D n 0 r h) 
def Dspec_SpotOf_3(_n:Nat)(_t3 t16:Int)(t68 _zk:Bool)(_zl:List Int)(_l29:List Num)(l73:List Int):Option (Spot×Bool) :=
 frk t68 (some ((Spot.mk 0 0 0 0),false)) (chk (apB 8 (l73.length+1)) ((lget (l73++[t16]) 0).bind fun v31=>(lget (l73++[t16]) 1).bind fun v32=>(lget (l73++[t16]) 2).bind fun v33=>(lget (l73++[t16]) 3).bind fun v34=>some ((Spot.mk v31 v32 v33 v34),true)))
theorem Tspec_SpotOf_3{Y}(n:Nat)(t3 t16:Int)(t68 zk:Bool)(zl:List Int)(l29:List Num)(l73:List Int)(r:(Spot×Bool))(h:Dspec_SpotOf_3 n t3 t16 t68 zk zl l29 l73=some r):Wk Tryz.prog H Y 52 [.code (cp [1,1,1,1,1,0,1,0,0,1,0,0,1,1,0,1] (bodyOf Tryz.f52)),.code (cp [1,1,1,1,1,0,1,0,0,1,0,0,1,1,1] (bodyOf Tryz.f52)),.blk 1,.code (cp [1,1,1,1,1,0,1,0,0,1,1] (bodyOf Tryz.f52)),.lp (cp [1,1,1,1,1,0,1,0] (bodyOf Tryz.f52)),.blk 0,.code (cp [1,1,1,1,1,1] (bodyOf Tryz.f52))] (FinX Tryz.prog Tryz.f52 [] (.tup [.agg [i64 r.1.X,i64 r.1.Y,i64 r.1.Z,i64 r.1.W],bl r.2]) []) ⟨[(3,i64 t3),(8,.ptr 8 0),(10,.msl 29 l29.length),(11,.ptr 11 0),(12,.msl 73 l73.length),(13,i64 3),(16,i64 t16),(68,bl t68)],[(8,⟨true,0,[i64 0,i64 0,i64 0,i64 0]⟩),(11,⟨true,0,[bl zk,.sl true 1 zl.length ((eInt).f zl)]⟩),(29,⟨true,2,(eNum true).f l29⟩),(73,⟨true,1,(eInt).f l73⟩)]⟩:=by
 unfold Dspec_SpotOf_3 at h
 refine x_frk 0 [] onil h (by kernel_rfl) (fun h=>?_) (fun h=>?_)
 ·replace h:=sj h;subst h
  exact x_end 6 [] [] onil onil 
 ·obtain⟨c30,h⟩:=chk_some h
  obtain⟨v31,y31,h⟩:=bm h
  obtain⟨v32,y32,h⟩:=bm h
  obtain⟨v33,y33,h⟩:=bm h
  obtain⟨v34,y34,h⟩:=bm h
  replace h:=sj h;subst h
  exact x_end 42 [(3,.app false (List.length (l73++[t16])) ((eInt).f (l73++[t16]))),(7,.unit),(0,.val (i64 v31)),(1,.unit),(0,.val (i64 v32)),(1,.unit),(0,.val (i64 v33)),(1,.unit),(0,.val (i64 v34))] [] (ocons (len_row' (L:=l73) eInt) (ocons (app_one (L:=l73) (M:=[t16]) eInt c30) (ocons (app_new (L:=l73) (M:=[t16]) eInt) (ocons (app_m (L:=l73) (M:=[t16]) eInt rfl) (ocons (len_row' (L:=[t16]) eInt) (ocons (Enc.noOwn eInt (fun _=>rfl) [t16]) (ocons (inr y31) (ocons (ld1 eInt y31 0 rfl) (ocons (inr y32) (ocons (ld1 eInt y32 0 rfl) (ocons (inr y33) (ocons (ld1 eInt y33 0 rfl) (ocons (inr y34) (ocons (ld1 eInt y34 0 rfl) onil)))))))))))))) onil 
def Dspec_SpotOf_2(n:Nat)(t3 t16:Int)(t68 zk:Bool)(zl:List Int)(l29:List Num)(l73:List Int):Option (Spot×Bool) :=
 frk t68 (some ((Spot.mk 0 0 0 0),false)) (chk (apB 8 (l73.length+1)) ((lget l29 3).bind fun v24=>(Dspec_l1DivMag n v24.D zl).bind fun v25=>(lget l29 3).bind fun v26=>(Dspec_l1Num n (!(v26.Neg==(decide (t3<0)))) v25.1).bind fun v27=>(Dspec_Small n v27).bind fun v28=>frk (!v28.2) (some ((Spot.mk 0 0 0 0),false)) ((Dspec_l1In v28.1 (-1000000000) 1000000000).bind fun v29=>Dspec_SpotOf_3 n t3 v28.1 (!v29) zk zl l29 (l73++[t16]))))
theorem Tspec_SpotOf_2{Y}(n:Nat)(t3 t16:Int)(t68 zk:Bool)(zl:List Int)(l29:List Num)(l73:List Int)(r:(Spot×Bool))(h:Dspec_SpotOf_2 n t3 t16 t68 zk zl l29 l73=some r):Wk Tryz.prog H Y 52 [.code (cp [1,1,1,1,1,0,1,0,0,1,0,0,1,1,0,1] (bodyOf Tryz.f52)),.code (cp [1,1,1,1,1,0,1,0,0,1,0,0,1,1,1] (bodyOf Tryz.f52)),.blk 1,.code (cp [1,1,1,1,1,0,1,0,0,1,1] (bodyOf Tryz.f52)),.lp (cp [1,1,1,1,1,0,1,0] (bodyOf Tryz.f52)),.blk 0,.code (cp [1,1,1,1,1,1] (bodyOf Tryz.f52))] (FinX Tryz.prog Tryz.f52 [] (.tup [.agg [i64 r.1.X,i64 r.1.Y,i64 r.1.Z,i64 r.1.W],bl r.2]) []) ⟨[(3,i64 t3),(8,.ptr 8 0),(10,.msl 29 l29.length),(11,.ptr 11 0),(12,.msl 73 l73.length),(13,i64 2),(16,i64 t16),(68,bl t68)],[(8,⟨true,0,[i64 0,i64 0,i64 0,i64 0]⟩),(11,⟨true,0,[bl zk,.sl true 1 zl.length ((eInt).f zl)]⟩),(29,⟨true,2,(eNum true).f l29⟩),(73,⟨true,1,(eInt).f l73⟩)]⟩:=by
 unfold Dspec_SpotOf_2 at h
 refine x_frk 0 [] onil h (by kernel_rfl) (fun h=>?_) (fun h=>?_)
 ·replace h:=sj h;subst h
  exact x_end 6 [] [] onil onil 
 ·obtain⟨c23,h⟩:=chk_some h
  obtain⟨v24,y24,h⟩:=bm h
  obtain⟨v25,y25,h⟩:=bm h
  obtain⟨v26,y26,h⟩:=bm h
  obtain⟨v27,y27,h⟩:=bm h
  obtain⟨v28,y28,h⟩:=bm h
  refine x_frk 68 [(3,.app false (List.length (l73++[t16])) ((eInt).f (l73++[t16]))),(8,.unit),(1,.val (.sl true 1 v24.D.length ((eInt).f v24.D))),(0,.fix 42 (.sl false 1 v24.D.length ((eInt).f v24.D))),(1,.rows [(eInt).f zl]),(0,.call [] [] (.tup [.sl false 1 v25.1.length ((eInt).f v25.1),.sl false 1 v25.2.length ((eInt).f v25.2)]) []),(7,.unit),(1,.val (bl v26.Neg)),(4,.call [] [] (.agg [bl v27.Neg,.sl true 1 v27.D.length ((eInt).f v27.D)]) []),(0,.call [] [(eInt).f v27.D] (.tup [i64 v28.1,bl v28.2]) [])] (ocons (len_row' (L:=l73) eInt) (ocons (app_one (L:=l73) (M:=[t16]) eInt c23) (ocons (app_new (L:=l73) (M:=[t16]) eInt) (ocons (app_m (L:=l73) (M:=[t16]) eInt rfl) (ocons (len_row' (L:=[t16]) eInt) (ocons (Enc.noOwn eInt (fun _=>rfl) [t16]) (ocons (inr y24) (ocons (ld1 (eNum true) y24 1 rfl) (ocons (congrArg (AV.sl false 1 v24.D.length) (Enc.share eInt eInt sInt v24.D)) (ocons (Enc.share eInt eInt sInt zl) (ocons (Big.wkr (Tspec_l1DivMag (Y:=Y) n v24.D zl _ y25) (show WkV (.tup [.sl true 1 v25.1.length ((eInt).f v25.1),.sl true 1 v25.2.length ((eInt).f v25.2)]) (.tup [.sl false 1 v25.1.length ((eInt).f v25.1),.sl false 1 v25.2.length ((eInt).f v25.2)]) from .inr ⟨_,_,rfl,rfl,⟨wkShareU (L:=v25.1) eInt eInt sInt,wkShareU (L:=v25.2) eInt eInt sInt,trivial⟩⟩)) (ocons (inr y26) (ocons (ld1 (eNum true) y26 0 rfl) (ocons (Tspec_l1Num (Y:=Y) n (!(v26.Neg==(decide (t3<0)))) v25.1 _ y27) (ocons (Tspec_Small (Y:=Y) n v27 _ y28) (ocons (Enc.share eInt eInt sInt v27.D) onil)))))))))))))))) h (by kernel_rfl) (fun h=>?_) (fun h=>?_)
  ·replace h:=sj h;subst h
   exact x_end 12 [] [] onil onil 
  ·obtain⟨v29,y29,h⟩:=bm h
   exact x_to 5 [(1,.call [] [] (bl v29) [])] (ocons (Tspec_l1In (Y:=Y) v28.1 (-1000000000) 1000000000 _ y29) onil) (Tspec_SpotOf_3 n t3 v28.1 (!v29) zk zl l29 (l73++[t16]) r h) 
def Dspec_SpotOf_1(n:Nat)(t3 t16:Int)(t68 zk:Bool)(zl:List Int)(l29:List Num)(l73:List Int):Option (Spot×Bool) :=
 frk t68 (some ((Spot.mk 0 0 0 0),false)) (chk (apB 8 (l73.length+1)) ((lget l29 2).bind fun v17=>(Dspec_l1DivMag n v17.D zl).bind fun v18=>(lget l29 2).bind fun v19=>(Dspec_l1Num n (!(v19.Neg==(decide (t3<0)))) v18.1).bind fun v20=>(Dspec_Small n v20).bind fun v21=>frk (!v21.2) (some ((Spot.mk 0 0 0 0),false)) ((Dspec_l1In v21.1 (-1000000000) 1000000000).bind fun v22=>Dspec_SpotOf_2 n t3 v21.1 (!v22) zk zl l29 (l73++[t16]))))
theorem Tspec_SpotOf_1{Y}(n:Nat)(t3 t16:Int)(t68 zk:Bool)(zl:List Int)(l29:List Num)(l73:List Int)(r:(Spot×Bool))(h:Dspec_SpotOf_1 n t3 t16 t68 zk zl l29 l73=some r):Wk Tryz.prog H Y 52 [.code (cp [1,1,1,1,1,0,1,0,0,1,0,0,1,1,0,1] (bodyOf Tryz.f52)),.code (cp [1,1,1,1,1,0,1,0,0,1,0,0,1,1,1] (bodyOf Tryz.f52)),.blk 1,.code (cp [1,1,1,1,1,0,1,0,0,1,1] (bodyOf Tryz.f52)),.lp (cp [1,1,1,1,1,0,1,0] (bodyOf Tryz.f52)),.blk 0,.code (cp [1,1,1,1,1,1] (bodyOf Tryz.f52))] (FinX Tryz.prog Tryz.f52 [] (.tup [.agg [i64 r.1.X,i64 r.1.Y,i64 r.1.Z,i64 r.1.W],bl r.2]) []) ⟨[(3,i64 t3),(8,.ptr 8 0),(10,.msl 29 l29.length),(11,.ptr 11 0),(12,.msl 73 l73.length),(13,i64 1),(16,i64 t16),(68,bl t68)],[(8,⟨true,0,[i64 0,i64 0,i64 0,i64 0]⟩),(11,⟨true,0,[bl zk,.sl true 1 zl.length ((eInt).f zl)]⟩),(29,⟨true,2,(eNum true).f l29⟩),(73,⟨true,1,(eInt).f l73⟩)]⟩:=by
 unfold Dspec_SpotOf_1 at h
 refine x_frk 0 [] onil h (by kernel_rfl) (fun h=>?_) (fun h=>?_)
 ·replace h:=sj h;subst h
  exact x_end 6 [] [] onil onil 
 ·obtain⟨c16,h⟩:=chk_some h
  obtain⟨v17,y17,h⟩:=bm h
  obtain⟨v18,y18,h⟩:=bm h
  obtain⟨v19,y19,h⟩:=bm h
  obtain⟨v20,y20,h⟩:=bm h
  obtain⟨v21,y21,h⟩:=bm h
  refine x_frk 68 [(3,.app false (List.length (l73++[t16])) ((eInt).f (l73++[t16]))),(8,.unit),(1,.val (.sl true 1 v17.D.length ((eInt).f v17.D))),(0,.fix 42 (.sl false 1 v17.D.length ((eInt).f v17.D))),(1,.rows [(eInt).f zl]),(0,.call [] [] (.tup [.sl false 1 v18.1.length ((eInt).f v18.1),.sl false 1 v18.2.length ((eInt).f v18.2)]) []),(7,.unit),(1,.val (bl v19.Neg)),(4,.call [] [] (.agg [bl v20.Neg,.sl true 1 v20.D.length ((eInt).f v20.D)]) []),(0,.call [] [(eInt).f v20.D] (.tup [i64 v21.1,bl v21.2]) [])] (ocons (len_row' (L:=l73) eInt) (ocons (app_one (L:=l73) (M:=[t16]) eInt c16) (ocons (app_new (L:=l73) (M:=[t16]) eInt) (ocons (app_m (L:=l73) (M:=[t16]) eInt rfl) (ocons (len_row' (L:=[t16]) eInt) (ocons (Enc.noOwn eInt (fun _=>rfl) [t16]) (ocons (inr y17) (ocons (ld1 (eNum true) y17 1 rfl) (ocons (congrArg (AV.sl false 1 v17.D.length) (Enc.share eInt eInt sInt v17.D)) (ocons (Enc.share eInt eInt sInt zl) (ocons (Big.wkr (Tspec_l1DivMag (Y:=Y) n v17.D zl _ y18) (show WkV (.tup [.sl true 1 v18.1.length ((eInt).f v18.1),.sl true 1 v18.2.length ((eInt).f v18.2)]) (.tup [.sl false 1 v18.1.length ((eInt).f v18.1),.sl false 1 v18.2.length ((eInt).f v18.2)]) from .inr ⟨_,_,rfl,rfl,⟨wkShareU (L:=v18.1) eInt eInt sInt,wkShareU (L:=v18.2) eInt eInt sInt,trivial⟩⟩)) (ocons (inr y19) (ocons (ld1 (eNum true) y19 0 rfl) (ocons (Tspec_l1Num (Y:=Y) n (!(v19.Neg==(decide (t3<0)))) v18.1 _ y20) (ocons (Tspec_Small (Y:=Y) n v20 _ y21) (ocons (Enc.share eInt eInt sInt v20.D) onil)))))))))))))))) h (by kernel_rfl) (fun h=>?_) (fun h=>?_)
  ·replace h:=sj h;subst h
   exact x_end 12 [] [] onil onil 
  ·obtain⟨v22,y22,h⟩:=bm h
   exact x_to 5 [(1,.call [] [] (bl v22) [])] (ocons (Tspec_l1In (Y:=Y) v21.1 (-1000000000) 1000000000 _ y22) onil) (Tspec_SpotOf_2 n t3 v21.1 (!v22) zk zl l29 (l73++[t16]) r h) 
def Dspec_SpotOf_0(n:Nat)(t3 t16:Int)(t68 zk:Bool)(zl:List Int)(l29:List Num)(l32:List Int):Option (Spot×Bool) :=
 frk t68 (some ((Spot.mk 0 0 0 0),false)) (chk (apB 8 (l32.length+1)) ((lget l29 1).bind fun v10=>(Dspec_l1DivMag n v10.D zl).bind fun v11=>(lget l29 1).bind fun v12=>(Dspec_l1Num n (!(v12.Neg==(decide (t3<0)))) v11.1).bind fun v13=>(Dspec_Small n v13).bind fun v14=>frk (!v14.2) (some ((Spot.mk 0 0 0 0),false)) ((Dspec_l1In v14.1 (-1000000000) 1000000000).bind fun v15=>Dspec_SpotOf_1 n t3 v14.1 (!v15) zk zl l29 (l32++[t16]))))
theorem Tspec_SpotOf_0{Y}(n:Nat)(t3 t16:Int)(t68 zk:Bool)(zl:List Int)(l29:List Num)(l32:List Int)(r:(Spot×Bool))(h:Dspec_SpotOf_0 n t3 t16 t68 zk zl l29 l32=some r):Wk Tryz.prog H Y 52 [.code (cp [1,1,1,1,1,0,1,0,0,1,0,0,1,1,0,1] (bodyOf Tryz.f52)),.code (cp [1,1,1,1,1,0,1,0,0,1,0,0,1,1,1] (bodyOf Tryz.f52)),.blk 1,.code (cp [1,1,1,1,1,0,1,0,0,1,1] (bodyOf Tryz.f52)),.lp (cp [1,1,1,1,1,0,1,0] (bodyOf Tryz.f52)),.blk 0,.code (cp [1,1,1,1,1,1] (bodyOf Tryz.f52))] (FinX Tryz.prog Tryz.f52 [] (.tup [.agg [i64 r.1.X,i64 r.1.Y,i64 r.1.Z,i64 r.1.W],bl r.2]) []) ⟨[(3,i64 t3),(8,.ptr 8 0),(10,.msl 29 l29.length),(11,.ptr 11 0),(12,.msl 32 l32.length),(13,i64 0),(16,i64 t16),(68,bl t68)],[(8,⟨true,0,[i64 0,i64 0,i64 0,i64 0]⟩),(11,⟨true,0,[bl zk,.sl true 1 zl.length ((eInt).f zl)]⟩),(29,⟨true,2,(eNum true).f l29⟩),(32,⟨true,1,(eInt).f l32⟩)]⟩:=by
 unfold Dspec_SpotOf_0 at h
 refine x_frk 0 [] onil h (by kernel_rfl) (fun h=>?_) (fun h=>?_)
 ·replace h:=sj h;subst h
  exact x_end 6 [] [] onil onil 
 ·obtain⟨c9,h⟩:=chk_some h
  obtain⟨v10,y10,h⟩:=bm h
  obtain⟨v11,y11,h⟩:=bm h
  obtain⟨v12,y12,h⟩:=bm h
  obtain⟨v13,y13,h⟩:=bm h
  obtain⟨v14,y14,h⟩:=bm h
  refine x_frk 68 [(3,.app false (List.length (l32++[t16])) ((eInt).f (l32++[t16]))),(8,.unit),(1,.val (.sl true 1 v10.D.length ((eInt).f v10.D))),(0,.fix 42 (.sl false 1 v10.D.length ((eInt).f v10.D))),(1,.rows [(eInt).f zl]),(0,.call [] [] (.tup [.sl false 1 v11.1.length ((eInt).f v11.1),.sl false 1 v11.2.length ((eInt).f v11.2)]) []),(7,.unit),(1,.val (bl v12.Neg)),(4,.call [] [] (.agg [bl v13.Neg,.sl true 1 v13.D.length ((eInt).f v13.D)]) []),(0,.call [] [(eInt).f v13.D] (.tup [i64 v14.1,bl v14.2]) [])] (ocons (len_row' (L:=l32) eInt) (ocons (app_one (L:=l32) (M:=[t16]) eInt c9) (ocons (app_new (L:=l32) (M:=[t16]) eInt) (ocons (app_m (L:=l32) (M:=[t16]) eInt rfl) (ocons (len_row' (L:=[t16]) eInt) (ocons (Enc.noOwn eInt (fun _=>rfl) [t16]) (ocons (inr y10) (ocons (ld1 (eNum true) y10 1 rfl) (ocons (congrArg (AV.sl false 1 v10.D.length) (Enc.share eInt eInt sInt v10.D)) (ocons (Enc.share eInt eInt sInt zl) (ocons (Big.wkr (Tspec_l1DivMag (Y:=Y) n v10.D zl _ y11) (show WkV (.tup [.sl true 1 v11.1.length ((eInt).f v11.1),.sl true 1 v11.2.length ((eInt).f v11.2)]) (.tup [.sl false 1 v11.1.length ((eInt).f v11.1),.sl false 1 v11.2.length ((eInt).f v11.2)]) from .inr ⟨_,_,rfl,rfl,⟨wkShareU (L:=v11.1) eInt eInt sInt,wkShareU (L:=v11.2) eInt eInt sInt,trivial⟩⟩)) (ocons (inr y12) (ocons (ld1 (eNum true) y12 0 rfl) (ocons (Tspec_l1Num (Y:=Y) n (!(v12.Neg==(decide (t3<0)))) v11.1 _ y13) (ocons (Tspec_Small (Y:=Y) n v13 _ y14) (ocons (Enc.share eInt eInt sInt v13.D) onil)))))))))))))))) h (by kernel_rfl) (fun h=>?_) (fun h=>?_)
  ·replace h:=sj h;subst h
   exact x_end 12 [] [] onil onil 
  ·obtain⟨v15,y15,h⟩:=bm h
   exact x_to 5 [(1,.call [] [] (bl v15) [])] (ocons (Tspec_l1In (Y:=Y) v14.1 (-1000000000) 1000000000 _ y15) onil) (Tspec_SpotOf_1 n t3 v14.1 (!v15) zk zl l29 (l32++[t16]) r h) 
def Dspec_SpotOf(n:Nat)(a0 a1 a2 a3:Int):Option (Spot×Bool) :=
 frk (a3==0) (some ((Spot.mk 0 0 0 0),false)) ((Dspec_Of n a0).bind fun v0=>(Dspec_Of n a1).bind fun v1=>(Dspec_Of n a2).bind fun v2=>(Dspec_Of n a3).bind fun v3=>(Dspec_l3NumGcd n [v0,v1,v2,v3]).bind fun v4=>(Dspec_l1DivMag n v0.D v4.D).bind fun v5=>(Dspec_l1Num n (!(v0.Neg==(decide (a3<0)))) v5.1).bind fun v6=>(Dspec_Small n v6).bind fun v7=>frk (!v7.2) (some ((Spot.mk 0 0 0 0),false)) ((Dspec_l1In v7.1 (-1000000000) 1000000000).bind fun v8=>Dspec_SpotOf_0 n a3 v7.1 (!v8) v4.Neg v4.D [v0,v1,v2,v3] []))
theorem Tspec_SpotOf{Y}(n:Nat)(a0 a1 a2 a3:Int)(r:(Spot×Bool))(h:Dspec_SpotOf n a0 a1 a2 a3=some r):Big Tryz.prog H Y (.call 52 [i64 a0,i64 a1,i64 a2,i64 a3] (lk []) (.tup [.agg [i64 r.1.X,i64 r.1.Y,i64 r.1.Z,i64 r.1.W],bl r.2]) (lk [])):=by
 unfold Dspec_SpotOf at h
 refine x_call (fn:=Tryz.f52) (c:=bodyOf Tryz.f52) (bs0:=[]) Tryz.func52 (by kernel_rfl) (by kernel_rfl) ?_
 refine x_frk 11 [] onil h (by kernel_rfl) (fun h=>?_) (fun h=>?_)
 ·replace h:=sj h;subst h
  exact x_end 6 [] [] onil onil 
 ·obtain⟨v0,y0,h⟩:=bm h
  obtain⟨v1,y1,h⟩:=bm h
  obtain⟨v2,y2,h⟩:=bm h
  obtain⟨v3,y3,h⟩:=bm h
  obtain⟨v4,y4,h⟩:=bm h
  obtain⟨v5,y5,h⟩:=bm h
  obtain⟨v6,y6,h⟩:=bm h
  obtain⟨v7,y7,h⟩:=bm h
  refine x_frk 84 [(1,.call [] [] (.agg [bl v0.Neg,.sl true 1 v0.D.length ((eInt).f v0.D)]) []),(1,.call [] [] (.agg [bl v1.Neg,.sl true 1 v1.D.length ((eInt).f v1.D)]) []),(1,.call [] [] (.agg [bl v2.Neg,.sl true 1 v2.D.length ((eInt).f v2.D)]) []),(1,.call [] [] (.agg [bl v3.Neg,.sl true 1 v3.D.length ((eInt).f v3.D)]) []),(3,.call [] [(eNum false).f [v0,v1,v2,v3]] (.agg [bl v4.Neg,.sl true 1 v4.D.length ((eInt).f v4.D)]) []),(11,.rows [(eInt).f v0.D]),(1,.rows [(eInt).f v4.D]),(0,.call [] [] (.tup [.sl false 1 v5.1.length ((eInt).f v5.1),.sl false 1 v5.2.length ((eInt).f v5.2)]) []),(14,.call [] [] (.agg [bl v6.Neg,.sl true 1 v6.D.length ((eInt).f v6.D)]) []),(0,.call [] [(eInt).f v6.D] (.tup [i64 v7.1,bl v7.2]) [])] (ocons (Tspec_Of (Y:=Y) n a0 _ y0) (ocons (Tspec_Of (Y:=Y) n a1 _ y1) (ocons (Tspec_Of (Y:=Y) n a2 _ y2) (ocons (Tspec_Of (Y:=Y) n a3 _ y3) (ocons (Tspec_l3NumGcd (Y:=Y) n [v0,v1,v2,v3] _ y4) (ocons (len_row (L:=[v0,v1,v2,v3]) (eNum true)) (ocons (Enc.share (eNum true) (eNum false) (sNum true) [v0,v1,v2,v3]) (ocons (show hasSh (.agg [bl v4.Neg,.sl true 1 v4.D.length ((eInt).f v4.D)])=false by simp[hasSh,hasShL,nSh,nShI,nShB,nShP,nShT,nShN,nShPs]) (ocons (Enc.share eInt eInt sInt v0.D) (ocons (Enc.share eInt eInt sInt v4.D) (ocons (Big.wkr (Tspec_l1DivMag (Y:=Y) n v0.D v4.D _ y5) (show WkV (.tup [.sl true 1 v5.1.length ((eInt).f v5.1),.sl true 1 v5.2.length ((eInt).f v5.2)]) (.tup [.sl false 1 v5.1.length ((eInt).f v5.1),.sl false 1 v5.2.length ((eInt).f v5.2)]) from .inr ⟨_,_,rfl,rfl,⟨wkShareU (L:=v5.1) eInt eInt sInt,wkShareU (L:=v5.2) eInt eInt sInt,trivial⟩⟩)) (ocons (Tspec_l1Num (Y:=Y) n (!(v0.Neg==(decide (a3<0)))) v5.1 _ y6) (ocons (Tspec_Small (Y:=Y) n v6 _ y7) (ocons (Enc.share eInt eInt sInt v6.D) onil)))))))))))))) h (by kernel_rfl) (fun h=>?_) (fun h=>?_)
  ·replace h:=sj h;subst h
   exact x_end 12 [] [] onil onil 
  ·obtain⟨v8,y8,h⟩:=bm h
   exact x_to 5 [(1,.call [] [] (bl v8) [])] (ocons (Tspec_l1In (Y:=Y) v7.1 (-1000000000) 1000000000 _ y8) onil) (Tspec_SpotOf_0 n a3 v7.1 (!v8) v4.Neg v4.D [v0,v1,v2,v3] [] r h) 
def Dimpl_SpotOk(n:Nat)(a0:Spot):Option Bool :=
 (Dimpl_inRange a0.W 1 1000000000).bind fun v0=>frk (!v0) (some false) ((Dimpl_inRange a0.X (-1000000000) 1000000000).bind fun v1=>frk (!v1) (some false) ((Dimpl_inRange a0.Y (-1000000000) 1000000000).bind fun v2=>frk (!v2) (some false) ((Dimpl_inRange a0.Z (-1000000000) 1000000000).bind fun v3=>frk (!v3) (some false) ((Dimpl_divisor n [a0.X,a0.Y,a0.Z,a0.W]).bind fun v4=>some (v4==1)))))
theorem Timpl_SpotOk{Y}(n:Nat)(a0:Spot)(r:Bool)(h:Dimpl_SpotOk n a0=some r):Big Tryz.prog H Y (.call 170 [.agg [i64 a0.X,i64 a0.Y,i64 a0.Z,i64 a0.W]] (lk []) (bl r) (lk [])):=by
 unfold Dimpl_SpotOk at h
 refine x_call (fn:=Tryz.f170) (c:=bodyOf Tryz.f170) (bs0:=[]) Tryz.func170 (by kernel_rfl) (by kernel_rfl) ?_
 obtain⟨v0,y0,h⟩:=bm h
 refine x_frk 13 [(4,.call [] [] (bl v0) [])] (ocons (Timpl_inRange (Y:=Y) a0.W 1 1000000000 _ y0) onil) h (by kernel_rfl) (fun h=>?_) (fun h=>?_)
 ·replace h:=sj h;subst h
  exact x_end 4 [] [] onil onil 
 ·obtain⟨v1,y1,h⟩:=bm h
  refine x_frk 35 [(12,.call [] [] (bl v1) [])] (ocons (Timpl_inRange (Y:=Y) a0.X (-1000000000) 1000000000 _ y1) onil) h (by kernel_rfl) (fun h=>?_) (fun h=>?_)
  ·replace h:=sj h;subst h
   exact x_end 4 [] [] onil onil 
  ·obtain⟨v2,y2,h⟩:=bm h
   refine x_frk 28 [(6,.call [] [] (bl v2) [])] (ocons (Timpl_inRange (Y:=Y) a0.Y (-1000000000) 1000000000 _ y2) onil) h (by kernel_rfl) (fun h=>?_) (fun h=>?_)
   ·replace h:=sj h;subst h
    exact x_end 4 [] [] onil onil 
   ·obtain⟨v3,y3,h⟩:=bm h
    refine x_frk 28 [(6,.call [] [] (bl v3) [])] (ocons (Timpl_inRange (Y:=Y) a0.Z (-1000000000) 1000000000 _ y3) onil) h (by kernel_rfl) (fun h=>?_) (fun h=>?_)
    ·replace h:=sj h;subst h
     exact x_end 4 [] [] onil onil 
    ·obtain⟨v4,y4,h⟩:=bm h
     replace h:=sj h;subst h
     exact x_end 30 [(12,.call [] [(eInt).f [a0.X,a0.Y,a0.Z,a0.W]] (i64 v4) [])] [] (ocons (Timpl_divisor (Y:=Y) n [a0.X,a0.Y,a0.Z,a0.W] _ y4) (ocons (len_row (L:=[a0.X,a0.Y,a0.Z,a0.W]) eInt) (ocons (Enc.share eInt eInt sInt [a0.X,a0.Y,a0.Z,a0.W]) onil))) onil 
def Dimpl_sideAt(a0:Pl)(a1:Spot):Option Int :=
 (Dimpl_sign (w64 ((w64 ((w64 ((w64 (a0.A*a1.X))+(w64 (a0.B*a1.Y))))+(w64 (a0.C*a1.Z))))+(w64 (a0.D*a1.W))))).bind fun v0=>some v0
theorem Timpl_sideAt{Y}(a0:Pl)(a1:Spot)(r:Int)(h:Dimpl_sideAt a0 a1=some r):Big Tryz.prog H Y (.call 187 [.agg [i64 a0.A,i64 a0.B,i64 a0.C,i64 a0.D],.agg [i64 a1.X,i64 a1.Y,i64 a1.Z,i64 a1.W]] (lk []) (i64 r) (lk [])):=by
 unfold Dimpl_sideAt at h
 refine x_call (fn:=Tryz.f187) (c:=bodyOf Tryz.f187) (bs0:=[]) Tryz.func187 (by kernel_rfl) (by kernel_rfl) ?_
 obtain⟨v0,y0,h⟩:=bm h
 replace h:=sj h;subst h
 exact x_end 34 [(26,.call [] [] (i64 v0) [])] [] (ocons (Timpl_sign (Y:=Y) (w64 ((w64 ((w64 ((w64 (a0.A*a1.X))+(w64 (a0.B*a1.Y))))+(w64 (a0.C*a1.Z))))+(w64 (a0.D*a1.W)))) _ y0) onil) onil 
def Dimpl_Solid_around_0(_n:Nat)(self:(Sol×Spot)→Option (Int×Int))(_t0_0:Bool)(_t0_1 _t0_2 _t0_3 _t0_4:Int)(t0_5:List Sol)(t7 t8:Int)(t36:Bool)(ze zf zs zt:Int):Option (Int×Int) :=
 frk t36 ((lget t0_5 1).bind fun v4=>(self (v4,(Spot.mk ze zf zs zt))).bind fun v5=>some (w64 (t7+v5.1),w64 (t8+v5.2))) (some (t7,t8))
theorem Timpl_Solid_around_0{Y}(n:Nat)(self:(Sol×Spot)→Option (Int×Int))(hself:∀(a:(Sol×Spot)) (q0:List AV) (r:(Int×Int)),self a=some r→Big Tryz.prog H Y (.call 154 [.cptr ([bl a.1.inn,i64 a.1.pl.A,i64 a.1.pl.B,i64 a.1.pl.C,i64 a.1.pl.D,.sl false 6 a.1.kids.length ((eSol false).f a.1.kids)]++q0),.agg [i64 a.2.X,i64 a.2.Y,i64 a.2.Z,i64 a.2.W]] (lk []) (.tup [i64 r.1,i64 r.2]) (lk [])))(t0_0:Bool)(t0_1 t0_2 t0_3 t0_4:Int)(t0_5:List Sol)(t0_r:List AV)(t7 t8:Int)(t36:Bool)(ze zf zs zt:Int)(q0:List AV)(r:(Int×Int))(h:Dimpl_Solid_around_0 n self t0_0 t0_1 t0_2 t0_3 t0_4 t0_5 t7 t8 t36 ze zf zs zt=some r):Wk Tryz.prog H Y 154 [.code (cp [1,1,1,1,1,0,1] (bodyOf Tryz.f154)),.code (cp [1,1,1,1,1,1] (bodyOf Tryz.f154))] (FinX Tryz.prog Tryz.f154 [] (.tup [i64 r.1,i64 r.2]) []) ⟨[(0,.cptr ([bl t0_0,i64 t0_1,i64 t0_2,i64 t0_3,i64 t0_4,.sl false 6 t0_5.length ((eSol false).f t0_5)]++t0_r)),(3,.ptr 3 0),(7,i64 t7),(8,i64 t8),(36,bl t36)],[(3,⟨true,0,[i64 ze,i64 zf,i64 zs,i64 zt]⟩)]⟩:=by
 unfold Dimpl_Solid_around_0 at h
 refine x_frk 0 [] onil h (by kernel_rfl) (fun h=>?_) (fun h=>?_)
 ·obtain⟨v4,y4,h⟩:=bm h
  obtain⟨v5,y5,h⟩:=bm h
  replace h:=sj h;subst h
  exact x_end 35 [(4,.val (.cptr ((eSol false).c v4++(eSol false).f ((t0_5).drop (Int.toNat 1+1))))),(1,.call [] [] (.tup [i64 v5.1,i64 v5.2]) [])] [] (ocons (ix (eSol false) y4) (ocons (hself (v4,(Spot.mk ze zf zs zt)) ((eSol false).f ((t0_5).drop (Int.toNat 1+1))) _ y5) onil)) onil 
 ·replace h:=sj h;subst h
  exact x_end 8 [] [] onil onil 
def Dimpl_Solid_around_b(n:Nat)(self:(Sol×Spot)→Option (Int×Int))(a:(Sol×Spot)):Option (Int×Int) :=
 match a with
 | (a0,a1)=>(Dimpl_Solid_isLeaf a0).bind fun v0=>frk v0 (frk a0.inn (some (1,0)) (some (0,1))) ((Dimpl_sideAt a0.pl a1).bind fun v1=>frk (decide (v1≥0)) ((lget a0.kids 0).bind fun v2=>(self (v2,a1)).bind fun v3=>Dimpl_Solid_around_0 n self a0.inn a0.pl.A a0.pl.B a0.pl.C a0.pl.D a0.kids v3.1 v3.2 (decide (v1≤0)) a1.X a1.Y a1.Z a1.W) (Dimpl_Solid_around_0 n self a0.inn a0.pl.A a0.pl.B a0.pl.C a0.pl.D a0.kids 0 0 (decide (v1≤0)) a1.X a1.Y a1.Z a1.W))
def Dimpl_Solid_around(n:Nat)(a0:Sol)(a1:Spot):Option (Int×Int):=loopN (Dimpl_Solid_around_b n) n (a0,a1)
theorem Timpl_Solid_around_b{Y}(n:Nat):∀(m:Nat) (a:(Sol×Spot)) (r:(Int×Int)),loopN (Dimpl_Solid_around_b n) m a=some r→∀(q0:List AV),Big Tryz.prog H Y (.call 154 [.cptr ([bl a.1.inn,i64 a.1.pl.A,i64 a.1.pl.B,i64 a.1.pl.C,i64 a.1.pl.D,.sl false 6 a.1.kids.length ((eSol false).f a.1.kids)]++q0),.agg [i64 a.2.X,i64 a.2.Y,i64 a.2.Z,i64 a.2.W]] (lk []) (.tup [i64 r.1,i64 r.2]) (lk [])):=by
 refine loopN_ind (fun self hs a r h=>?_)
 have hself:∀(a:(Sol×Spot)) (q0:List AV) (r:(Int×Int)),self a=some r→Big Tryz.prog H Y (.call 154 [.cptr ([bl a.1.inn,i64 a.1.pl.A,i64 a.1.pl.B,i64 a.1.pl.C,i64 a.1.pl.D,.sl false 6 a.1.kids.length ((eSol false).f a.1.kids)]++q0),.agg [i64 a.2.X,i64 a.2.Y,i64 a.2.Z,i64 a.2.W]] (lk []) (.tup [i64 r.1,i64 r.2]) (lk [])):=fun a q0 r h=>hs a r h q0
 intro q0
 obtain⟨a0,a1⟩:=a
 unfold Dimpl_Solid_around_b at h
 refine x_call (fn:=Tryz.f154) (c:=bodyOf Tryz.f154) (bs0:=[]) Tryz.func154 (by kernel_rfl) (by kernel_rfl) ?_
 obtain⟨v0,y0,h⟩:=bm h
 refine x_frk 12 [(4,.call [] [] (bl v0) [])] (ocons (Timpl_Solid_isLeaf (Y:=Y) a0 q0 _ y0) onil) h (by kernel_rfl) (fun h=>?_) (fun h=>?_)
 ·refine x_frk 8 [] onil h (by kernel_rfl) (fun h=>?_) (fun h=>?_)
  ·replace h:=sj h;subst h
   exact x_end 5 [] [] onil onil 
  ·replace h:=sj h;subst h
   exact x_end 6 [] [] onil onil 
 ·obtain⟨v1,y1,h⟩:=bm h
  refine x_frk 22 [(5,.call [] [] (i64 v1) [])] (ocons (Timpl_sideAt (Y:=Y) a0.pl a1 _ y1) onil) h (by kernel_rfl) (fun h=>?_) (fun h=>?_)
  ·obtain⟨v2,y2,h⟩:=bm h
   obtain⟨v3,y3,h⟩:=bm h
   exact x_to 20 [(4,.val (.cptr ((eSol false).c v2++(eSol false).f ((a0.kids).drop (Int.toNat 0+1))))),(1,.call [] [] (.tup [i64 v3.1,i64 v3.2]) [])] (ocons (ix (eSol false) y2) (ocons (hself (v2,a1) ((eSol false).f ((a0.kids).drop (Int.toNat 0+1))) _ y3) onil)) (Timpl_Solid_around_0 n self hself a0.inn a0.pl.A a0.pl.B a0.pl.C a0.pl.D a0.kids q0 v3.1 v3.2 (decide (v1≤0)) a1.X a1.Y a1.Z a1.W q0 r h) 
  ·exact x_to 7 [] onil (Timpl_Solid_around_0 n self hself a0.inn a0.pl.A a0.pl.B a0.pl.C a0.pl.D a0.kids q0 0 0 (decide (v1≤0)) a1.X a1.Y a1.Z a1.W q0 r h) 
theorem Timpl_Solid_around{Y}(n:Nat)(a0:Sol)(a1:Spot)(q0:List AV)(r:(Int×Int))(h:Dimpl_Solid_around n a0 a1=some r):Big Tryz.prog H Y (.call 154 [.cptr ([bl a0.inn,i64 a0.pl.A,i64 a0.pl.B,i64 a0.pl.C,i64 a0.pl.D,.sl false 6 a0.kids.length ((eSol false).f a0.kids)]++q0),.agg [i64 a1.X,i64 a1.Y,i64 a1.Z,i64 a1.W]] (lk []) (.tup [i64 r.1,i64 r.2]) (lk [])):=Timpl_Solid_around_b n n (a0,a1) r h q0
def Dimpl_Around_0(n:Nat)(t13 zb:Bool)(zm zn zo zar:Int)(zba:List Sol)(ze zf zs zt:Int):Option (Int×Int) :=
 frk t13 (some (0,0)) ((Dimpl_Solid_around n (Sol.mk zb (Pl.mk zm zn zo zar) zba) (Spot.mk ze zf zs zt)).bind fun v2=>some v2)
theorem Timpl_Around_0{Y}(n:Nat)(t13 zb:Bool)(zm zn zo zar:Int)(zba:List Sol)(ze zf zs zt:Int)(r:(Int×Int))(h:Dimpl_Around_0 n t13 zb zm zn zo zar zba ze zf zs zt=some r):Wk Tryz.prog H Y 123 [.code (cp [1,0,1] (bodyOf Tryz.f123)),.code (cp [1,1] (bodyOf Tryz.f123))] (FinX Tryz.prog Tryz.f123 [] (.tup [i64 r.1,i64 r.2]) []) ⟨[(2,.ptr 2 0),(3,.ptr 3 0),(13,bl t13)],[(2,⟨true,0,[bl zb,i64 zm,i64 zn,i64 zo,i64 zar,.sl false 6 zba.length ((eSol false).f zba)]⟩),(3,⟨true,0,[i64 ze,i64 zf,i64 zs,i64 zt]⟩)]⟩:=by
 unfold Dimpl_Around_0 at h
 refine x_frk 0 [] onil h (by kernel_rfl) (fun h=>?_) (fun h=>?_)
 ·replace h:=sj h;subst h
  exact x_end 5 [] [] onil onil 
 ·obtain⟨v2,y2,h⟩:=bm h
  replace h:=sj h;subst h
  exact x_end 10 [(1,.call [] [] (.tup [i64 v2.1,i64 v2.2]) [])] [] (ocons (Timpl_Solid_around (Y:=Y) n (Sol.mk zb (Pl.mk zm zn zo zar) zba) (Spot.mk ze zf zs zt) [] _ y2) onil) onil 
def Dimpl_Around(n:Nat)(a0:Sol)(a1:Spot):Option (Int×Int) :=
 (Dimpl_SpotOk n a1).bind fun v0=>frk (!v0) (some (0,0)) ((Dimpl_SolidOk n a0).bind fun v1=>Dimpl_Around_0 n (!v1) a0.inn a0.pl.A a0.pl.B a0.pl.C a0.pl.D a0.kids a1.X a1.Y a1.Z a1.W)
theorem Timpl_Around{Y}(n:Nat)(a0:Sol)(a1:Spot)(r:(Int×Int))(h:Dimpl_Around n a0 a1=some r):Big Tryz.prog H Y (.call 123 [eF a0,.agg [i64 a1.X,i64 a1.Y,i64 a1.Z,i64 a1.W]] (lk []) (.tup [i64 r.1,i64 r.2]) (lk [])):=by
 unfold Dimpl_Around at h
 refine x_call (fn:=Tryz.f123) (c:=bodyOf Tryz.f123) (bs0:=[]) Tryz.func123 (by kernel_rfl) (by kernel_rfl) ?_
 obtain⟨v0,y0,h⟩:=bm h
 refine x_frk 14 [(5,.call [] [] (bl v0) [])] (ocons (Timpl_SpotOk (Y:=Y) n a1 _ y0) onil) h (by kernel_rfl) (fun h=>?_) (fun h=>?_)
 ·replace h:=sj h;subst h
  exact x_end 11 [] [] onil onil 
 ·obtain⟨v1,y1,h⟩:=bm h
  exact x_to 5 [(1,.call [] [] (bl v1) [])] (ocons (Timpl_SolidOk (Y:=Y) n a0 _ y1) onil) (Timpl_Around_0 n (!v1) a0.inn a0.pl.A a0.pl.B a0.pl.C a0.pl.D a0.kids a1.X a1.Y a1.Z a1.W r h) 
def Dimpl_where(a0 a1:Int):Option Int :=
 frk (a0==0) (some (-1)) (frk (a1==0) (some 1) (some 0))
theorem Timpl_where{Y}(a0 a1 r:Int)(h:Dimpl_where a0 a1=some r):Big Tryz.prog H Y (.call 122 [i64 a0,i64 a1] (lk []) (i64 r) (lk [])):=by
 unfold Dimpl_where at h
 refine x_call (fn:=Tryz.f122) (c:=bodyOf Tryz.f122) (bs0:=[]) Tryz.func122 (by kernel_rfl) (by kernel_rfl) ?_
 refine x_frk 12 [] onil h (by kernel_rfl) (fun h=>?_) (fun h=>?_)
 ·replace h:=sj h;subst h
  exact x_end 4 [] [] onil onil 
 ·refine x_frk 6 [] onil h (by kernel_rfl) (fun h=>?_) (fun h=>?_)
  ·replace h:=sj h;subst h
   exact x_end 4 [] [] onil onil 
  ·replace h:=sj h;subst h
   exact x_end 6 [] [] onil onil 
def Dimpl_Where(n:Nat)(a0:Sol)(a1:Spot):Option Int :=
 (Dimpl_Around n a0 a1).bind fun v0=>(Dimpl_where v0.1 v0.2).bind fun v1=>some v1
theorem Timpl_Where{Y}(n:Nat)(a0:Sol)(a1:Spot)(r:Int)(h:Dimpl_Where n a0 a1=some r):Big Tryz.prog H Y (.call 53 [eF a0,.agg [i64 a1.X,i64 a1.Y,i64 a1.Z,i64 a1.W]] (lk []) (i64 r) (lk [])):=by
 unfold Dimpl_Where at h
 refine x_call (fn:=Tryz.f53) (c:=bodyOf Tryz.f53) (bs0:=[]) Tryz.func53 (by kernel_rfl) (by kernel_rfl) ?_
 obtain⟨v0,y0,h⟩:=bm h
 obtain⟨v1,y1,h⟩:=bm h
 replace h:=sj h;subst h
 exact x_end 16 [(5,.call [] [] (.tup [i64 v0.1,i64 v0.2]) []),(2,.call [] [] (i64 v1) [])] [] (ocons (Timpl_Around (Y:=Y) n a0 a1 _ y0) (ocons (Timpl_where (Y:=Y) v0.1 v0.2 _ y1) onil)) onil 
def Dlaws_isIn(a0:Int)(a1 a2:Bool):Option Bool :=
 frk (a0==1) (frk a1 (some a2) (some false)) (frk (a0==2) (frk a1 (some true) (some a2)) (frk (a0==3) (frk a1 (some (!a2)) (some false)) (some (!(a1==a2)))))
theorem Tlaws_isIn{Y}(a0:Int)(a1 a2 r:Bool)(h:Dlaws_isIn a0 a1 a2=some r):Big Tryz.prog H Y (.call 54 [i64 a0,bl a1,bl a2] (lk []) (bl r) (lk [])):=by
 unfold Dlaws_isIn at h
 refine x_call (fn:=Tryz.f54) (c:=bodyOf Tryz.f54) (bs0:=[]) Tryz.func54 (by kernel_rfl) (by kernel_rfl) ?_
 refine x_frk 15 [] onil h (by kernel_rfl) (fun h=>?_) (fun h=>?_)
 ·refine x_frk 4 [] onil h (by kernel_rfl) (fun h=>?_) (fun h=>?_)
  ·replace h:=sj h;subst h
   exact x_end 4 [] [] onil onil 
  ·replace h:=sj h;subst h
   exact x_end 4 [] [] onil onil 
 ·refine x_frk 5 [] onil h (by kernel_rfl) (fun h=>?_) (fun h=>?_)
  ·refine x_frk 4 [] onil h (by kernel_rfl) (fun h=>?_) (fun h=>?_)
   ·replace h:=sj h;subst h
    exact x_end 4 [] [] onil onil 
   ·replace h:=sj h;subst h
    exact x_end 4 [] [] onil onil 
  ·refine x_frk 5 [] onil h (by kernel_rfl) (fun h=>?_) (fun h=>?_)
   ·refine x_frk 4 [] onil h (by kernel_rfl) (fun h=>?_) (fun h=>?_)
    ·replace h:=sj h;subst h
     exact x_end 5 [] [] onil onil 
    ·replace h:=sj h;subst h
     exact x_end 5 [] [] onil onil 
   ·replace h:=sj h;subst h
    exact x_end 9 [] [] onil onil 
end Evl.T
