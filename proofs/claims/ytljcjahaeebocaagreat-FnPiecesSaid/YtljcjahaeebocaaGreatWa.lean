
/- Walks. No condition. -/
import Derived.Test.YtljcjahaeebocaaGreatWy
namespace Evl.T
open Go Evl Go.Proofs
set_option maxRecDepth 100000
def Dimpl_clash2(_n:Nat)(a0:Pl)(a1:Pl):Option Bool :=
 (Dimpl_parallel a0 a1).bind fun v0=>frk (decide (v0≥0)) (some false) ((Dimpl_normal a0).bind fun v1=>(Dimpl_normal a1).bind fun v2=>frk (v1.1 != 0) (some (decide ((w64 ((w64 (a0.D*(maxN v2.1 [w64 (0-v2.1)])))+(w64 (a1.D*(maxN v1.1 [w64 (0-v1.1)])))))≤0))) (frk (v1.2.1 != 0) (some (decide ((w64 ((w64 (a0.D*(maxN v2.2.1 [w64 (0-v2.2.1)])))+(w64 (a1.D*(maxN v1.2.1 [w64 (0-v1.2.1)])))))≤0))) (frk (v1.2.2 != 0) (some (decide ((w64 ((w64 (a0.D*(maxN v2.2.2 [w64 (0-v2.2.2)])))+(w64 (a1.D*(maxN v1.2.2 [w64 (0-v1.2.2)])))))≤0))) (some false))))
theorem Timpl_clash2{Y}(n:Nat)(a0:Pl)(a1:Pl)(r:Bool)(h:Dimpl_clash2 n a0 a1=some r):Big Tryz.prog H Y (.call 146 [.agg [i64 a0.A,i64 a0.B,i64 a0.C,i64 a0.D],.agg [i64 a1.A,i64 a1.B,i64 a1.C,i64 a1.D]] (lk []) (bl r) (lk [])):=by
 unfold Dimpl_clash2 at h
 refine x_call (fn:=Tryz.f146) (c:=bodyOf Tryz.f146) (bs0:=[]) Tryz.func146 (by kernel_rfl) (by kernel_rfl) ?_
 obtain⟨v0,y0,h⟩:=bm h
 refine x_frk 14 [(5,.call [] [] (i64 v0) [])] (ocons (Timpl_parallel (Y:=Y) a0 a1 _ y0) onil) h (by kernel_rfl) (fun h=>?_) (fun h=>?_)
 ·replace h:=sj h;subst h
  exact x_end 4 [] [] onil onil 
 ·obtain⟨v1,y1,h⟩:=bm h
  obtain⟨v2,y2,h⟩:=bm h
  refine x_frk 40 [(1,.call [] [] (.agg [i64 v1.1,i64 v1.2.1,i64 v1.2.2]) []),(1,.call [] [] (.agg [i64 v2.1,i64 v2.2.1,i64 v2.2.2]) [])] (ocons (Timpl_normal (Y:=Y) a0 _ y1) (ocons (Timpl_normal (Y:=Y) a1 _ y2) onil)) h (by kernel_rfl) (fun h=>?_) (fun h=>?_)
  ·replace h:=sj h;subst h
   exact x_end 28 [(9,.val (.lit (.int .i64 (maxN v2.1 [w64 (0-v2.1)])))),(10,.val (.lit (.int .i64 (maxN v1.1 [w64 (0-v1.1)]))))] [] (ocons (maxNok .i64 [w64 (0-v2.1)] v2.1) (ocons (maxNok .i64 [w64 (0-v1.1)] v1.1) onil)) onil 
  ·refine x_frk 29 [] onil h (by kernel_rfl) (fun h=>?_) (fun h=>?_)
   ·replace h:=sj h;subst h
    exact x_end 28 [(9,.val (.lit (.int .i64 (maxN v2.2.1 [w64 (0-v2.2.1)])))),(10,.val (.lit (.int .i64 (maxN v1.2.1 [w64 (0-v1.2.1)]))))] [] (ocons (maxNok .i64 [w64 (0-v2.2.1)] v2.2.1) (ocons (maxNok .i64 [w64 (0-v1.2.1)] v1.2.1) onil)) onil 
   ·refine x_frk 29 [] onil h (by kernel_rfl) (fun h=>?_) (fun h=>?_)
    ·replace h:=sj h;subst h
     exact x_end 28 [(9,.val (.lit (.int .i64 (maxN v2.2.2 [w64 (0-v2.2.2)])))),(10,.val (.lit (.int .i64 (maxN v1.2.2 [w64 (0-v1.2.2)]))))] [] (ocons (maxNok .i64 [w64 (0-v2.2.2)] v2.2.2) (ocons (maxNok .i64 [w64 (0-v1.2.2)] v1.2.2) onil)) onil 
    ·replace h:=sj h;subst h
     exact x_end 19 [] [] onil onil 
def Dimpl_det(a0:(Int×Int×Int))(a1:(Int×Int×Int))(a2:(Int×Int×Int)):Option Int :=
 (Dimpl_crossOf a1 a2).bind fun v0=>(Dimpl_dot a0 v0).bind fun v1=>some v1
theorem Timpl_det{Y}(a0:(Int×Int×Int))(a1:(Int×Int×Int))(a2:(Int×Int×Int))(r:Int)(h:Dimpl_det a0 a1 a2=some r):Big Tryz.prog H Y (.call 171 [.agg [i64 a0.1,i64 a0.2.1,i64 a0.2.2],.agg [i64 a1.1,i64 a1.2.1,i64 a1.2.2],.agg [i64 a2.1,i64 a2.2.1,i64 a2.2.2]] (lk []) (i64 r) (lk [])):=by
 unfold Dimpl_det at h
 refine x_call (fn:=Tryz.f171) (c:=bodyOf Tryz.f171) (bs0:=[]) Tryz.func171 (by kernel_rfl) (by kernel_rfl) ?_
 obtain⟨v0,y0,h⟩:=bm h
 obtain⟨v1,y1,h⟩:=bm h
 replace h:=sj h;subst h
 exact x_end 16 [(7,.call [] [] (.agg [i64 v0.1,i64 v0.2.1,i64 v0.2.2]) []),(0,.call [] [] (i64 v1) [])] [] (ocons (Timpl_crossOf (Y:=Y) a1 a2 _ y0) (ocons (Timpl_dot (Y:=Y) a0 v0 _ y1) onil)) onil 
def Dimpl_weighs_0(_n:Nat)(rec0:(Int×Int)→Option Bool)(t1:List Int)(_t5:Int)(_t13:List Int)(_t14 t6 t7 t8 t15:Int)(t27:Bool):Option Bool :=
 frk t27 (some false) ((lget t1 t7).bind fun v4=>rec0 (w64 (t6+(w64 (t8*v4))),w64 (t15+1)))
theorem Timpl_weighs_0{Y}(n:Nat)(rec0:(Int×Int)→Option Bool)(t1:List Int)(t5:Int)(t13:List Int)(t14:Int)(hrec0:∀(a:(Int×Int)) (r:Bool),rec0 a=some r→Wk Tryz.prog H Y 173 [.code (cp [1,1,1,0,1,0] (bodyOf Tryz.f173)),.blk 0,.code (cp [1,1,1,1] (bodyOf Tryz.f173))] (FinX Tryz.prog Tryz.f173 [] (bl r) []) ⟨[(1,.sl false 1 t1.length ((eInt).f t1)),(5,i64 t5),(6,i64 a.1),(13,.sl false 1 t13.length ((eInt).f t13)),(14,i64 t14),(15,i64 a.2)],[]⟩)(t6 t7 t8 t15:Int)(t27 r:Bool)(h:Dimpl_weighs_0 n rec0 t1 t5 t13 t14 t6 t7 t8 t15 t27=some r):Wk Tryz.prog H Y 173 [.code (cp [1,1,1,0,1,0,0,1,1,0,0,1,0,1] (bodyOf Tryz.f173)),.code (cp [1,1,1,0,1,0,0,1,1,0,0,1,1] (bodyOf Tryz.f173)),.blk 1,.code (cp [1,1,1,0,1,0,0,1,1,1] (bodyOf Tryz.f173)),.lp (cp [1,1,1,0,1,0] (bodyOf Tryz.f173)),.blk 0,.code (cp [1,1,1,1] (bodyOf Tryz.f173))] (FinX Tryz.prog Tryz.f173 [] (bl r) []) ⟨[(1,.sl false 1 t1.length ((eInt).f t1)),(5,i64 t5),(6,i64 t6),(7,i64 t7),(8,i64 t8),(13,.sl false 1 t13.length ((eInt).f t13)),(14,i64 t14),(15,i64 t15),(27,bl t27)],[]⟩:=by
 unfold Dimpl_weighs_0 at h
 refine x_frk 0 [] onil h (by kernel_rfl) (fun h=>?_) (fun h=>?_)
 ·replace h:=sj h;subst h
  exact x_end 4 [] [] onil onil 
 ·obtain⟨v4,y4,h⟩:=bm h
  exact x_to 18 [(4,.val (.cptr (eInt.c v4++(eInt).f ((t1).drop (Int.toNat t7+1)))))] (ocons (ix eInt y4) onil) (hrec0 (w64 (t6+(w64 (t8*v4))),w64 (t15+1)) r h) 
def Dimpl_weighs_1(n:Nat)(t1:List Int)(t5:Int)(t13:List Int)(t14:Int)(rec0:(Int×Int)→Option Bool)(a:(Int×Int)):Option Bool :=
 match a with
 | (t6,t15)=>frk (decide (t15<t14)) ((lget t13 t15).bind fun v2=>frk (t5==0) (some false) ((Dimpl_sign v2).bind fun v3=>Dimpl_weighs_0 n rec0 t1 t5 t13 t14 t6 t15 v2 t15 (v3 != t5))) (some (decide ((w64 (t6*t5))≤0)))
theorem Timpl_weighs_1{Y}(n:Nat)(t1:List Int)(t5:Int)(t13:List Int)(t14:Int):∀(m:Nat) (a:(Int×Int)) (r:Bool),loopN (Dimpl_weighs_1 n t1 t5 t13 t14) m a=some r→Wk Tryz.prog H Y 173 [.code (cp [1,1,1,0,1,0] (bodyOf Tryz.f173)),.blk 0,.code (cp [1,1,1,1] (bodyOf Tryz.f173))] (FinX Tryz.prog Tryz.f173 [] (bl r) []) ⟨[(1,.sl false 1 t1.length ((eInt).f t1)),(5,i64 t5),(6,i64 a.1),(13,.sl false 1 t13.length ((eInt).f t13)),(14,i64 t14),(15,i64 a.2)],[]⟩:=by
 refine loopN_ind (fun rec0 hrec0 a r h=>?_)
 obtain⟨t6,t15⟩:=a
 unfold Dimpl_weighs_1 at h
 refine x_frk 6 [] onil h (by kernel_rfl) (fun h=>?_) (fun h=>?_)
 ·obtain⟨v2,y2,h⟩:=bm h
  refine x_frk 17 [(1,.val (.cptr (eInt.c v2++(eInt).f ((t13).drop (Int.toNat t15+1)))))] (ocons (ix eInt y2) onil) h (by kernel_rfl) (fun h=>?_) (fun h=>?_)
  ·replace h:=sj h;subst h
   exact x_end 11 [] [] onil onil 
  ·obtain⟨v3,y3,h⟩:=bm h
   exact x_to 6 [(1,.call [] [] (i64 v3) [])] (ocons (Timpl_sign (Y:=Y) v2 _ y3) onil) (Timpl_weighs_0 n rec0 t1 t5 t13 t14 hrec0 t6 t15 v2 t15 (v3 != t5) r h) 
 ·replace h:=sj h;subst h
  exact x_end 9 [] [] onil onil 
def Dimpl_weighs(n:Nat)(a0:(List Int))(a1:(List Int)):Option Bool :=
 (lget a0 0).bind fun v0=>(Dimpl_sign v0).bind fun v1=>loopN (Dimpl_weighs_1 n a1 v1 a0 (a0.length:Int)) n (0,0)
theorem Timpl_weighs{Y}(n:Nat)(a0:(List Int))(a1:(List Int))(r:Bool)(h:Dimpl_weighs n a0 a1=some r):Big Tryz.prog H Y (.call 173 [.sl false 1 a0.length ((eInt).f a0),.sl false 1 a1.length ((eInt).f a1)] (lk []) (bl r) (lk [])):=by
 unfold Dimpl_weighs at h
 refine x_call (fn:=Tryz.f173) (c:=bodyOf Tryz.f173) (bs0:=[]) Tryz.func173 (by kernel_rfl) (by kernel_rfl) ?_
 obtain⟨v0,y0,h⟩:=bm h
 obtain⟨v1,y1,h⟩:=bm h
 exact x_to 24 [(2,.val (.cptr (eInt.c v0++(eInt).f ((a0).drop (Int.toNat 0+1))))),(1,.call [] [] (i64 v1) [])] (ocons (ix eInt y0) (ocons (Timpl_sign (Y:=Y) v0 _ y1) onil)) (Timpl_weighs_1 n a1 v1 a0 (a0.length:Int) n (0,0) r h) 
def Dimpl_clash3(n:Nat)(a0:Pl)(a1:Pl)(a2:Pl):Option Bool :=
 (Dimpl_normal a0).bind fun v0=>(Dimpl_normal a1).bind fun v1=>(Dimpl_normal a2).bind fun v2=>(Dimpl_det v0 v1 v2).bind fun v3=>frk (v3 != 0) (some false) ((Dimpl_crossOf v0 v1).bind fun v4=>(Dimpl_crossOf v1 v2).bind fun v5=>(Dimpl_dot v5 v4).bind fun v6=>(Dimpl_crossOf v2 v0).bind fun v7=>(Dimpl_dot v7 v4).bind fun v8=>(Dimpl_dot v4 v4).bind fun v9=>(Dimpl_weighs n [v6,v8,v9] [a0.D,a1.D,a2.D]).bind fun v10=>some v10)
theorem Timpl_clash3{Y}(n:Nat)(a0:Pl)(a1:Pl)(a2:Pl)(r:Bool)(h:Dimpl_clash3 n a0 a1 a2=some r):Big Tryz.prog H Y (.call 147 [.agg [i64 a0.A,i64 a0.B,i64 a0.C,i64 a0.D],.agg [i64 a1.A,i64 a1.B,i64 a1.C,i64 a1.D],.agg [i64 a2.A,i64 a2.B,i64 a2.C,i64 a2.D]] (lk []) (bl r) (lk [])):=by
 unfold Dimpl_clash3 at h
 refine x_call (fn:=Tryz.f147) (c:=bodyOf Tryz.f147) (bs0:=[]) Tryz.func147 (by kernel_rfl) (by kernel_rfl) ?_
 obtain⟨v0,y0,h⟩:=bm h
 obtain⟨v1,y1,h⟩:=bm h
 obtain⟨v2,y2,h⟩:=bm h
 obtain⟨v3,y3,h⟩:=bm h
 refine x_frk 31 [(5,.call [] [] (.agg [i64 v0.1,i64 v0.2.1,i64 v0.2.2]) []),(1,.call [] [] (.agg [i64 v1.1,i64 v1.2.1,i64 v1.2.2]) []),(1,.call [] [] (.agg [i64 v2.1,i64 v2.2.1,i64 v2.2.2]) []),(9,.call [] [] (i64 v3) [])] (ocons (Timpl_normal (Y:=Y) a0 _ y0) (ocons (Timpl_normal (Y:=Y) a1 _ y1) (ocons (Timpl_normal (Y:=Y) a2 _ y2) (ocons (Timpl_det (Y:=Y) v0 v1 v2 _ y3) onil)))) h (by kernel_rfl) (fun h=>?_) (fun h=>?_)
 ·replace h:=sj h;subst h
  exact x_end 4 [] [] onil onil 
 ·obtain⟨v4,y4,h⟩:=bm h
  obtain⟨v5,y5,h⟩:=bm h
  obtain⟨v6,y6,h⟩:=bm h
  obtain⟨v7,y7,h⟩:=bm h
  obtain⟨v8,y8,h⟩:=bm h
  obtain⟨v9,y9,h⟩:=bm h
  obtain⟨v10,y10,h⟩:=bm h
  replace h:=sj h;subst h
  exact x_end 35 [(2,.call [] [] (.agg [i64 v4.1,i64 v4.2.1,i64 v4.2.2]) []),(4,.call [] [] (.agg [i64 v5.1,i64 v5.2.1,i64 v5.2.2]) []),(1,.call [] [] (i64 v6) []),(2,.call [] [] (.agg [i64 v7.1,i64 v7.2.1,i64 v7.2.2]) []),(1,.call [] [] (i64 v8) []),(2,.call [] [] (i64 v9) []),(8,.call [] [(eInt).f [a0.D,a1.D,a2.D],(eInt).f [v6,v8,v9]] (bl v10) [])] [] (ocons (Timpl_crossOf (Y:=Y) v0 v1 _ y4) (ocons (Timpl_crossOf (Y:=Y) v1 v2 _ y5) (ocons (Timpl_dot (Y:=Y) v5 v4 _ y6) (ocons (Timpl_crossOf (Y:=Y) v2 v0 _ y7) (ocons (Timpl_dot (Y:=Y) v7 v4 _ y8) (ocons (Timpl_dot (Y:=Y) v4 v4 _ y9) (ocons (Timpl_weighs (Y:=Y) n [v6,v8,v9] [a0.D,a1.D,a2.D] _ y10) (ocons (len_row (L:=[v6,v8,v9]) eInt) (ocons (Enc.share eInt eInt sInt [v6,v8,v9]) (ocons (len_row (L:=[a0.D,a1.D,a2.D]) eInt) (ocons (Enc.share eInt eInt sInt [a0.D,a1.D,a2.D]) onil))))))))))) onil 
def Dimpl_det3(a0:Pl)(a1:Pl)(a2:Pl):Option Int :=
 (Dimpl_normal a0).bind fun v0=>(Dimpl_normal a1).bind fun v1=>(Dimpl_normal a2).bind fun v2=>(Dimpl_det v0 v1 v2).bind fun v3=>some v3
theorem Timpl_det3{Y}(a0:Pl)(a1:Pl)(a2:Pl)(r:Int)(h:Dimpl_det3 a0 a1 a2=some r):Big Tryz.prog H Y (.call 175 [.agg [i64 a0.A,i64 a0.B,i64 a0.C,i64 a0.D],.agg [i64 a1.A,i64 a1.B,i64 a1.C,i64 a1.D],.agg [i64 a2.A,i64 a2.B,i64 a2.C,i64 a2.D]] (lk []) (i64 r) (lk [])):=by
 unfold Dimpl_det3 at h
 refine x_call (fn:=Tryz.f175) (c:=bodyOf Tryz.f175) (bs0:=[]) Tryz.func175 (by kernel_rfl) (by kernel_rfl) ?_
 obtain⟨v0,y0,h⟩:=bm h
 obtain⟨v1,y1,h⟩:=bm h
 obtain⟨v2,y2,h⟩:=bm h
 obtain⟨v3,y3,h⟩:=bm h
 replace h:=sj h;subst h
 exact x_end 18 [(5,.call [] [] (.agg [i64 v0.1,i64 v0.2.1,i64 v0.2.2]) []),(1,.call [] [] (.agg [i64 v1.1,i64 v1.2.1,i64 v1.2.2]) []),(1,.call [] [] (.agg [i64 v2.1,i64 v2.2.1,i64 v2.2.2]) []),(0,.call [] [] (i64 v3) [])] [] (ocons (Timpl_normal (Y:=Y) a0 _ y0) (ocons (Timpl_normal (Y:=Y) a1 _ y1) (ocons (Timpl_normal (Y:=Y) a2 _ y2) (ocons (Timpl_det (Y:=Y) v0 v1 v2 _ y3) onil)))) onil 
def Dimpl_clash4(n:Nat)(a0:Pl)(a1:Pl)(a2:Pl)(a3:Pl):Option Bool :=
 (Dimpl_det3 a1 a2 a3).bind fun v0=>(Dimpl_det3 a0 a2 a3).bind fun v1=>(Dimpl_det3 a0 a1 a3).bind fun v2=>(Dimpl_det3 a0 a1 a2).bind fun v3=>(Dimpl_weighs n [v0,w64 (0-v1),v2,w64 (0-v3)] [a0.D,a1.D,a2.D,a3.D]).bind fun v4=>some v4
theorem Timpl_clash4{Y}(n:Nat)(a0:Pl)(a1:Pl)(a2:Pl)(a3:Pl)(r:Bool)(h:Dimpl_clash4 n a0 a1 a2 a3=some r):Big Tryz.prog H Y (.call 148 [.agg [i64 a0.A,i64 a0.B,i64 a0.C,i64 a0.D],.agg [i64 a1.A,i64 a1.B,i64 a1.C,i64 a1.D],.agg [i64 a2.A,i64 a2.B,i64 a2.C,i64 a2.D],.agg [i64 a3.A,i64 a3.B,i64 a3.C,i64 a3.D]] (lk []) (bl r) (lk [])):=by
 unfold Dimpl_clash4 at h
 refine x_call (fn:=Tryz.f148) (c:=bodyOf Tryz.f148) (bs0:=[]) Tryz.func148 (by kernel_rfl) (by kernel_rfl) ?_
 obtain⟨v0,y0,h⟩:=bm h
 obtain⟨v1,y1,h⟩:=bm h
 obtain⟨v2,y2,h⟩:=bm h
 obtain⟨v3,y3,h⟩:=bm h
 obtain⟨v4,y4,h⟩:=bm h
 replace h:=sj h;subst h
 exact x_end 46 [(8,.call [] [] (i64 v0) []),(3,.call [] [] (i64 v1) []),(4,.call [] [] (i64 v2) []),(3,.call [] [] (i64 v3) []),(13,.call [] [(eInt).f [a0.D,a1.D,a2.D,a3.D],(eInt).f [v0,w64 (0-v1),v2,w64 (0-v3)]] (bl v4) [])] [] (ocons (Timpl_det3 (Y:=Y) a1 a2 a3 _ y0) (ocons (Timpl_det3 (Y:=Y) a0 a2 a3 _ y1) (ocons (Timpl_det3 (Y:=Y) a0 a1 a3 _ y2) (ocons (Timpl_det3 (Y:=Y) a0 a1 a2 _ y3) (ocons (Timpl_weighs (Y:=Y) n [v0,w64 (0-v1),v2,w64 (0-v3)] [a0.D,a1.D,a2.D,a3.D] _ y4) (ocons (len_row (L:=[v0,w64 (0-v1),v2,w64 (0-v3)]) eInt) (ocons (Enc.share eInt eInt sInt [v0,w64 (0-v1),v2,w64 (0-v3)]) (ocons (len_row (L:=[a0.D,a1.D,a2.D,a3.D]) eInt) (ocons (Enc.share eInt eInt sInt [a0.D,a1.D,a2.D,a3.D]) onil))))))))) onil 
def Dimpl_room_0(n:Nat)(rec1:Int→Option Bool)(_rec0:Int→Option Bool)(_t13:Int)(_t23:List Pl)(_t24 zah zai zaj zak:Int)(_t0:List Pl)(_t11:List Pl)(_t12 ze zf zs zt t25:Int)(t36:List Pl)(t37 zg zh zi zj:Int)(rec2:Int→Option Bool)(a:Int):Option Bool :=
 match a with
 | t38=>frk (decide (t38<t37)) ((lget t36 t38).bind fun v6=>(Dimpl_clash4 n v6 (Pl.mk zg zh zi zj) (Pl.mk zah zai zaj zak) (Pl.mk ze zf zs zt)).bind fun v7=>frk v7 (some false) (rec2 (w64 (t38+1)))) (rec1 (w64 (t25+1)))
theorem Timpl_room_0{Y}(n:Nat)(rec1:Int→Option Bool)(rec0:Int→Option Bool)(t13:Int)(t23:List Pl)(t24 zah zai zaj zak:Int)(t0:List Pl)(t11:List Pl)(t12 ze zf zs zt:Int)(hrec1:∀(a:Int) (r:Bool),rec1 a=some r→Wk Tryz.prog H Y 110 [.code (cp [1,0,1,0,0,1,1,0,0,1,1,1,0] (bodyOf Tryz.f110)),.blk 2,.blk 1,.code (cp [1,0,1,0,0,1,1,1] (bodyOf Tryz.f110)),.lp (cp [1,0,1,0] (bodyOf Tryz.f110)),.blk 0,.code (cp [1,1] (bodyOf Tryz.f110))] (FinX Tryz.prog Tryz.f110 [] (bl r) []) ⟨[(0,.sl false 4 t0.length ((ePl).f t0)),(3,.ptr 3 0),(6,.ptr 6 0),(11,.sl false 4 t11.length ((ePl).f t11)),(12,i64 t12),(13,i64 t13),(23,.sl false 4 t23.length ((ePl).f t23)),(24,i64 t24),(25,i64 a)],[(3,⟨true,0,[i64 ze,i64 zf,i64 zs,i64 zt]⟩),(6,⟨true,0,[i64 zah,i64 zai,i64 zaj,i64 zak]⟩)]⟩)(_hrec0:∀(a:Int) (r:Bool),rec0 a=some r→Wk Tryz.prog H Y 110 [.code (cp [1,0,1,0] (bodyOf Tryz.f110)),.blk 0,.code (cp [1,1] (bodyOf Tryz.f110))] (FinX Tryz.prog Tryz.f110 [] (bl r) []) ⟨[(0,.sl false 4 t0.length ((ePl).f t0)),(3,.ptr 3 0),(11,.sl false 4 t11.length ((ePl).f t11)),(12,i64 t12),(13,i64 a)],[(3,⟨true,0,[i64 ze,i64 zf,i64 zs,i64 zt]⟩)]⟩)(t25:Int)(t36:List Pl)(t37 zg zh zi zj:Int):∀(m:Nat) (a:Int) (r:Bool),loopN (Dimpl_room_0 n rec1 rec0 t13 t23 t24 zah zai zaj zak t0 t11 t12 ze zf zs zt t25 t36 t37 zg zh zi zj) m a=some r→Wk Tryz.prog H Y 110 [.code (cp [1,0,1,0,0,1,1,0,0,1,1,1,0,0,1,1,0,0,1,1,1,0] (bodyOf Tryz.f110)),.blk 4,.blk 3,.code (cp [1,0,1,0,0,1,1,0,0,1,1,1,0,0,1,1,1] (bodyOf Tryz.f110)),.lp (cp [1,0,1,0,0,1,1,0,0,1,1,1,0] (bodyOf Tryz.f110)),.blk 2,.blk 1,.code (cp [1,0,1,0,0,1,1,1] (bodyOf Tryz.f110)),.lp (cp [1,0,1,0] (bodyOf Tryz.f110)),.blk 0,.code (cp [1,1] (bodyOf Tryz.f110))] (FinX Tryz.prog Tryz.f110 [] (bl r) []) ⟨[(0,.sl false 4 t0.length ((ePl).f t0)),(3,.ptr 3 0),(6,.ptr 6 0),(8,.ptr 8 0),(11,.sl false 4 t11.length ((ePl).f t11)),(12,i64 t12),(13,i64 t13),(23,.sl false 4 t23.length ((ePl).f t23)),(24,i64 t24),(25,i64 t25),(36,.sl false 4 t36.length ((ePl).f t36)),(37,i64 t37),(38,i64 a)],[(3,⟨true,0,[i64 ze,i64 zf,i64 zs,i64 zt]⟩),(6,⟨true,0,[i64 zah,i64 zai,i64 zaj,i64 zak]⟩),(8,⟨true,0,[i64 zg,i64 zh,i64 zi,i64 zj]⟩)]⟩:=by
 refine loopN_ind (fun _rec2 hrec2 a r h=>?_)
 obtain⟨t38,rfl⟩:∃x,x=a:=⟨a,rfl⟩
 unfold Dimpl_room_0 at h
 refine x_frk 6 [] onil h (by kernel_rfl) (fun h=>?_) (fun h=>?_)
 ·obtain⟨v6,y6,h⟩:=bm h
  obtain⟨v7,y7,h⟩:=bm h
  refine x_frk 18 [(0,.val (.cptr (ePl.c v6++(ePl).f ((t36).drop (Int.toNat t38+1))))),(7,.call [] [] (bl v7) [])] (ocons (ix ePl y6) (ocons (Timpl_clash4 (Y:=Y) n v6 (Pl.mk zg zh zi zj) (Pl.mk zah zai zaj zak) (Pl.mk ze zf zs zt) _ y7) onil)) h (by kernel_rfl) (fun h=>?_) (fun h=>?_)
  ·replace h:=sj h;subst h
   exact x_end 4 [] [] onil onil 
  ·exact x_to 7 [] onil (hrec2 (w64 (t38+1)) r h) 
 ·exact x_to 7 [] onil (hrec1 (w64 (t25+1)) r h) 
def Dimpl_room_1(n:Nat)(rec0:Int→Option Bool)(t0:List Pl)(t11:List Pl)(t12 ze zf zs zt t13:Int)(t23:List Pl)(t24 zah zai zaj zak:Int)(rec1:Int→Option Bool)(a:Int):Option Bool :=
 match a with
 | t25=>frk (decide (t25<t24)) ((lget t23 t25).bind fun v3=>(Dimpl_clash3 n v3 (Pl.mk zah zai zaj zak) (Pl.mk ze zf zs zt)).bind fun v4=>frk v4 (some false) ((lsl t0 0 t25).bind fun v5=>loopN (Dimpl_room_0 n rec1 rec0 t13 t23 t24 zah zai zaj zak t0 t11 t12 ze zf zs zt t25 v5 (v5.length:Int) v3.A v3.B v3.C v3.D) n 0)) (rec0 (w64 (t13+1)))
theorem Timpl_room_1{Y}(n:Nat)(rec0:Int→Option Bool)(t0:List Pl)(t11:List Pl)(t12 ze zf zs zt:Int)(hrec0:∀(a:Int) (r:Bool),rec0 a=some r→Wk Tryz.prog H Y 110 [.code (cp [1,0,1,0] (bodyOf Tryz.f110)),.blk 0,.code (cp [1,1] (bodyOf Tryz.f110))] (FinX Tryz.prog Tryz.f110 [] (bl r) []) ⟨[(0,.sl false 4 t0.length ((ePl).f t0)),(3,.ptr 3 0),(11,.sl false 4 t11.length ((ePl).f t11)),(12,i64 t12),(13,i64 a)],[(3,⟨true,0,[i64 ze,i64 zf,i64 zs,i64 zt]⟩)]⟩)(t13:Int)(t23:List Pl)(t24 zah zai zaj zak:Int):∀(m:Nat) (a:Int) (r:Bool),loopN (Dimpl_room_1 n rec0 t0 t11 t12 ze zf zs zt t13 t23 t24 zah zai zaj zak) m a=some r→Wk Tryz.prog H Y 110 [.code (cp [1,0,1,0,0,1,1,0,0,1,1,1,0] (bodyOf Tryz.f110)),.blk 2,.blk 1,.code (cp [1,0,1,0,0,1,1,1] (bodyOf Tryz.f110)),.lp (cp [1,0,1,0] (bodyOf Tryz.f110)),.blk 0,.code (cp [1,1] (bodyOf Tryz.f110))] (FinX Tryz.prog Tryz.f110 [] (bl r) []) ⟨[(0,.sl false 4 t0.length ((ePl).f t0)),(3,.ptr 3 0),(6,.ptr 6 0),(11,.sl false 4 t11.length ((ePl).f t11)),(12,i64 t12),(13,i64 t13),(23,.sl false 4 t23.length ((ePl).f t23)),(24,i64 t24),(25,i64 a)],[(3,⟨true,0,[i64 ze,i64 zf,i64 zs,i64 zt]⟩),(6,⟨true,0,[i64 zah,i64 zai,i64 zaj,i64 zak]⟩)]⟩:=by
 refine loopN_ind (fun rec1 hrec1 a r h=>?_)
 obtain⟨t25,rfl⟩:∃x,x=a:=⟨a,rfl⟩
 unfold Dimpl_room_1 at h
 refine x_frk 6 [] onil h (by kernel_rfl) (fun h=>?_) (fun h=>?_)
 ·obtain⟨v3,y3,h⟩:=bm h
  obtain⟨v4,y4,h⟩:=bm h
  refine x_frk 20 [(1,.val (.cptr (ePl.c v3++(ePl).f ((t23).drop (Int.toNat t25+1))))),(7,.call [] [] (bl v4) [])] (ocons (ix ePl y3) (ocons (Timpl_clash3 (Y:=Y) n v3 (Pl.mk zah zai zaj zak) (Pl.mk ze zf zs zt) _ y4) onil)) h (by kernel_rfl) (fun h=>?_) (fun h=>?_)
  ·replace h:=sj h;subst h
   exact x_end 4 [] [] onil onil 
  ·obtain⟨v5,y5,h⟩:=bm h
   exact x_to 10 [(2,.val (.sl false 4 v5.length ((ePl).f v5)))] (ocons (slF ePl y5) onil) (Timpl_room_0 n rec1 rec0 t13 t23 t24 zah zai zaj zak t0 t11 t12 ze zf zs zt hrec1 hrec0 t25 v5 (v5.length:Int) v3.A v3.B v3.C v3.D n 0 r h) 
 ·exact x_to 7 [] onil (hrec0 (w64 (t13+1)) r h) 
def Dimpl_room_2(n:Nat)(t0:List Pl)(t11:List Pl)(t12 ze zf zs zt:Int)(rec0:Int→Option Bool)(a:Int):Option Bool :=
 match a with
 | t13=>frk (decide (t13<t12)) ((lget t11 t13).bind fun v0=>(Dimpl_clash2 n v0 (Pl.mk ze zf zs zt)).bind fun v1=>frk v1 (some false) ((lsl t0 0 t13).bind fun v2=>loopN (Dimpl_room_1 n rec0 t0 t11 t12 ze zf zs zt t13 v2 (v2.length:Int) v0.A v0.B v0.C v0.D) n 0)) (some true)
theorem Timpl_room_2{Y}(n:Nat)(t0:List Pl)(t11:List Pl)(t12 ze zf zs zt:Int):∀(m:Nat) (a:Int) (r:Bool),loopN (Dimpl_room_2 n t0 t11 t12 ze zf zs zt) m a=some r→Wk Tryz.prog H Y 110 [.code (cp [1,0,1,0] (bodyOf Tryz.f110)),.blk 0,.code (cp [1,1] (bodyOf Tryz.f110))] (FinX Tryz.prog Tryz.f110 [] (bl r) []) ⟨[(0,.sl false 4 t0.length ((ePl).f t0)),(3,.ptr 3 0),(11,.sl false 4 t11.length ((ePl).f t11)),(12,i64 t12),(13,i64 a)],[(3,⟨true,0,[i64 ze,i64 zf,i64 zs,i64 zt]⟩)]⟩:=by
 refine loopN_ind (fun rec0 hrec0 a r h=>?_)
 obtain⟨t13,rfl⟩:∃x,x=a:=⟨a,rfl⟩
 unfold Dimpl_room_2 at h
 refine x_frk 6 [] onil h (by kernel_rfl) (fun h=>?_) (fun h=>?_)
 ·obtain⟨v0,y0,h⟩:=bm h
  obtain⟨v1,y1,h⟩:=bm h
  refine x_frk 19 [(1,.val (.cptr (ePl.c v0++(ePl).f ((t11).drop (Int.toNat t13+1))))),(6,.call [] [] (bl v1) [])] (ocons (ix ePl y0) (ocons (Timpl_clash2 (Y:=Y) n v0 (Pl.mk ze zf zs zt) _ y1) onil)) h (by kernel_rfl) (fun h=>?_) (fun h=>?_)
  ·replace h:=sj h;subst h
   exact x_end 4 [] [] onil onil 
  ·obtain⟨v2,y2,h⟩:=bm h
   exact x_to 10 [(2,.val (.sl false 4 v2.length ((ePl).f v2)))] (ocons (slF ePl y2) onil) (Timpl_room_1 n rec0 t0 t11 t12 ze zf zs zt hrec0 t13 v2 (v2.length:Int) v0.A v0.B v0.C v0.D n 0 r h) 
 ·replace h:=sj h;subst h
  exact x_end 5 [] [] onil onil 
def Dimpl_room(n:Nat)(a0:(List Pl))(a1:Pl):Option Bool :=
 loopN (Dimpl_room_2 n a0 a0 (a0.length:Int) a1.A a1.B a1.C a1.D) n 0
theorem Timpl_room{Y}(n:Nat)(a0:(List Pl))(a1:Pl)(r:Bool)(h:Dimpl_room n a0 a1=some r):Big Tryz.prog H Y (.call 110 [.sl false 4 a0.length ((ePl).f a0),.agg [i64 a1.A,i64 a1.B,i64 a1.C,i64 a1.D]] (lk []) (bl r) (lk [])):=by
 unfold Dimpl_room at h
 refine x_call (fn:=Tryz.f110) (c:=bodyOf Tryz.f110) (bs0:=[]) Tryz.func110 (by kernel_rfl) (by kernel_rfl) ?_
 exact x_to 13 [] onil (Timpl_room_2 n a0 a0 (a0.length:Int) a1.A a1.B a1.C a1.D n 0 r h) 
def Dimpl_with(a0:(List Pl))(a1:Pl):Option (List Pl) :=
 chk (apB 32 (0+a0.length)) (chk (apB 32 (([]++a0).length+1)) (some (([]++a0)++[a1])))
theorem Timpl_with{Y}(a0:(List Pl))(a1:Pl)(r:(List Pl))(h:Dimpl_with a0 a1=some r):Big Tryz.prog H Y (.call 104 [.sl false 4 a0.length ((ePl).f a0),.agg [i64 a1.A,i64 a1.B,i64 a1.C,i64 a1.D]] (lk []) (.sl true 4 r.length ((ePl).f r)) (lk [])):=by
 unfold Dimpl_with at h
 refine x_call (fn:=Tryz.f104) (c:=bodyOf Tryz.f104) (bs0:=[]) Tryz.func104 (by kernel_rfl) (by kernel_rfl) ?_
 obtain⟨c0,h⟩:=chk_some h
 obtain⟨c1,h⟩:=chk_some h
 replace h:=sj h;subst h
 exact x_end 15 [(4,.app false (List.length ([]++a0)) ((ePl).f ([]++a0))),(2,.app false (List.length (([]++a0)++[a1])) ((ePl).f (([]++a0)++[a1])))] [] (ocons (len_row' (L:=[]) ePl) (ocons (app_one (L:=[]) (M:=a0) ePl c0) (ocons (app_new (L:=[]) (M:=a0) ePl) (ocons (app_m (L:=[]) (M:=a0) ePl rfl) (ocons (len_row' (L:=a0) ePl) (ocons (len_row' (L:=([]++a0)) ePl) (ocons (app_one (L:=([]++a0)) (M:=[a1]) ePl c1) (ocons (app_new (L:=([]++a0)) (M:=[a1]) ePl) (ocons (app_m (L:=([]++a0)) (M:=[a1]) ePl rfl) (ocons (len_row' (L:=[a1]) ePl) (ocons (Enc.noOwn ePl (fun _=>rfl) [a1]) onil))))))))))) (ocons (len_row (L:=(([]++a0)++[a1])) ePl) onil) 
def Dimpl_checker_right_1(_n:Nat)(self:(Int×Sol×(List Pl))→Option (Bool×Int))(t2:List Pl)(t59 _za:Bool)(zu zv zw zam:Int)(zas:List Sol)(zab zac zad zat zp:Int):Option (Bool×Int) :=
 frk t59 (some (false,zp)) ((lget zas 0).bind fun v5=>(Dimpl_with t2 (Pl.mk zu zv zw zam)).bind fun v6=>(self (zp,v5,v6)).bind fun v7=>frk v7.1 ((lget zas 1).bind fun v8=>(Dimpl_with t2 (Pl.mk zab zac zad zat)).bind fun v9=>(self (v7.2,v8,v9)).bind fun v10=>some v10) (some (false,v7.2)))
theorem Timpl_checker_right_1{Y}(n:Nat)(self:(Int×Sol×(List Pl))→Option (Bool×Int))(hself:∀(a:(Int×Sol×(List Pl))) (r:(Bool×Int)),self a=some r→Big Tryz.prog H Y (.call 81 [.ptr 1000 0,eF a.2.1,.sl false 4 a.2.2.length ((ePl).f a.2.2)] (lk [(1000,⟨true,0,[i64 a.1]⟩)]) (bl r.1) (lk [(1000,⟨true,0,[i64 r.2]⟩)])))(t2:List Pl)(t59 za:Bool)(zu zv zw zam:Int)(zas:List Sol)(zab zac zad zat zp:Int)(r:(Bool×Int))(h:Dimpl_checker_right_1 n self t2 t59 za zu zv zw zam zas zab zac zad zat zp=some r):Wk Tryz.prog H Y 81 [.code (cp [1,1,1,1,1,0,1] (bodyOf Tryz.f81)),.code (cp [1,1,1,1,1,1] (bodyOf Tryz.f81))] (FinX Tryz.prog Tryz.f81 [(1000,⟨true,0,[.bad]⟩)] (bl r.1) [(1000,⟨true,0,[i64 r.2]⟩)]) ⟨[(0,.ptr 1000 0),(2,.sl false 4 t2.length ((ePl).f t2)),(4,.ptr 4 0),(7,.ptr 7 0),(59,bl t59)],[(4,⟨true,0,[bl za,i64 zu,i64 zv,i64 zw,i64 zam,.sl false 6 zas.length ((eSol false).f zas)]⟩),(7,⟨true,0,[i64 zab,i64 zac,i64 zad,i64 zat]⟩),(1000,⟨true,0,[i64 zp]⟩)]⟩:=by
 unfold Dimpl_checker_right_1 at h
 refine x_frk 0 [] onil h (by kernel_rfl) (fun h=>?_) (fun h=>?_)
 ·replace h:=sj h;subst h
  exact x_end 4 [] [] onil onil 
 ·obtain⟨v5,y5,h⟩:=bm h
  obtain⟨v6,y6,h⟩:=bm h
  obtain⟨v7,y7,h⟩:=bm h
  refine x_frk 14 [(3,.val (.cptr ((eSol false).c v5++(eSol false).f ((zas).drop (Int.toNat 0+1))))),(4,.call [] [] (.sl false 4 v6.length ((ePl).f v6)) []),(0,.call [] [] (bl v7.1) [(1000,⟨true,0,[i64 v7.2]⟩)])] (ocons (ix (eSol false) y5) (ocons (shSl (L:=v6) ePl ePl sPl (Timpl_with (Y:=Y) t2 (Pl.mk zu zv zw zam) _ y6)) (ocons (hself (zp,v5,v6) _ y7) onil))) h (by kernel_rfl) (fun h=>?_) (fun h=>?_)
  ·obtain⟨v8,y8,h⟩:=bm h
   obtain⟨v9,y9,h⟩:=bm h
   obtain⟨v10,y10,h⟩:=bm h
   replace h:=sj h;subst h
   exact x_end 12 [(3,.val (.cptr ((eSol false).c v8++(eSol false).f ((zas).drop (Int.toNat 1+1))))),(3,.call [] [] (.sl false 4 v9.length ((ePl).f v9)) []),(0,.call [] [] (bl v10.1) [(1000,⟨true,0,[i64 v10.2]⟩)])] [] (ocons (ix (eSol false) y8) (ocons (shSl (L:=v9) ePl ePl sPl (Timpl_with (Y:=Y) t2 (Pl.mk zab zac zad zat) _ y9)) (ocons (hself (v7.2,v8,v9) _ y10) onil))) onil 
  ·replace h:=sj h;subst h
   exact x_end 12 [] [] onil onil 
def Dimpl_checker_right_0(n:Nat)(self:(Int×Sol×(List Pl))→Option (Bool×Int))(t2:List Pl)(t45 za:Bool)(zu zv zw zam:Int)(zas:List Sol)(zp:Int):Option (Bool×Int) :=
 frk t45 (some (false,zp)) ((Dimpl_flip (Pl.mk zu zv zw zam)).bind fun v2=>(Dimpl_room n t2 (Pl.mk zu zv zw zam)).bind fun v3=>frk (!v3) (some (false,zp)) ((Dimpl_room n t2 v2).bind fun v4=>Dimpl_checker_right_1 n self t2 (!v4) za zu zv zw zam zas v2.A v2.B v2.C v2.D zp))
theorem Timpl_checker_right_0{Y}(n:Nat)(self:(Int×Sol×(List Pl))→Option (Bool×Int))(hself:∀(a:(Int×Sol×(List Pl))) (r:(Bool×Int)),self a=some r→Big Tryz.prog H Y (.call 81 [.ptr 1000 0,eF a.2.1,.sl false 4 a.2.2.length ((ePl).f a.2.2)] (lk [(1000,⟨true,0,[i64 a.1]⟩)]) (bl r.1) (lk [(1000,⟨true,0,[i64 r.2]⟩)])))(t2:List Pl)(t45 za:Bool)(zu zv zw zam:Int)(zas:List Sol)(zp:Int)(r:(Bool×Int))(h:Dimpl_checker_right_0 n self t2 t45 za zu zv zw zam zas zp=some r):Wk Tryz.prog H Y 81 [.code (cp [1,1,1,0,1] (bodyOf Tryz.f81)),.code (cp [1,1,1,1] (bodyOf Tryz.f81))] (FinX Tryz.prog Tryz.f81 [(1000,⟨true,0,[.bad]⟩)] (bl r.1) [(1000,⟨true,0,[i64 r.2]⟩)]) ⟨[(0,.ptr 1000 0),(2,.sl false 4 t2.length ((ePl).f t2)),(4,.ptr 4 0),(45,bl t45)],[(4,⟨true,0,[bl za,i64 zu,i64 zv,i64 zw,i64 zam,.sl false 6 zas.length ((eSol false).f zas)]⟩),(1000,⟨true,0,[i64 zp]⟩)]⟩:=by
 unfold Dimpl_checker_right_0 at h
 refine x_frk 0 [] onil h (by kernel_rfl) (fun h=>?_) (fun h=>?_)
 ·replace h:=sj h;subst h
  exact x_end 4 [] [] onil onil 
 ·obtain⟨v2,y2,h⟩:=bm h
  obtain⟨v3,y3,h⟩:=bm h
  refine x_frk 18 [(2,.call [] [] (.agg [i64 v2.A,i64 v2.B,i64 v2.C,i64 v2.D]) []),(5,.call [] [] (bl v3) [])] (ocons (Timpl_flip (Y:=Y) (Pl.mk zu zv zw zam) _ y2) (ocons (Timpl_room (Y:=Y) n t2 (Pl.mk zu zv zw zam) _ y3) onil)) h (by kernel_rfl) (fun h=>?_) (fun h=>?_)
  ·replace h:=sj h;subst h
   exact x_end 11 [] [] onil onil 
  ·obtain⟨v4,y4,h⟩:=bm h
   exact x_to 6 [(2,.call [] [] (bl v4) [])] (ocons (Timpl_room (Y:=Y) n t2 v2 _ y4) onil) (Timpl_checker_right_1 n self hself t2 (!v4) za zu zv zw zam zas v2.A v2.B v2.C v2.D zp r h) 
def Dimpl_checker_right_b(n:Nat)(self:(Int×Sol×(List Pl))→Option (Bool×Int))(a:(Int×Sol×(List Pl))):Option (Bool×Int) :=
 match a with
 | (a0,a1,a2)=>(Dimpl_Solid_isLeaf a1).bind fun v0=>frk v0 (some ((a1.pl.A==0&&(a1.pl.B==0&&(a1.pl.C==0&&(a1.pl.D==0&&true)))),a0)) (frk a1.inn (some (false,w64 (a0+1))) (frk ((a1.kids.length:Int) != 2) (some (false,w64 (a0+1))) (frk (decide ((w64 (a0+1))>300)) (some (false,w64 (a0+1))) (frk (decide ((a2.length:Int)≥24)) (some (false,w64 (a0+1))) ((Dimpl_PlaneOk n a1.pl).bind fun v1=>Dimpl_checker_right_0 n self a2 (!v1) a1.inn a1.pl.A a1.pl.B a1.pl.C a1.pl.D a1.kids (w64 (a0+1)))))))
def Dimpl_checker_right(n:Nat)(a0:Int)(a1:Sol)(a2:(List Pl)):Option (Bool×Int):=loopN (Dimpl_checker_right_b n) n (a0,a1,a2)
theorem Timpl_checker_right_b{Y}(n:Nat):∀(m:Nat) (a:(Int×Sol×(List Pl))) (r:(Bool×Int)),loopN (Dimpl_checker_right_b n) m a=some r→∀(_:Unit),Big Tryz.prog H Y (.call 81 [.ptr 1000 0,eF a.2.1,.sl false 4 a.2.2.length ((ePl).f a.2.2)] (lk [(1000,⟨true,0,[i64 a.1]⟩)]) (bl r.1) (lk [(1000,⟨true,0,[i64 r.2]⟩)])):=by
 refine loopN_ind (fun self hs a r h=>?_)
 have hself:∀(a:(Int×Sol×(List Pl))) (r:(Bool×Int)),self a=some r→Big Tryz.prog H Y (.call 81 [.ptr 1000 0,eF a.2.1,.sl false 4 a.2.2.length ((ePl).f a.2.2)] (lk [(1000,⟨true,0,[i64 a.1]⟩)]) (bl r.1) (lk [(1000,⟨true,0,[i64 r.2]⟩)])):=fun a r h=>hs a r h ()
 intro _
 obtain⟨a0,a1,a2⟩:=a
 unfold Dimpl_checker_right_b at h
 refine x_call (fn:=Tryz.f81) (c:=bodyOf Tryz.f81) (bs0:=[(1000,⟨true,0,[.bad]⟩)]) Tryz.func81 (by kernel_rfl) (by kernel_rfl) ?_
 obtain⟨v0,y0,h⟩:=bm h
 refine x_frk 10 [(2,.call [] [] (bl v0) [])] (ocons (Timpl_Solid_isLeaf (Y:=Y) a1 [] _ y0) onil) h (by kernel_rfl) (fun h=>?_) (fun h=>?_)
 ·replace h:=sj h;subst h
  exact x_end 8 [] [] onil onil 
 ·refine x_frk 18 [] onil h (by kernel_rfl) (fun h=>?_) (fun h=>?_)
  ·replace h:=sj h;subst h
   exact x_end 29 [] [] onil onil 
  ·refine x_frk 6 [] onil h (by kernel_rfl) (fun h=>?_) (fun h=>?_)
   ·replace h:=sj h;subst h
    exact x_end 23 [] [] onil onil 
   ·refine x_frk 7 [] onil h (by kernel_rfl) (fun h=>?_) (fun h=>?_)
    ·replace h:=sj h;subst h
     exact x_end 16 [] [] onil onil 
    ·refine x_frk 5 [] onil h (by kernel_rfl) (fun h=>?_) (fun h=>?_)
     ·replace h:=sj h;subst h
      exact x_end 11 [] [] onil onil 
     ·obtain⟨v1,y1,h⟩:=bm h
      exact x_to 6 [(2,.call [] [] (bl v1) [])] (ocons (Timpl_PlaneOk (Y:=Y) n a1.pl _ y1) onil) (Timpl_checker_right_0 n self hself a2 (!v1) a1.inn a1.pl.A a1.pl.B a1.pl.C a1.pl.D a1.kids (w64 (a0+1)) r h) 
theorem Timpl_checker_right{Y}(n:Nat)(a0:Int)(a1:Sol)(a2:(List Pl))(r:(Bool×Int))(h:Dimpl_checker_right n a0 a1 a2=some r):Big Tryz.prog H Y (.call 81 [.ptr 1000 0,eF a1,.sl false 4 a2.length ((ePl).f a2)] (lk [(1000,⟨true,0,[i64 a0]⟩)]) (bl r.1) (lk [(1000,⟨true,0,[i64 r.2]⟩)])):=Timpl_checker_right_b n n (a0,a1,a2) r h ()
def Dimpl_SolidOk(n:Nat)(a0:Sol):Option Bool :=
 (Dimpl_checker_right n 0 a0 []).bind fun v0=>some v0.1
theorem Timpl_SolidOk{Y}(n:Nat)(a0:Sol)(r:Bool)(h:Dimpl_SolidOk n a0=some r):Big Tryz.prog H Y (.call 36 [eF a0] (lk []) (bl r) (lk [])):=by
 unfold Dimpl_SolidOk at h
 refine x_call (fn:=Tryz.f36) (c:=bodyOf Tryz.f36) (bs0:=[]) Tryz.func36 (by kernel_rfl) (by kernel_rfl) ?_
 obtain⟨v0,y0,h⟩:=bm h
 replace h:=sj h;subst h
 exact x_end 15 [(4,.call [(false,4)] [] (bl v0.1) [(1000,⟨true,0,[i64 v0.2]⟩)])] [] (ocons (Timpl_checker_right (Y:=Y) n 0 a0 [] _ y0) onil) onil 
def Dslices_Clone(a0:(List Pl)):Option (List Pl) :=
 chk (apB 32 (0+a0.length)) (some ([]++a0))
theorem Tslices_Clone{Y}(a0:(List Pl))(r:(List Pl))(h:Dslices_Clone a0=some r):Big Tryz.prog H Y (.call 103 [.sl false 4 a0.length ((ePl).f a0)] (lk []) (.sl true 4 r.length ((ePl).f r)) (lk [])):=by
 unfold Dslices_Clone at h
 refine x_clone (fn:=Tryz.f103) (c:=bodyOf Tryz.f103) 0 3 4 (lq:=⟨[(2,.nil),(0,.sl false 4 a0.length ((ePl).f a0))],[]⟩) (z:=4) (ct:=a0.length) (cs:=(ePl).f a0) Tryz.func103 (by kernel_rfl) (by kernel_rfl) (x_at 3 (by kernel_rfl)) (fun b hb=>?_)
 cases b
 ·obtain⟨c0,h⟩:=chk_some h
  replace h:=sj h;subst h
  exact x_end 9 [(2,.app false (List.length ([]++a0)) ((ePl).f ([]++a0)))] [] (ocons (len_row' (L:=[]) ePl) (ocons (app_one (L:=[]) (M:=a0) ePl c0) (ocons (app_new (L:=[]) (M:=a0) ePl) (ocons (app_m (L:=[]) (M:=a0) ePl rfl) (ocons (len_row' (L:=a0) ePl) onil))))) (ocons (len_row (L:=([]++a0)) ePl) onil) 
 ·have h0:a0=[]:=List.eq_nil_of_length_eq_zero (hb rfl)
  subst h0
  replace h:some []=some r:=h
  replace h:=sj h;subst h
  exact x_end 5 [] [(true,4)] onil onil 
def Dimpl_Solid_cells_b(_n:Nat)(self:(Sol×Bool×(List Pl))→Option (List (List Pl)))(a:(Sol×Bool×(List Pl))):Option (List (List Pl)) :=
 match a with
 | (a0,a1,a2)=>(Dimpl_Solid_isLeaf a0).bind fun v0=>frk v0 (frk (a0.inn==a1) ((Dslices_Clone a2).bind fun v1=>some [v1]) (some [])) ((lget a0.kids 0).bind fun v2=>(Dimpl_with a2 a0.pl).bind fun v3=>(self (v2,a1,v3)).bind fun v4=>(lget a0.kids 1).bind fun v5=>(Dimpl_flip a0.pl).bind fun v6=>(Dimpl_with a2 v6).bind fun v7=>(self (v5,a1,v7)).bind fun v8=>chk (apB 24 (v4.length+v8.length)) (some (v4++v8)))
def Dimpl_Solid_cells(n:Nat)(a0:Sol)(a1:Bool)(a2:(List Pl)):Option (List (List Pl)):=loopN (Dimpl_Solid_cells_b n) n (a0,a1,a2)
theorem Timpl_Solid_cells_b{Y}(n:Nat):∀(m:Nat) (a:(Sol×Bool×(List Pl))) (r:(List (List Pl))),loopN (Dimpl_Solid_cells_b n) m a=some r→∀(q0:List AV),Big Tryz.prog H Y (.call 51 [.cptr ([bl a.1.inn,i64 a.1.pl.A,i64 a.1.pl.B,i64 a.1.pl.C,i64 a.1.pl.D,.sl false 6 a.1.kids.length ((eSol false).f a.1.kids)]++q0),bl a.2.1,.sl false 4 a.2.2.length ((ePl).f a.2.2)] (lk []) (.sl true 1 r.length ((ePls true).f r)) (lk [])):=by
 refine loopN_ind (fun self hs a r h=>?_)
 have hself:∀(a:(Sol×Bool×(List Pl))) (q0:List AV) (r:(List (List Pl))),self a=some r→Big Tryz.prog H Y (.call 51 [.cptr ([bl a.1.inn,i64 a.1.pl.A,i64 a.1.pl.B,i64 a.1.pl.C,i64 a.1.pl.D,.sl false 6 a.1.kids.length ((eSol false).f a.1.kids)]++q0),bl a.2.1,.sl false 4 a.2.2.length ((ePl).f a.2.2)] (lk []) (.sl true 1 r.length ((ePls true).f r)) (lk [])):=fun a q0 r h=>hs a r h q0
 intro q0
 obtain⟨a0,a1,a2⟩:=a
 unfold Dimpl_Solid_cells_b at h
 refine x_call (fn:=Tryz.f51) (c:=bodyOf Tryz.f51) (bs0:=[]) Tryz.func51 (by kernel_rfl) (by kernel_rfl) ?_
 obtain⟨v0,y0,h⟩:=bm h
 refine x_frk 10 [(2,.call [] [] (bl v0) [])] (ocons (Timpl_Solid_isLeaf (Y:=Y) a0 q0 _ y0) onil) h (by kernel_rfl) (fun h=>?_) (fun h=>?_)
 ·refine x_frk 10 [] onil h (by kernel_rfl) (fun h=>?_) (fun h=>?_)
  ·obtain⟨v1,y1,h⟩:=bm h
   replace h:=sj h;subst h
   exact x_end 7 [(1,.call [] [] (.sl true 4 v1.length ((ePl).f v1)) [])] [] (ocons (Tslices_Clone (Y:=Y) a2 _ y1) (ocons (len_row (L:=v1) ePl) onil)) (ocons (len_row (L:=[v1]) (ePls true)) onil) 
  ·replace h:=sj h;subst h
   exact x_end 5 [] [(true,1)] onil onil 
 ·obtain⟨v2,y2,h⟩:=bm h
  obtain⟨v3,y3,h⟩:=bm h
  obtain⟨v4,y4,h⟩:=bm h
  obtain⟨v5,y5,h⟩:=bm h
  obtain⟨v6,y6,h⟩:=bm h
  obtain⟨v7,y7,h⟩:=bm h
  obtain⟨v8,y8,h⟩:=bm h
  obtain⟨c9,h⟩:=chk_some h
  replace h:=sj h;subst h
  exact x_end 38 [(4,.val (.cptr ((eSol false).c v2++(eSol false).f ((a0.kids).drop (Int.toNat 0+1))))),(6,.call [] [] (.sl false 4 v3.length ((ePl).f v3)) []),(0,.call [] [] (.sl true 1 v4.length ((ePls true).f v4)) []),(6,.val (.cptr ((eSol false).c v5++(eSol false).f ((a0.kids).drop (Int.toNat 1+1))))),(6,.call [] [] (.agg [i64 v6.A,i64 v6.B,i64 v6.C,i64 v6.D]) []),(0,.call [] [] (.sl false 4 v7.length ((ePl).f v7)) []),(0,.call [] [] (.sl true 1 v8.length ((ePls true).f v8)) []),(0,.app true (List.length (v4++v8)) ((ePls true).f (v4++v8)))] [] (ocons (ix (eSol false) y2) (ocons (shSl (L:=v3) ePl ePl sPl (Timpl_with (Y:=Y) a2 a0.pl _ y3)) (ocons (hself (v2,a1,v3) ((eSol false).f ((a0.kids).drop (Int.toNat 0+1))) _ y4) (ocons (ix (eSol false) y5) (ocons (Timpl_flip (Y:=Y) a0.pl _ y6) (ocons (shSl (L:=v7) ePl ePl sPl (Timpl_with (Y:=Y) a2 v6 _ y7)) (ocons (hself (v5,a1,v7) ((eSol false).f ((a0.kids).drop (Int.toNat 1+1))) _ y8) (ocons (len_row' (L:=v4) (ePls true)) (ocons (app_one (L:=v4) (M:=v8) (ePls true) c9) (ocons (app_new (L:=v4) (M:=v8) (ePls true)) (ocons (app_m (L:=v4) (M:=v8) (ePls true) rfl) (ocons (len_row' (L:=v8) (ePls true)) onil)))))))))))) (ocons (len_row (L:=(v4++v8)) (ePls true)) onil) 
theorem Timpl_Solid_cells{Y}(n:Nat)(a0:Sol)(a1:Bool)(a2:(List Pl))(q0:List AV)(r:(List (List Pl)))(h:Dimpl_Solid_cells n a0 a1 a2=some r):Big Tryz.prog H Y (.call 51 [.cptr ([bl a0.inn,i64 a0.pl.A,i64 a0.pl.B,i64 a0.pl.C,i64 a0.pl.D,.sl false 6 a0.kids.length ((eSol false).f a0.kids)]++q0),bl a1,.sl false 4 a2.length ((ePl).f a2)] (lk []) (.sl true 1 r.length ((ePls true).f r)) (lk [])):=Timpl_Solid_cells_b n n (a0,a1,a2) r h q0
def Dslices_Index_0(_n:Nat)(t0:List Pl)(t7 ze zf zs zt:Int)(rec0:Int→Option Int)(a:Int):Option Int :=
 match a with
 | t8=>frk (decide (t8<t7)) ((lget t0 t8).bind fun v0=>frk (ze==v0.A&&(zf==v0.B&&(zs==v0.C&&(zt==v0.D&&true)))) (some t8) (rec0 (w64 (t8+1)))) (some (-1))
theorem Tslices_Index_0{Y}(n:Nat)(t0:List Pl)(t7 ze zf zs zt:Int):∀(m:Nat) (a r:Int),loopN (Dslices_Index_0 n t0 t7 ze zf zs zt) m a=some r→Wk Tryz.prog H Y 141 [.code (cp [1,0,1,0] (bodyOf Tryz.f141)),.blk 0,.code (cp [1,1] (bodyOf Tryz.f141))] (FinX Tryz.prog Tryz.f141 [] (i64 r) []) ⟨[(0,.sl false 4 t0.length ((ePl).f t0)),(3,.ptr 3 0),(7,i64 t7),(8,i64 a)],[(3,⟨true,0,[i64 ze,i64 zf,i64 zs,i64 zt]⟩)]⟩:=by
 refine loopN_ind (fun _rec0 hrec0 a r h=>?_)
 obtain⟨t8,rfl⟩:∃x,x=a:=⟨a,rfl⟩
 unfold Dslices_Index_0 at h
 refine x_frk 6 [] onil h (by kernel_rfl) (fun h=>?_) (fun h=>?_)
 ·obtain⟨v0,y0,h⟩:=bm h
  refine x_frk 17 [(5,.val (.cptr (ePl.c v0++(ePl).f ((t0).drop (Int.toNat t8+1)))))] (ocons (ix ePl y0) onil) h (by kernel_rfl) (fun h=>?_) (fun h=>?_)
  ·replace h:=sj h;subst h
   exact x_end 5 [] [] onil onil 
  ·exact x_to 7 [] onil (hrec0 (w64 (t8+1)) r h) 
 ·replace h:=sj h;subst h
  exact x_end 5 [] [] onil onil 
def Dslices_Index(n:Nat)(a0:(List Pl))(a1:Pl):Option Int :=
 loopN (Dslices_Index_0 n a0 (a0.length:Int) a1.A a1.B a1.C a1.D) n 0
theorem Tslices_Index{Y}(n:Nat)(a0:(List Pl))(a1:Pl)(r:Int)(h:Dslices_Index n a0 a1=some r):Big Tryz.prog H Y (.call 141 [.sl false 4 a0.length ((ePl).f a0),.agg [i64 a1.A,i64 a1.B,i64 a1.C,i64 a1.D]] (lk []) (i64 r) (lk [])):=by
 unfold Dslices_Index at h
 refine x_call (fn:=Tryz.f141) (c:=bodyOf Tryz.f141) (bs0:=[]) Tryz.func141 (by kernel_rfl) (by kernel_rfl) ?_
 exact x_to 13 [] onil (Tslices_Index_0 n a0 (a0.length:Int) a1.A a1.B a1.C a1.D n 0 r h) 
def Dslices_Contains(n:Nat)(a0:(List Pl))(a1:Pl):Option Bool :=
 (Dslices_Index n a0 a1).bind fun v0=>some (decide (v0≥0))
theorem Tslices_Contains{Y}(n:Nat)(a0:(List Pl))(a1:Pl)(r:Bool)(h:Dslices_Contains n a0 a1=some r):Big Tryz.prog H Y (.call 106 [.sl false 4 a0.length ((ePl).f a0),.agg [i64 a1.A,i64 a1.B,i64 a1.C,i64 a1.D]] (lk []) (bl r) (lk [])):=by
 unfold Dslices_Contains at h
 refine x_call (fn:=Tryz.f106) (c:=bodyOf Tryz.f106) (bs0:=[]) Tryz.func106 (by kernel_rfl) (by kernel_rfl) ?_
 obtain⟨v0,y0,h⟩:=bm h
 replace h:=sj h;subst h
 exact x_end 13 [(4,.call [] [] (i64 v0) [])] [] (ocons (Tslices_Index (Y:=Y) n a0 a1 _ y0) onil) onil 
def Dcmp_Or_0(_n:Nat)(t3:Int)(t6:List Int)(t7:Int)(rec0:Int→Option Int)(a:Int):Option Int :=
 match a with
 | t8=>frk (decide (t8<t7)) ((lget t6 t8).bind fun v0=>frk (v0 != t3) (some v0) (rec0 (w64 (t8+1)))) (some t3)
theorem Tcmp_Or_0{Y}(n:Nat)(t3:Int)(t6:List Int)(t7:Int):∀(m:Nat) (a r:Int),loopN (Dcmp_Or_0 n t3 t6 t7) m a=some r→Wk Tryz.prog H Y 167 [.code (cp [1,1,0,1,0] (bodyOf Tryz.f167)),.blk 0,.code (cp [1,1,1] (bodyOf Tryz.f167))] (FinX Tryz.prog Tryz.f167 [] (i64 r) []) ⟨[(3,i64 t3),(6,.sl false 1 t6.length ((eInt).f t6)),(7,i64 t7),(8,i64 a)],[]⟩:=by
 refine loopN_ind (fun _rec0 hrec0 a r h=>?_)
 obtain⟨t8,rfl⟩:∃x,x=a:=⟨a,rfl⟩
 unfold Dcmp_Or_0 at h
 refine x_frk 6 [] onil h (by kernel_rfl) (fun h=>?_) (fun h=>?_)
 ·obtain⟨v0,y0,h⟩:=bm h
  refine x_frk 15 [(0,.val (.cptr (eInt.c v0++(eInt).f ((t6).drop (Int.toNat t8+1)))))] (ocons (ix eInt y0) onil) h (by kernel_rfl) (fun h=>?_) (fun h=>?_)
  ·replace h:=sj h;subst h
   exact x_end 5 [] [] onil onil 
  ·exact x_to 7 [] onil (hrec0 (w64 (t8+1)) r h) 
 ·replace h:=sj h;subst h
  exact x_end 6 [] [] onil onil 
def Dcmp_Or(n:Nat)(a0:(List Int)):Option Int :=
 loopN (Dcmp_Or_0 n 0 a0 (a0.length:Int)) n 0
theorem Tcmp_Or{Y}(n:Nat)(a0:(List Int))(r:Int)(h:Dcmp_Or n a0=some r):Big Tryz.prog H Y (.call 167 [.sl false 1 a0.length ((eInt).f a0)] (lk []) (i64 r) (lk [])):=by
 unfold Dcmp_Or at h
 refine x_call (fn:=Tryz.f167) (c:=bodyOf Tryz.f167) (bs0:=[]) Tryz.func167 (by kernel_rfl) (by kernel_rfl) ?_
 exact x_to 16 [] onil (Tcmp_Or_0 n 0 a0 (a0.length:Int) n 0 r h) 
def Dimpl_CmpPlane(n:Nat)(a0:Pl)(a1:Pl):Option Int :=
 (Dcmp_Compare a0.A a1.A).bind fun v0=>(Dcmp_Compare a0.B a1.B).bind fun v1=>(Dcmp_Compare a0.C a1.C).bind fun v2=>(Dcmp_Compare a0.D a1.D).bind fun v3=>(Dcmp_Or n [v0,v1,v2,v3]).bind fun v4=>some v4
theorem Timpl_CmpPlane{Y}(n:Nat)(a0:Pl)(a1:Pl)(r:Int)(h:Dimpl_CmpPlane n a0 a1=some r):Big Tryz.prog H Y (.call 143 [.agg [i64 a0.A,i64 a0.B,i64 a0.C,i64 a0.D],.agg [i64 a1.A,i64 a1.B,i64 a1.C,i64 a1.D]] (lk []) (i64 r) (lk [])):=by
 unfold Dimpl_CmpPlane at h
 refine x_call (fn:=Tryz.f143) (c:=bodyOf Tryz.f143) (bs0:=[]) Tryz.func143 (by kernel_rfl) (by kernel_rfl) ?_
 obtain⟨v0,y0,h⟩:=bm h
 obtain⟨v1,y1,h⟩:=bm h
 obtain⟨v2,y2,h⟩:=bm h
 obtain⟨v3,y3,h⟩:=bm h
 obtain⟨v4,y4,h⟩:=bm h
 replace h:=sj h;subst h
 exact x_end 32 [(7,.call [] [] (i64 v0) []),(4,.call [] [] (i64 v1) []),(4,.call [] [] (i64 v2) []),(4,.call [] [] (i64 v3) []),(1,.call [] [(eInt).f [v0,v1,v2,v3]] (i64 v4) [])] [] (ocons (Tcmp_Compare (Y:=Y) a0.A a1.A _ y0) (ocons (Tcmp_Compare (Y:=Y) a0.B a1.B _ y1) (ocons (Tcmp_Compare (Y:=Y) a0.C a1.C _ y2) (ocons (Tcmp_Compare (Y:=Y) a0.D a1.D _ y3) (ocons (Tcmp_Or (Y:=Y) n [v0,v1,v2,v3] _ y4) (ocons (len_row (L:=[v0,v1,v2,v3]) eInt) (ocons (Enc.share eInt eInt sInt [v0,v1,v2,v3]) onil))))))) onil 
def Dimpl_greater(n:Nat)(a0:Pl):Option Pl :=
 (Dimpl_flip a0).bind fun v0=>(Dimpl_CmpPlane n v0 a0).bind fun v1=>frk (decide (v1>0)) (some v0) (some a0)
theorem Timpl_greater{Y}(n:Nat)(a0:Pl)(r:Pl)(h:Dimpl_greater n a0=some r):Big Tryz.prog H Y (.call 108 [.agg [i64 a0.A,i64 a0.B,i64 a0.C,i64 a0.D]] (lk []) (.agg [i64 r.A,i64 r.B,i64 r.C,i64 r.D]) (lk [])):=by
 unfold Dimpl_greater at h
 refine x_call (fn:=Tryz.f108) (c:=bodyOf Tryz.f108) (bs0:=[]) Tryz.func108 (by kernel_rfl) (by kernel_rfl) ?_
 obtain⟨v0,y0,h⟩:=bm h
 obtain⟨v1,y1,h⟩:=bm h
 refine x_frk 20 [(3,.call [] [] (.agg [i64 v0.A,i64 v0.B,i64 v0.C,i64 v0.D]) []),(4,.call [] [] (i64 v1) [])] (ocons (Timpl_flip (Y:=Y) a0 _ y0) (ocons (Timpl_CmpPlane (Y:=Y) n v0 a0 _ y1) onil)) h (by kernel_rfl) (fun h=>?_) (fun h=>?_)
 ·replace h:=sj h;subst h
  exact x_end 5 [] [] onil onil 
 ·replace h:=sj h;subst h
  exact x_end 6 [] [] onil onil 
theorem growPl_t{n:Int}(h:grB n=true):GrownOk Tryz.prog 166 4 n:=by
 simp only[grB,Bool.and_eq_true,decide_eq_true_eq] at h
 obtain⟨m,rfl⟩:=Int.eq_ofNat_of_zero_le h.1
 have hb:((Tryz.prog.info? 25).get (by kernel_rfl)).bytes=32:=by kernel_rfl
 have hs:((Tryz.prog.info? 25).get (by kernel_rfl)).size=4:=by kernel_rfl
 have:=grow_turn Tryz.growPlane ((Tryz.prog.info? 25).get (by kernel_rfl)) (.agg #[.int .i64 0,.int .i64 0,.int .i64 0,.int .i64 0]) (Option.some_get _).symm (by kernel_rfl) (by rw[hs];decide) (by rw[hs];rfl) m (by rw[hb];omega) (by omega)
 rw[hs] at this
 exact this
def Dslices_Concat_1(_n:Nat)(t25:List (List Pl))(t26:Int)(rec1:(Int×List Pl)→Option (List Pl))(a:(Int×List Pl)):Option (List Pl) :=
 match a with
 | (t27,l706)=>frk (decide (t27<t26)) ((lget t25 t27).bind fun v2=>chk (apB 32 (l706.length+v2.length)) (rec1 (w64 (t27+1),(l706++v2)))) (some l706)
theorem Tslices_Concat_1{Y}(n:Nat)(t25:List (List Pl))(t26:Int):∀(m:Nat) (a:(Int×List Pl)) (r:(List Pl)),loopN (Dslices_Concat_1 n t25 t26) m a=some r→Wk Tryz.prog H Y 142 [.code (cp [1,1,1,1,0,1,0] (bodyOf Tryz.f142)),.blk 2,.code (cp [1,1,1,1,1] (bodyOf Tryz.f142))] (FinX Tryz.prog Tryz.f142 [] (.sl true 4 r.length ((ePl).f r)) []) ⟨[(6,.msl 706 a.2.length),(25,.sl false 1 t25.length ((ePls false).f t25)),(26,i64 t26),(27,i64 a.1)],[(706,⟨false,4,(ePl).f a.2⟩)]⟩:=by
 refine loopN_ind (fun _rec1 hrec1 a r h=>?_)
 obtain⟨t27,l706⟩:=a
 unfold Dslices_Concat_1 at h
 refine x_frk 6 [] onil h (by kernel_rfl) (fun h=>?_) (fun h=>?_)
 ·obtain⟨v2,y2,h⟩:=bm h
  obtain⟨c3,h⟩:=chk_some h
  exact x_to 22 [(0,.val (.cptr ((ePls false).c v2++(ePls false).f ((t25).drop (Int.toNat t27+1))))),(4,.app false (List.length (l706++v2)) ((ePl).f (l706++v2))),(3,.ren 33 706)] (ocons (ix (ePls false) y2) (ocons (len_row' (L:=l706) ePl) (ocons (app_one (L:=l706) (M:=v2) ePl c3) (ocons (app_new (L:=l706) (M:=v2) ePl) (ocons (app_m (L:=l706) (M:=v2) ePl rfl) (ocons (len_row' (L:=v2) ePl) (ocons (show 33<1000∧706<1000 by decide) onil))))))) (hrec1 (w64 (t27+1),(l706++v2)) r h) 
 ·replace h:=sj h;subst h
  exact x_end 6 [] [] onil (ocons (len_row (L:=l706) ePl) onil) 
def Dslices_Concat_0(n:Nat)(t0:List (List Pl))(t3:Int):Option (List Pl) :=
 chk (grB t3) (loopN (Dslices_Concat_1 n t0 (t0.length:Int)) n (0,([]:List Pl)))
theorem Tslices_Concat_0{Y}(n:Nat)(t0:List (List Pl))(t3:Int)(r:(List Pl))(h:Dslices_Concat_0 n t0 t3=some r):Wk Tryz.prog H Y 142 [.code (cp [1,1,1,0] (bodyOf Tryz.f142)),.code (cp [1,1,1,1] (bodyOf Tryz.f142))] (FinX Tryz.prog Tryz.f142 [] (.sl true 4 r.length ((ePl).f r)) []) ⟨[(0,.sl false 1 t0.length ((ePls false).f t0)),(3,i64 t3)],[]⟩:=by
 unfold Dslices_Concat_0 at h
 obtain⟨c1,h⟩:=chk_some h
 refine x_grow (f:=166) (ta:=3) (d0:=23) (d1:=24) (da:=6) (z:=4) (n:=t3) (fun _ _ _ h=>h) (by kernel_rfl) (by kernel_rfl) (growPl_t c1) ?_
 exact x_to 9 [(0,.adopt 6 706 ([]:List Pl).length 4 ((ePl).f ([]:List Pl)))] (ocons (rflV (.sl true 4 ([]:List Pl).length ((ePl).f ([]:List Pl)))) (ocons (show 706<1000∧4≠0 by decide) onil)) (Tslices_Concat_1 n t0 (t0.length:Int) n (0,([]:List Pl)) r h) 
def Dslices_Concat_2(n:Nat)(t0:List (List Pl))(t9:List (List Pl))(t10:Int)(rec0:(Int×Int)→Option (List Pl))(a:(Int×Int)):Option (List Pl) :=
 match a with
 | (t3,t11)=>frk (decide (t11<t10)) ((lget t9 t11).bind fun v0=>frk (decide ((w64 (t3+(v0.length:Int)))<0)) (none) (rec0 (w64 (t3+(v0.length:Int)),w64 (t11+1)))) (Dslices_Concat_0 n t0 t3)
theorem Tslices_Concat_2{Y}(n:Nat)(t0:List (List Pl))(t9:List (List Pl))(t10:Int):∀(m:Nat) (a:(Int×Int)) (r:(List Pl)),loopN (Dslices_Concat_2 n t0 t9 t10) m a=some r→Wk Tryz.prog H Y 142 [.code (cp [1,1,0,1,0] (bodyOf Tryz.f142)),.blk 0,.code (cp [1,1,1] (bodyOf Tryz.f142))] (FinX Tryz.prog Tryz.f142 [] (.sl true 4 r.length ((ePl).f r)) []) ⟨[(0,.sl false 1 t0.length ((ePls false).f t0)),(3,i64 a.1),(9,.sl false 1 t9.length ((ePls false).f t9)),(10,i64 t10),(11,i64 a.2)],[]⟩:=by
 refine loopN_ind (fun _rec0 hrec0 a r h=>?_)
 obtain⟨t3,t11⟩:=a
 unfold Dslices_Concat_2 at h
 refine x_frk 6 [] onil h (by kernel_rfl) (fun h=>?_) (fun h=>?_)
 ·obtain⟨v0,y0,h⟩:=bm h
  refine x_frk 22 [(0,.val (.cptr ((ePls false).c v0++(ePls false).f ((t9).drop (Int.toNat t11+1)))))] (ocons (ix (ePls false) y0) onil) h (by kernel_rfl) (fun h=>?_) (fun h=>?_)
  ·exact absurd h (by simp)
  ·exact x_to 7 [] onil (hrec0 (w64 (t3+(v0.length:Int)),w64 (t11+1)) r h) 
 ·exact x_to 2 [] onil (Tslices_Concat_0 n t0 t3 r h) 
def Dslices_Concat(n:Nat)(a0:(List (List Pl))):Option (List Pl) :=
 loopN (Dslices_Concat_2 n a0 a0 (a0.length:Int)) n (0,0)
theorem Tslices_Concat{Y}(n:Nat)(a0:(List (List Pl)))(r:(List Pl))(h:Dslices_Concat n a0=some r):Big Tryz.prog H Y (.call 142 [.sl false 1 a0.length ((ePls false).f a0)] (lk []) (.sl true 4 r.length ((ePl).f r)) (lk [])):=by
 unfold Dslices_Concat at h
 refine x_call (fn:=Tryz.f142) (c:=bodyOf Tryz.f142) (bs0:=[]) Tryz.func142 (by kernel_rfl) (by kernel_rfl) ?_
 exact x_to 16 [] onil (Tslices_Concat_2 n a0 a0 (a0.length:Int) n (0,0) r h) 
def Dimpl_across_0(n:Nat)(rec0:(Int×List Pl×List Pl)→Option Bool)(_t14 _zx _zy _zz _zaa t15:Int)(t27:Bool)(zae zaf zag zau:Int)(l13:List Pl)(l507:List Pl):Option Bool :=
 frk t27 (rec0 (w64 (t15+1),l13,l507)) ((Dimpl_room n l507 (Pl.mk zae zaf zag zau)).bind fun v4=>frk (!v4) (some false) (chk (apB 32 (l507.length+1)) (rec0 (w64 (t15+1),l13,(l507++[(Pl.mk zae zaf zag zau)])))))
theorem Timpl_across_0{Y}(n:Nat)(rec0:(Int×List Pl×List Pl)→Option Bool)(t14 zx zy zz zaa:Int)(hrec0:∀(a:(Int×List Pl×List Pl)) (r:Bool),rec0 a=some r→Wk Tryz.prog H Y 107 [.code (cp [1,1,0,1,0] (bodyOf Tryz.f107)),.blk 0,.code (cp [1,1,1] (bodyOf Tryz.f107))] (FinX Tryz.prog Tryz.f107 [] (bl r) []) ⟨[(5,.ptr 5 0),(7,.msl 507 a.2.2.length),(13,.msl 13 a.2.1.length),(14,i64 t14),(15,i64 a.1)],[(5,⟨true,0,[i64 zx,i64 zy,i64 zz,i64 zaa]⟩),(13,⟨false,4,(ePl).f a.2.1⟩),(507,⟨true,4,(ePl).f a.2.2⟩)]⟩)(t15:Int)(t27:Bool)(zae zaf zag zau:Int)(l13:List Pl)(l507:List Pl)(r:Bool)(h:Dimpl_across_0 n rec0 t14 zx zy zz zaa t15 t27 zae zaf zag zau l13 l507=some r):Wk Tryz.prog H Y 107 [.code (cp [1,1,0,1,0,0,1,1,0,0,1,0,1] (bodyOf Tryz.f107)),.code (cp [1,1,0,1,0,0,1,1,0,0,1,1] (bodyOf Tryz.f107)),.blk 1,.code (cp [1,1,0,1,0,0,1,1,1] (bodyOf Tryz.f107)),.lp (cp [1,1,0,1,0] (bodyOf Tryz.f107)),.blk 0,.code (cp [1,1,1] (bodyOf Tryz.f107))] (FinX Tryz.prog Tryz.f107 [] (bl r) []) ⟨[(5,.ptr 5 0),(7,.msl 507 l507.length),(9,.ptr 9 0),(13,.msl 13 l13.length),(14,i64 t14),(15,i64 t15),(27,bl t27)],[(5,⟨true,0,[i64 zx,i64 zy,i64 zz,i64 zaa]⟩),(9,⟨true,0,[i64 zae,i64 zaf,i64 zag,i64 zau]⟩),(13,⟨false,4,(ePl).f l13⟩),(507,⟨true,4,(ePl).f l507⟩)]⟩:=by
 unfold Dimpl_across_0 at h
 refine x_frk 0 [] onil h (by kernel_rfl) (fun h=>?_) (fun h=>?_)
 ·exact x_to 6 [] onil (hrec0 (w64 (t15+1),l13,l507) r h) 
 ·obtain⟨v4,y4,h⟩:=bm h
  refine x_frk 9 [(2,.call [] [(ePl).f l507] (bl v4) [])] (ocons (Timpl_room (Y:=Y) n l507 (Pl.mk zae zaf zag zau) _ y4) (ocons (len_row (L:=l507) ePl) (ocons (Enc.share ePl ePl sPl l507) onil))) h (by kernel_rfl) (fun h=>?_) (fun h=>?_)
  ·replace h:=sj h;subst h
   exact x_end 4 [] [] onil onil 
  ·obtain⟨c5,h⟩:=chk_some h
   exact x_to 15 [(3,.app false (List.length (l507++[(Pl.mk zae zaf zag zau)])) ((ePl).f (l507++[(Pl.mk zae zaf zag zau)]))),(3,.ren 35 507)] (ocons (len_row' (L:=l507) ePl) (ocons (app_one (L:=l507) (M:=[(Pl.mk zae zaf zag zau)]) ePl c5) (ocons (app_new (L:=l507) (M:=[(Pl.mk zae zaf zag zau)]) ePl) (ocons (app_m (L:=l507) (M:=[(Pl.mk zae zaf zag zau)]) ePl rfl) (ocons (len_row' (L:=[(Pl.mk zae zaf zag zau)]) ePl) (ocons (Enc.noOwn ePl (fun _=>rfl) [(Pl.mk zae zaf zag zau)]) (ocons (show 35<1000∧507<1000 by decide) onil))))))) (hrec0 (w64 (t15+1),l13,(l507++[(Pl.mk zae zaf zag zau)])) r h) 
def Dimpl_across_1(n:Nat)(zx zy zz zaa:Int)(l507:List Pl):Option Bool :=
 (Dimpl_room n l507 (Pl.mk zx zy zz zaa)).bind fun v6=>frk v6 ((Dimpl_flip (Pl.mk zx zy zz zaa)).bind fun v7=>(Dimpl_room n l507 v7).bind fun v8=>some v8) (some false)
theorem Timpl_across_1{Y}(n:Nat)(zx zy zz zaa:Int)(l507:List Pl)(r:Bool)(h:Dimpl_across_1 n zx zy zz zaa l507=some r):Wk Tryz.prog H Y 107 [.code (cp [1,1,1,0] (bodyOf Tryz.f107)),.code (cp [1,1,1,1] (bodyOf Tryz.f107))] (FinX Tryz.prog Tryz.f107 [] (bl r) []) ⟨[(5,.ptr 5 0),(7,.msl 507 l507.length)],[(5,⟨true,0,[i64 zx,i64 zy,i64 zz,i64 zaa]⟩),(507,⟨true,4,(ePl).f l507⟩)]⟩:=by
 unfold Dimpl_across_1 at h
 obtain⟨v6,y6,h⟩:=bm h
 refine x_frk 5 [(2,.call [] [(ePl).f l507] (bl v6) [])] (ocons (Timpl_room (Y:=Y) n l507 (Pl.mk zx zy zz zaa) _ y6) (ocons (len_row (L:=l507) ePl) (ocons (Enc.share ePl ePl sPl l507) onil))) h (by kernel_rfl) (fun h=>?_) (fun h=>?_)
 ·obtain⟨v7,y7,h⟩:=bm h
  obtain⟨v8,y8,h⟩:=bm h
  replace h:=sj h;subst h
  exact x_end 7 [(2,.call [] [] (.agg [i64 v7.A,i64 v7.B,i64 v7.C,i64 v7.D]) []),(0,.call [] [(ePl).f l507] (bl v8) [])] [] (ocons (Timpl_flip (Y:=Y) (Pl.mk zx zy zz zaa) _ y7) (ocons (Timpl_room (Y:=Y) n l507 v7 _ y8) (ocons (len_row (L:=l507) ePl) (ocons (Enc.share ePl ePl sPl l507) onil)))) onil 
 ·replace h:=sj h;subst h
  exact x_end 7 [] [] onil onil 
def Dimpl_across_2(n:Nat)(t14 zx zy zz zaa:Int)(rec0:(Int×List Pl×List Pl)→Option Bool)(a:(Int×List Pl×List Pl)):Option Bool :=
 match a with
 | (t15,l13,l507)=>frk (decide (t15<t14)) ((lget l13 t15).bind fun v1=>(Dimpl_greater n v1).bind fun v2=>frk (v2.A==zx&&(v2.B==zy&&(v2.C==zz&&(v2.D==zaa&&true)))) (rec0 (w64 (t15+1),l13,l507)) ((Dslices_Contains n l507 v1).bind fun v3=>Dimpl_across_0 n rec0 t14 zx zy zz zaa t15 v3 v1.A v1.B v1.C v1.D l13 l507)) (Dimpl_across_1 n zx zy zz zaa l507)
theorem Timpl_across_2{Y}(n:Nat)(t14 zx zy zz zaa:Int):∀(m:Nat) (a:(Int×List Pl×List Pl)) (r:Bool),loopN (Dimpl_across_2 n t14 zx zy zz zaa) m a=some r→Wk Tryz.prog H Y 107 [.code (cp [1,1,0,1,0] (bodyOf Tryz.f107)),.blk 0,.code (cp [1,1,1] (bodyOf Tryz.f107))] (FinX Tryz.prog Tryz.f107 [] (bl r) []) ⟨[(5,.ptr 5 0),(7,.msl 507 a.2.2.length),(13,.msl 13 a.2.1.length),(14,i64 t14),(15,i64 a.1)],[(5,⟨true,0,[i64 zx,i64 zy,i64 zz,i64 zaa]⟩),(13,⟨false,4,(ePl).f a.2.1⟩),(507,⟨true,4,(ePl).f a.2.2⟩)]⟩:=by
 refine loopN_ind (fun rec0 hrec0 a r h=>?_)
 obtain⟨t15,l13,l507⟩:=a
 unfold Dimpl_across_2 at h
 refine x_frk 6 [] onil h (by kernel_rfl) (fun h=>?_) (fun h=>?_)
 ·obtain⟨v1,y1,h⟩:=bm h
  obtain⟨v2,y2,h⟩:=bm h
  refine x_frk 18 [(0,.unit),(0,.cells [i64 v1.A,i64 v1.B,i64 v1.C,i64 v1.D]),(3,.call [] [] (.agg [i64 v2.A,i64 v2.B,i64 v2.C,i64 v2.D]) [])] (ocons (inr y1) (ocons (ldA ePl y1 0 4 rfl rfl) (ocons (Timpl_greater (Y:=Y) n v1 _ y2) onil))) h (by kernel_rfl) (fun h=>?_) (fun h=>?_)
  ·exact x_to 12 [] onil (hrec0 (w64 (t15+1),l13,l507) r h) 
  ·obtain⟨v3,y3,h⟩:=bm h
   exact x_to 5 [(2,.call [] [(ePl).f l507] (bl v3) [])] (ocons (Tslices_Contains (Y:=Y) n l507 v1 _ y3) (ocons (len_row (L:=l507) ePl) (ocons (Enc.share ePl ePl sPl l507) onil))) (Timpl_across_0 n rec0 t14 zx zy zz zaa hrec0 t15 v3 v1.A v1.B v1.C v1.D l13 l507 r h) 
 ·exact x_to 2 [] onil (Timpl_across_1 n zx zy zz zaa l507 r h) 
def Dimpl_across(n:Nat)(a0:(List Pl))(a1:(List Pl))(a2:Pl):Option Bool :=
 (Dslices_Concat n [a0,a1]).bind fun v0=>loopN (Dimpl_across_2 n (v0.length:Int) a2.A a2.B a2.C a2.D) n (0,v0,[])
theorem Timpl_across{Y}(n:Nat)(a0:(List Pl))(a1:(List Pl))(a2:Pl)(r:Bool)(h:Dimpl_across n a0 a1 a2=some r):Big Tryz.prog H Y (.call 107 [.sl false 4 a0.length ((ePl).f a0),.sl false 4 a1.length ((ePl).f a1),.agg [i64 a2.A,i64 a2.B,i64 a2.C,i64 a2.D]] (lk []) (bl r) (lk [])):=by
 unfold Dimpl_across at h
 refine x_call (fn:=Tryz.f107) (c:=bodyOf Tryz.f107) (bs0:=[]) Tryz.func107 (by kernel_rfl) (by kernel_rfl) ?_
 obtain⟨v0,y0,h⟩:=bm h
 exact x_to 21 [(3,.virt 7 507 4),(3,.call [] [(ePls false).f [a0,a1]] (.sl true 4 v0.length ((ePl).f v0)) [])] (ocons (rflV .nil) (ocons (show 507<1000∧4≠0 by decide) (ocons (Tslices_Concat (Y:=Y) n [a0,a1] _ y0) (ocons (len_row (L:=[a0,a1]) (ePls false)) (ocons (Enc.share (ePls false) (ePls false) (sPls false) [a0,a1]) (ocons (show hasSh (.sl true 4 v0.length ((ePl).f v0))=false by simp[hasSh,hasShL,nSh,nShI,nShB,nShP,nShT,nShN,nShPs]) onil)))))) (Timpl_across_2 n (v0.length:Int) a2.A a2.B a2.C a2.D n (0,v0,[]) r h) 
def Dimpl_touch_0(_n:Nat)(rec0:Int→Option Bool)(_t0:List Pl)(_t1:List Pl)(_t7:List Pl)(_t8 t9:Int)(t23:Bool):Option Bool :=
 frk t23 (some true) (rec0 (w64 (t9+1)))
theorem Timpl_touch_0{Y}(n:Nat)(rec0:Int→Option Bool)(t0:List Pl)(t1:List Pl)(t7:List Pl)(t8:Int)(hrec0:∀(a:Int) (r:Bool),rec0 a=some r→Wk Tryz.prog H Y 52 [.code (cp [1,0,1,0] (bodyOf Tryz.f52)),.blk 0,.code (cp [1,1] (bodyOf Tryz.f52))] (FinX Tryz.prog Tryz.f52 [] (bl r) []) ⟨[(0,.sl false 4 t0.length ((ePl).f t0)),(1,.sl false 4 t1.length ((ePl).f t1)),(7,.sl false 4 t7.length ((ePl).f t7)),(8,i64 t8),(9,i64 a)],[]⟩)(t9:Int)(t23 r:Bool)(h:Dimpl_touch_0 n rec0 t0 t1 t7 t8 t9 t23=some r):Wk Tryz.prog H Y 52 [.code (cp [1,0,1,0,0,1,1,0,0,1,1] (bodyOf Tryz.f52)),.blk 1,.code (cp [1,0,1,0,0,1,1,1] (bodyOf Tryz.f52)),.lp (cp [1,0,1,0] (bodyOf Tryz.f52)),.blk 0,.code (cp [1,1] (bodyOf Tryz.f52))] (FinX Tryz.prog Tryz.f52 [] (bl r) []) ⟨[(0,.sl false 4 t0.length ((ePl).f t0)),(1,.sl false 4 t1.length ((ePl).f t1)),(7,.sl false 4 t7.length ((ePl).f t7)),(8,i64 t8),(9,i64 t9),(23,bl t23)],[]⟩:=by
 unfold Dimpl_touch_0 at h
 refine x_frk 0 [] onil h (by kernel_rfl) (fun h=>?_) (fun h=>?_)
 ·replace h:=sj h;subst h
  exact x_end 4 [] [] onil onil 
 ·exact x_to 7 [] onil (hrec0 (w64 (t9+1)) r h) 
def Dimpl_touch_1(n:Nat)(t0:List Pl)(t1:List Pl)(t7:List Pl)(t8:Int)(rec0:Int→Option Bool)(a:Int):Option Bool :=
 match a with
 | t9=>frk (decide (t9<t8)) ((lget t7 t9).bind fun v0=>(Dimpl_flip v0).bind fun v1=>(Dslices_Contains n t1 v1).bind fun v2=>frk v2 ((Dimpl_greater n v0).bind fun v3=>(Dimpl_across n t0 t1 v3).bind fun v4=>Dimpl_touch_0 n rec0 t0 t1 t7 t8 t9 v4) (rec0 (w64 (t9+1)))) (some false)
theorem Timpl_touch_1{Y}(n:Nat)(t0:List Pl)(t1:List Pl)(t7:List Pl)(t8:Int):∀(m:Nat) (a:Int) (r:Bool),loopN (Dimpl_touch_1 n t0 t1 t7 t8) m a=some r→Wk Tryz.prog H Y 52 [.code (cp [1,0,1,0] (bodyOf Tryz.f52)),.blk 0,.code (cp [1,1] (bodyOf Tryz.f52))] (FinX Tryz.prog Tryz.f52 [] (bl r) []) ⟨[(0,.sl false 4 t0.length ((ePl).f t0)),(1,.sl false 4 t1.length ((ePl).f t1)),(7,.sl false 4 t7.length ((ePl).f t7)),(8,i64 t8),(9,i64 a)],[]⟩:=by
 refine loopN_ind (fun rec0 hrec0 a r h=>?_)
 obtain⟨t9,rfl⟩:∃x,x=a:=⟨a,rfl⟩
 unfold Dimpl_touch_1 at h
 refine x_frk 6 [] onil h (by kernel_rfl) (fun h=>?_) (fun h=>?_)
 ·obtain⟨v0,y0,h⟩:=bm h
  obtain⟨v1,y1,h⟩:=bm h
  obtain⟨v2,y2,h⟩:=bm h
  refine x_frk 17 [(0,.val (.cptr (ePl.c v0++(ePl).f ((t7).drop (Int.toNat t9+1))))),(5,.call [] [] (.agg [i64 v1.A,i64 v1.B,i64 v1.C,i64 v1.D]) []),(0,.call [] [] (bl v2) [])] (ocons (ix ePl y0) (ocons (Timpl_flip (Y:=Y) v0 _ y1) (ocons (Tslices_Contains (Y:=Y) n t1 v1 _ y2) onil))) h (by kernel_rfl) (fun h=>?_) (fun h=>?_)
  ·obtain⟨v3,y3,h⟩:=bm h
   obtain⟨v4,y4,h⟩:=bm h
   exact x_to 7 [(3,.call [] [] (.agg [i64 v3.A,i64 v3.B,i64 v3.C,i64 v3.D]) []),(0,.call [] [] (bl v4) [])] (ocons (Timpl_greater (Y:=Y) n v0 _ y3) (ocons (Timpl_across (Y:=Y) n t0 t1 v3 _ y4) onil)) (Timpl_touch_0 n rec0 t0 t1 t7 t8 hrec0 t9 v4 r h) 
  ·exact x_to 15 [] onil (hrec0 (w64 (t9+1)) r h) 
 ·replace h:=sj h;subst h
  exact x_end 5 [] [] onil onil 
def Dimpl_touch(n:Nat)(a0:(List Pl))(a1:(List Pl)):Option Bool :=
 loopN (Dimpl_touch_1 n a0 a1 a0 (a0.length:Int)) n 0
theorem Timpl_touch{Y}(n:Nat)(a0:(List Pl))(a1:(List Pl))(r:Bool)(h:Dimpl_touch n a0 a1=some r):Big Tryz.prog H Y (.call 52 [.sl false 4 a0.length ((ePl).f a0),.sl false 4 a1.length ((ePl).f a1)] (lk []) (bl r) (lk [])):=by
 unfold Dimpl_touch at h
 refine x_call (fn:=Tryz.f52) (c:=bodyOf Tryz.f52) (bs0:=[]) Tryz.func52 (by kernel_rfl) (by kernel_rfl) ?_
 exact x_to 12 [] onil (Timpl_touch_1 n a0 a1 a0 (a0.length:Int) n 0 r h) 
def Dimpl_Pieces_2(_n:Nat)(rec2:(Int×Int×List (List Pl)×List Int)→Option Int)(_rec1:(Int×Int×List (List Pl)×List Int)→Option Int)(_t7:Int)(_t8:List Pl)(_t36:Int)(_t43:List (List Pl))(_t44 _t35 t5 t11 t12 t45 t76:Int)(l18:List (List Pl))(rec3:(Int×List Int)→Option Int)(a:(Int×List Int)):Option Int :=
 match a with
 | (t77,l21)=>frk (decide (t77<t76)) ((lget l21 t77).bind fun v12=>frk (v12==t11) ((lget l21 t77).bind fun _v13=>rec3 (w64 (t77+1),(l21.set (Int.toNat t77) t12))) (rec3 (w64 (t77+1),l21))) (rec2 (t5,w64 (t45+1),l18,l21))
theorem Timpl_Pieces_2{Y}(n:Nat)(rec2:(Int×Int×List (List Pl)×List Int)→Option Int)(rec1:(Int×Int×List (List Pl)×List Int)→Option Int)(t7:Int)(t8:List Pl)(t36:Int)(t43:List (List Pl))(t44 t35:Int)(hrec2:∀(a:(Int×Int×List (List Pl)×List Int)) (r:Int),rec2 a=some r→Wk Tryz.prog H Y 14 [.code (cp [1,1,1,1,1,1,0,1,0,0,1,1,0,0,1,1,0] (bodyOf Tryz.f14)),.blk 4,.blk 3,.code (cp [1,1,1,1,1,1,0,1,0,0,1,1,1] (bodyOf Tryz.f14)),.lp (cp [1,1,1,1,1,1,0,1,0] (bodyOf Tryz.f14)),.blk 2,.code (cp [1,1,1,1,1,1,1] (bodyOf Tryz.f14))] (FinX Tryz.prog Tryz.f14 [] (i64 r) []) ⟨[(3,.msl 18 a.2.2.1.length),(4,.msl 21 a.2.2.2.length),(5,i64 a.1),(7,i64 t7),(8,.sl false 4 t8.length ((ePl).f t8)),(34,.msl 18 a.2.2.1.length),(35,i64 t35),(36,i64 t36),(43,.sl false 1 t43.length ((ePls false).f t43)),(44,i64 t44),(45,i64 a.2.1)],[(18,⟨false,1,(ePls true).f a.2.2.1⟩),(21,⟨true,1,(eInt).f a.2.2.2⟩)]⟩)(_hrec1:∀(a:(Int×Int×List (List Pl)×List Int)) (r:Int),rec1 a=some r→Wk Tryz.prog H Y 14 [.code (cp [1,1,1,1,1,1,0,1,0] (bodyOf Tryz.f14)),.blk 2,.code (cp [1,1,1,1,1,1,1] (bodyOf Tryz.f14))] (FinX Tryz.prog Tryz.f14 [] (i64 r) []) ⟨[(3,.msl 18 a.2.2.1.length),(4,.msl 21 a.2.2.2.length),(5,i64 a.1),(34,.msl 18 a.2.2.1.length),(35,i64 t35),(36,i64 a.2.1)],[(18,⟨false,1,(ePls true).f a.2.2.1⟩),(21,⟨true,1,(eInt).f a.2.2.2⟩)]⟩)(t5 t11 t12 t45 t76:Int)(l18:List (List Pl)):∀(m:Nat) (a:(Int×List Int)) (r:Int),loopN (Dimpl_Pieces_2 n rec2 rec1 t7 t8 t36 t43 t44 t35 t5 t11 t12 t45 t76 l18) m a=some r→Wk Tryz.prog H Y 14 [.code (cp [1,1,1,1,1,1,0,1,0,0,1,1,0,0,1,1,0,0,1,1,0,0,1,1,1,1,1,0] (bodyOf Tryz.f14)),.blk 6,.blk 5,.code (cp [1,1,1,1,1,1,0,1,0,0,1,1,0,0,1,1,0,0,1,1,1] (bodyOf Tryz.f14)),.lp (cp [1,1,1,1,1,1,0,1,0,0,1,1,0,0,1,1,0] (bodyOf Tryz.f14)),.blk 4,.blk 3,.code (cp [1,1,1,1,1,1,0,1,0,0,1,1,1] (bodyOf Tryz.f14)),.lp (cp [1,1,1,1,1,1,0,1,0] (bodyOf Tryz.f14)),.blk 2,.code (cp [1,1,1,1,1,1,1] (bodyOf Tryz.f14))] (FinX Tryz.prog Tryz.f14 [] (i64 r) []) ⟨[(3,.msl 18 l18.length),(4,.msl 21 a.2.length),(5,i64 t5),(7,i64 t7),(8,.sl false 4 t8.length ((ePl).f t8)),(11,i64 t11),(12,i64 t12),(34,.msl 18 l18.length),(35,i64 t35),(36,i64 t36),(43,.sl false 1 t43.length ((ePls false).f t43)),(44,i64 t44),(45,i64 t45),(75,.msl 21 a.2.length),(76,i64 t76),(77,i64 a.1)],[(18,⟨false,1,(ePls true).f l18⟩),(21,⟨true,1,(eInt).f a.2⟩)]⟩:=by
 refine loopN_ind (fun _rec3 hrec3 a r h=>?_)
 obtain⟨t77,l21⟩:=a
 unfold Dimpl_Pieces_2 at h
 refine x_frk 6 [] onil h (by kernel_rfl) (fun h=>?_) (fun h=>?_)
 ·obtain⟨v12,y12,h⟩:=bm h
  refine x_frk 17 [(1,.unit),(0,.val (i64 v12))] (ocons (inr y12) (ocons (ld1 eInt y12 0 rfl) onil)) h (by kernel_rfl) (fun h=>?_) (fun h=>?_)
  ·obtain⟨_v13,y13,h⟩:=bm h
   exact x_to 16 [(3,.unit),(0,.cells ((eInt).f (l21.set (Int.toNat t77) t12))),(0,.fix 4 (.msl 21 (l21.set (Int.toNat t77) t12).length)),(0,.fix 75 (.msl 21 (l21.set (Int.toNat t77) t12).length)),(0,.fix 85 (.msl 21 (l21.set (Int.toNat t77) t12).length))] (ocons (inr y13) (ocons (stA eInt y13 0 1 [i64 t12] t12 rfl rfl) (ocons (setLen 21 l21 (Int.toNat t77) t12) (ocons (setLen 21 l21 (Int.toNat t77) t12) (ocons (setLen 21 l21 (Int.toNat t77) t12) onil))))) (hrec3 (w64 (t77+1),(l21.set (Int.toNat t77) t12)) r h) 
  ·exact x_to 7 [] onil (hrec3 (w64 (t77+1),l21) r h) 
 ·exact x_to 7 [] onil (hrec2 (t5,w64 (t45+1),l18,l21) r h) 
def Dimpl_Pieces_1(n:Nat)(rec2:(Int×Int×List (List Pl)×List Int)→Option Int)(rec1:(Int×Int×List (List Pl)×List Int)→Option Int)(t7:Int)(t8:List Pl)(t36:Int)(t43:List (List Pl))(t44 t35 t5 t9 t45:Int)(t64:Bool)(l18:List (List Pl))(l21:List Int):Option Int :=
 frk t64 (rec2 (t5,w64 (t45+1),l18,l21)) ((lget l21 t7).bind fun v10=>(lget l21 t9).bind fun v11=>loopN (Dimpl_Pieces_2 n rec2 rec1 t7 t8 t36 t43 t44 t35 (w64 (t5-1)) v10 v11 t45 (l21.length:Int) l18) n (0,l21))
theorem Timpl_Pieces_1{Y}(n:Nat)(rec2:(Int×Int×List (List Pl)×List Int)→Option Int)(rec1:(Int×Int×List (List Pl)×List Int)→Option Int)(t7:Int)(t8:List Pl)(t36:Int)(t43:List (List Pl))(t44 t35:Int)(hrec2:∀(a:(Int×Int×List (List Pl)×List Int)) (r:Int),rec2 a=some r→Wk Tryz.prog H Y 14 [.code (cp [1,1,1,1,1,1,0,1,0,0,1,1,0,0,1,1,0] (bodyOf Tryz.f14)),.blk 4,.blk 3,.code (cp [1,1,1,1,1,1,0,1,0,0,1,1,1] (bodyOf Tryz.f14)),.lp (cp [1,1,1,1,1,1,0,1,0] (bodyOf Tryz.f14)),.blk 2,.code (cp [1,1,1,1,1,1,1] (bodyOf Tryz.f14))] (FinX Tryz.prog Tryz.f14 [] (i64 r) []) ⟨[(3,.msl 18 a.2.2.1.length),(4,.msl 21 a.2.2.2.length),(5,i64 a.1),(7,i64 t7),(8,.sl false 4 t8.length ((ePl).f t8)),(34,.msl 18 a.2.2.1.length),(35,i64 t35),(36,i64 t36),(43,.sl false 1 t43.length ((ePls false).f t43)),(44,i64 t44),(45,i64 a.2.1)],[(18,⟨false,1,(ePls true).f a.2.2.1⟩),(21,⟨true,1,(eInt).f a.2.2.2⟩)]⟩)(hrec1:∀(a:(Int×Int×List (List Pl)×List Int)) (r:Int),rec1 a=some r→Wk Tryz.prog H Y 14 [.code (cp [1,1,1,1,1,1,0,1,0] (bodyOf Tryz.f14)),.blk 2,.code (cp [1,1,1,1,1,1,1] (bodyOf Tryz.f14))] (FinX Tryz.prog Tryz.f14 [] (i64 r) []) ⟨[(3,.msl 18 a.2.2.1.length),(4,.msl 21 a.2.2.2.length),(5,i64 a.1),(34,.msl 18 a.2.2.1.length),(35,i64 t35),(36,i64 a.2.1)],[(18,⟨false,1,(ePls true).f a.2.2.1⟩),(21,⟨true,1,(eInt).f a.2.2.2⟩)]⟩)(t5 t9 t45:Int)(t64:Bool)(l18:List (List Pl))(l21:List Int)(r:Int)(h:Dimpl_Pieces_1 n rec2 rec1 t7 t8 t36 t43 t44 t35 t5 t9 t45 t64 l18 l21=some r):Wk Tryz.prog H Y 14 [.code (cp [1,1,1,1,1,1,0,1,0,0,1,1,0,0,1,1,0,0,1,1,0,0,1,0,1] (bodyOf Tryz.f14)),.code (cp [1,1,1,1,1,1,0,1,0,0,1,1,0,0,1,1,0,0,1,1,0,0,1,1] (bodyOf Tryz.f14)),.blk 5,.code (cp [1,1,1,1,1,1,0,1,0,0,1,1,0,0,1,1,0,0,1,1,1] (bodyOf Tryz.f14)),.lp (cp [1,1,1,1,1,1,0,1,0,0,1,1,0,0,1,1,0] (bodyOf Tryz.f14)),.blk 4,.blk 3,.code (cp [1,1,1,1,1,1,0,1,0,0,1,1,1] (bodyOf Tryz.f14)),.lp (cp [1,1,1,1,1,1,0,1,0] (bodyOf Tryz.f14)),.blk 2,.code (cp [1,1,1,1,1,1,1] (bodyOf Tryz.f14))] (FinX Tryz.prog Tryz.f14 [] (i64 r) []) ⟨[(3,.msl 18 l18.length),(4,.msl 21 l21.length),(5,i64 t5),(7,i64 t7),(8,.sl false 4 t8.length ((ePl).f t8)),(9,i64 t9),(34,.msl 18 l18.length),(35,i64 t35),(36,i64 t36),(43,.sl false 1 t43.length ((ePls false).f t43)),(44,i64 t44),(45,i64 t45),(64,bl t64)],[(18,⟨false,1,(ePls true).f l18⟩),(21,⟨true,1,(eInt).f l21⟩)]⟩:=by
 unfold Dimpl_Pieces_1 at h
 refine x_frk 0 [] onil h (by kernel_rfl) (fun h=>?_) (fun h=>?_)
 ·exact x_to 6 [] onil (hrec2 (t5,w64 (t45+1),l18,l21) r h) 
 ·obtain⟨v10,y10,h⟩:=bm h
  obtain⟨v11,y11,h⟩:=bm h
  exact x_to 27 [(5,.unit),(0,.val (i64 v10)),(2,.unit),(0,.val (i64 v11))] (ocons (inr y10) (ocons (ld1 eInt y10 0 rfl) (ocons (inr y11) (ocons (ld1 eInt y11 0 rfl) onil)))) (Timpl_Pieces_2 n rec2 rec1 t7 t8 t36 t43 t44 t35 hrec2 hrec1 (w64 (t5-1)) v10 v11 t45 (l21.length:Int) l18 n (0,l21) r h) 
def Dimpl_Pieces_3(n:Nat)(rec1:(Int×Int×List (List Pl)×List Int)→Option Int)(t35 t7:Int)(t8:List Pl)(t36:Int)(t43:List (List Pl))(t44:Int)(rec2:(Int×Int×List (List Pl)×List Int)→Option Int)(a:(Int×Int×List (List Pl)×List Int)):Option Int :=
 match a with
 | (t5,t45,l18,l21)=>frk (decide (t45<t44)) ((lget t43 t45).bind fun v6=>(lget l21 t7).bind fun v7=>(lget l21 t45).bind fun v8=>frk (v7==v8) (rec2 (t5,w64 (t45+1),l18,l21)) ((Dimpl_touch n t8 v6).bind fun v9=>Dimpl_Pieces_1 n rec2 rec1 t7 t8 t36 t43 t44 t35 t5 t45 t45 (!v9) l18 l21)) (rec1 (t5,w64 (t36+1),l18,l21))
theorem Timpl_Pieces_3{Y}(n:Nat)(rec1:(Int×Int×List (List Pl)×List Int)→Option Int)(t35:Int)(hrec1:∀(a:(Int×Int×List (List Pl)×List Int)) (r:Int),rec1 a=some r→Wk Tryz.prog H Y 14 [.code (cp [1,1,1,1,1,1,0,1,0] (bodyOf Tryz.f14)),.blk 2,.code (cp [1,1,1,1,1,1,1] (bodyOf Tryz.f14))] (FinX Tryz.prog Tryz.f14 [] (i64 r) []) ⟨[(3,.msl 18 a.2.2.1.length),(4,.msl 21 a.2.2.2.length),(5,i64 a.1),(34,.msl 18 a.2.2.1.length),(35,i64 t35),(36,i64 a.2.1)],[(18,⟨false,1,(ePls true).f a.2.2.1⟩),(21,⟨true,1,(eInt).f a.2.2.2⟩)]⟩)(t7:Int)(t8:List Pl)(t36:Int)(t43:List (List Pl))(t44:Int):∀(m:Nat) (a:(Int×Int×List (List Pl)×List Int)) (r:Int),loopN (Dimpl_Pieces_3 n rec1 t35 t7 t8 t36 t43 t44) m a=some r→Wk Tryz.prog H Y 14 [.code (cp [1,1,1,1,1,1,0,1,0,0,1,1,0,0,1,1,0] (bodyOf Tryz.f14)),.blk 4,.blk 3,.code (cp [1,1,1,1,1,1,0,1,0,0,1,1,1] (bodyOf Tryz.f14)),.lp (cp [1,1,1,1,1,1,0,1,0] (bodyOf Tryz.f14)),.blk 2,.code (cp [1,1,1,1,1,1,1] (bodyOf Tryz.f14))] (FinX Tryz.prog Tryz.f14 [] (i64 r) []) ⟨[(3,.msl 18 a.2.2.1.length),(4,.msl 21 a.2.2.2.length),(5,i64 a.1),(7,i64 t7),(8,.sl false 4 t8.length ((ePl).f t8)),(34,.msl 18 a.2.2.1.length),(35,i64 t35),(36,i64 t36),(43,.sl false 1 t43.length ((ePls false).f t43)),(44,i64 t44),(45,i64 a.2.1)],[(18,⟨false,1,(ePls true).f a.2.2.1⟩),(21,⟨true,1,(eInt).f a.2.2.2⟩)]⟩:=by
 refine loopN_ind (fun rec2 hrec2 a r h=>?_)
 obtain⟨t5,t45,l18,l21⟩:=a
 unfold Dimpl_Pieces_3 at h
 refine x_frk 6 [] onil h (by kernel_rfl) (fun h=>?_) (fun h=>?_)
 ·obtain⟨v6,y6,h⟩:=bm h
  obtain⟨v7,y7,h⟩:=bm h
  obtain⟨v8,y8,h⟩:=bm h
  refine x_frk 24 [(1,.val (.cptr ((ePls false).c v6++(ePls false).f ((t43).drop (Int.toNat t45+1))))),(5,.unit),(0,.val (i64 v7)),(2,.unit),(0,.val (i64 v8))] (ocons (ix (ePls false) y6) (ocons (inr y7) (ocons (ld1 eInt y7 0 rfl) (ocons (inr y8) (ocons (ld1 eInt y8 0 rfl) onil))))) h (by kernel_rfl) (fun h=>?_) (fun h=>?_)
  ·exact x_to 13 [] onil (hrec2 (t5,w64 (t45+1),l18,l21) r h) 
  ·obtain⟨v9,y9,h⟩:=bm h
   exact x_to 6 [(2,.call [] [] (bl v9) [])] (ocons (Timpl_touch (Y:=Y) n t8 v6 _ y9) onil) (Timpl_Pieces_1 n rec2 rec1 t7 t8 t36 t43 t44 t35 hrec2 hrec1 t5 t45 t45 (!v9) l18 l21 r h) 
 ·exact x_to 7 [] onil (hrec1 (t5,w64 (t36+1),l18,l21) r h) 
def Dimpl_Pieces_4(n:Nat)(t35:Int)(rec1:(Int×Int×List (List Pl)×List Int)→Option Int)(a:(Int×Int×List (List Pl)×List Int)):Option Int :=
 match a with
 | (t5,t36,l18,l21)=>frk (decide (t36<t35)) ((lget l18 t36).bind fun v4=>(lsl l18 0 t36).bind fun v5=>loopN (Dimpl_Pieces_3 n rec1 t35 t36 v4 t36 v5 (v5.length:Int)) n (t5,0,l18,l21)) (some t5)
theorem Timpl_Pieces_4{Y}(n:Nat)(t35:Int):∀(m:Nat) (a:(Int×Int×List (List Pl)×List Int)) (r:Int),loopN (Dimpl_Pieces_4 n t35) m a=some r→Wk Tryz.prog H Y 14 [.code (cp [1,1,1,1,1,1,0,1,0] (bodyOf Tryz.f14)),.blk 2,.code (cp [1,1,1,1,1,1,1] (bodyOf Tryz.f14))] (FinX Tryz.prog Tryz.f14 [] (i64 r) []) ⟨[(3,.msl 18 a.2.2.1.length),(4,.msl 21 a.2.2.2.length),(5,i64 a.1),(34,.msl 18 a.2.2.1.length),(35,i64 t35),(36,i64 a.2.1)],[(18,⟨false,1,(ePls true).f a.2.2.1⟩),(21,⟨true,1,(eInt).f a.2.2.2⟩)]⟩:=by
 refine loopN_ind (fun rec1 hrec1 a r h=>?_)
 obtain⟨t5,t36,l18,l21⟩:=a
 unfold Dimpl_Pieces_4 at h
 refine x_frk 6 [] onil h (by kernel_rfl) (fun h=>?_) (fun h=>?_)
 ·obtain⟨v4,y4,h⟩:=bm h
  obtain⟨v5,y5,h⟩:=bm h
  exact x_to 21 [(1,.unit),(0,.val (.sl true 4 v4.length ((ePl).f v4))),(0,.fix 40 (.sl false 4 v4.length ((ePl).f v4))),(4,.val (.sl false 1 v5.length ((ePls false).f v5)))] (ocons (inr y4) (ocons (ld1 (ePls true) y4 0 rfl) (ocons (congrArg (AV.sl false 4 v4.length) (Enc.share ePl ePl sPl v4)) (ocons (slM (ePls true) (ePls false) (sPls true) y5) onil)))) (Timpl_Pieces_3 n rec1 t35 hrec1 t36 v4 t36 v5 (v5.length:Int) n (t5,0,l18,l21) r h) 
 ·replace h:=sj h;subst h
  exact x_end 6 [] [] onil onil 
def Dimpl_Pieces_0(n:Nat)(t5 t35 t36:Int)(l18:List (List Pl))(l21:List Int):Option Int :=
 loopN (Dimpl_Pieces_4 n t35) n (t5,t36,l18,l21)
theorem Timpl_Pieces_0{Y}(n:Nat)(t5 t35 t36:Int)(l18:List (List Pl))(l21:List Int)(r:Int)(h:Dimpl_Pieces_0 n t5 t35 t36 l18 l21=some r):Wk Tryz.prog H Y 14 [.code (cp [1,1,1,1,1,1,0,1,0] (bodyOf Tryz.f14)),.blk 2,.code (cp [1,1,1,1,1,1,1] (bodyOf Tryz.f14))] (FinX Tryz.prog Tryz.f14 [] (i64 r) []) ⟨[(3,.msl 18 l18.length),(4,.msl 21 l21.length),(5,i64 t5),(34,.msl 18 l18.length),(35,i64 t35),(36,i64 t36)],[(18,⟨false,1,(ePls true).f l18⟩),(21,⟨true,1,(eInt).f l21⟩)]⟩:=by
 unfold Dimpl_Pieces_0 at h
 exact x_to 0 [] onil (Timpl_Pieces_4 n t35 n (t5,t36,l18,l21) r h) 
def Dimpl_Pieces_5(n:Nat)(t5 t25:Int)(l18:List (List Pl))(rec0:(Int×List Int)→Option Int)(a:(Int×List Int)):Option Int :=
 match a with
 | (t26,l21)=>frk (decide (t26<t25)) ((lget l21 t26).bind fun _v3=>rec0 (w64 (t26+1),(l21.set (Int.toNat t26) t26))) (Dimpl_Pieces_0 n t5 (l18.length:Int) 0 l18 l21)
theorem Timpl_Pieces_5{Y}(n:Nat)(t5 t25:Int)(l18:List (List Pl)):∀(m:Nat) (a:(Int×List Int)) (r:Int),loopN (Dimpl_Pieces_5 n t5 t25 l18) m a=some r→Wk Tryz.prog H Y 14 [.code (cp [1,1,1,1,1,0,1,0] (bodyOf Tryz.f14)),.blk 0,.code (cp [1,1,1,1,1,1] (bodyOf Tryz.f14))] (FinX Tryz.prog Tryz.f14 [] (i64 r) []) ⟨[(3,.msl 18 l18.length),(4,.msl 21 a.2.length),(5,i64 t5),(25,i64 t25),(26,i64 a.1)],[(18,⟨false,1,(ePls true).f l18⟩),(21,⟨true,1,(eInt).f a.2⟩)]⟩:=by
 refine loopN_ind (fun _rec0 hrec0 a r h=>?_)
 obtain⟨t26,l21⟩:=a
 unfold Dimpl_Pieces_5 at h
 refine x_frk 6 [] onil h (by kernel_rfl) (fun h=>?_) (fun h=>?_)
 ·obtain⟨_v3,y3,h⟩:=bm h
  exact x_to 23 [(5,.unit),(0,.cells ((eInt).f (l21.set (Int.toNat t26) t26))),(0,.fix 4 (.msl 21 (l21.set (Int.toNat t26) t26).length)),(0,.fix 29 (.msl 21 (l21.set (Int.toNat t26) t26).length))] (ocons (inr y3) (ocons (stA eInt y3 0 1 [i64 t26] t26 rfl rfl) (ocons (setLen 21 l21 (Int.toNat t26) t26) (ocons (setLen 21 l21 (Int.toNat t26) t26) onil)))) (hrec0 (w64 (t26+1),(l21.set (Int.toNat t26) t26)) r h) 
 ·exact x_to 9 [] onil (Timpl_Pieces_0 n t5 (l18.length:Int) 0 l18 l21 r h) 
def Dimpl_Pieces(n:Nat)(a0:Sol):Option Int :=
 (Dimpl_SolidOk n a0).bind fun v0=>frk (!v0) (some 0) ((Dimpl_Solid_cells n a0 true []).bind fun v1=>chk (mkB (v1.length:Int) 8) (loopN (Dimpl_Pieces_5 n (v1.length:Int) (v1.length:Int) v1) n (0,(List.replicate (Int.toNat (v1.length:Int)) (0:Int)))))
theorem Timpl_Pieces{Y}(n:Nat)(a0:Sol)(r:Int)(h:Dimpl_Pieces n a0=some r):Big Tryz.prog H Y (.call 14 [eF a0] (lk []) (i64 r) (lk [])):=by
 unfold Dimpl_Pieces at h
 refine x_call (fn:=Tryz.f14) (c:=bodyOf Tryz.f14) (bs0:=[]) Tryz.func14 (by kernel_rfl) (by kernel_rfl) ?_
 obtain⟨v0,y0,h⟩:=bm h
 refine x_frk 12 [(3,.call [] [] (bl v0) [])] (ocons (Timpl_SolidOk (Y:=Y) n a0 _ y0) onil) h (by kernel_rfl) (fun h=>?_) (fun h=>?_)
 ·replace h:=sj h;subst h
  exact x_end 4 [] [] onil onil 
 ·obtain⟨v1,y1,h⟩:=bm h
  obtain⟨c2,h⟩:=chk_some h
  exact x_to 27 [(0,.call [(false,4)] [] (.sl true 1 v1.length ((ePls true).f v1)) []),(3,.mk (List.replicate (Int.toNat (v1.length:Int)) (0:Int)).length ((eInt).f (List.replicate (Int.toNat (v1.length:Int)) (0:Int))))] (ocons (Timpl_Solid_cells (Y:=Y) n a0 true [] [] _ y1) (ocons (show hasSh (.sl true 1 v1.length ((ePls true).f v1))=false by simp[hasSh,hasShL,nSh,nShI,nShB,nShP,nShT,nShN,nShPs]) (ocons (rflI (v1.length:Int)) (ocons (mkOk eInt c2 (0:Int) rfl) onil)))) (Timpl_Pieces_5 n (v1.length:Int) (v1.length:Int) v1 n (0,(List.replicate (Int.toNat (v1.length:Int)) (0:Int))) r h) 
def Dspec_DrawCell(n:Nat)(a0:(List Int)):Option (List Pl) :=
 (Dspec_l1New n a0).bind fun v0=>(Dspec_l6Cell n v0 6).bind fun v1=>some v1.1
theorem Tspec_DrawCell{Y}(n:Nat)(a0:(List Int))(r:(List Pl))(h:Dspec_DrawCell n a0=some r):Big Tryz.prog H Y (.call 16 [.sl false 1 a0.length ((eU8).f a0)] (lk []) (.sl true 4 r.length ((ePl).f r)) (lk [])):=by
 unfold Dspec_DrawCell at h
 refine x_call (fn:=Tryz.f16) (c:=bodyOf Tryz.f16) (bs0:=[]) Tryz.func16 (by kernel_rfl) (by kernel_rfl) ?_
 obtain⟨v0,y0,h⟩:=bm h
 obtain⟨v1,y1,h⟩:=bm h
 replace h:=sj h;subst h
 exact x_end 16 [(2,.call [] [] (.nbx [.sl false 1 v0.1.length ((eU8).f v0.1),i64 v0.2.1,i64 v0.2.2]) []),(2,.call [] [] (.sl true 4 v1.1.length ((ePl).f v1.1)) [(1000,⟨true,0,[.sl false 1 v1.2.1.length ((eU8).f v1.2.1),i64 v1.2.2.1,i64 v1.2.2.2]⟩)])] [] (ocons (Tspec_l1New (Y:=Y) n a0 _ y0) (ocons (Tspec_l6Cell (Y:=Y) n v0 6 _ y1) onil)) (ocons (len_row (L:=v1.1) ePl) onil) 
def Dimpl_planesOk_0(n:Nat)(t5:List Pl)(t6:Int)(rec0:Int→Option Bool)(a:Int):Option Bool :=
 match a with
 | t7=>frk (decide (t7<t6)) ((lget t5 t7).bind fun v0=>(Dimpl_PlaneOk n v0).bind fun v1=>frk (!v1) (some false) (rec0 (w64 (t7+1)))) (some true)
theorem Timpl_planesOk_0{Y}(n:Nat)(t5:List Pl)(t6:Int):∀(m:Nat) (a:Int) (r:Bool),loopN (Dimpl_planesOk_0 n t5 t6) m a=some r→Wk Tryz.prog H Y 53 [.code (cp [1,0,1,0] (bodyOf Tryz.f53)),.blk 0,.code (cp [1,1] (bodyOf Tryz.f53))] (FinX Tryz.prog Tryz.f53 [] (bl r) []) ⟨[(5,.sl false 4 t5.length ((ePl).f t5)),(6,i64 t6),(7,i64 a)],[]⟩:=by
 refine loopN_ind (fun _rec0 hrec0 a r h=>?_)
 obtain⟨t7,rfl⟩:∃x,x=a:=⟨a,rfl⟩
 unfold Dimpl_planesOk_0 at h
 refine x_frk 6 [] onil h (by kernel_rfl) (fun h=>?_) (fun h=>?_)
 ·obtain⟨v0,y0,h⟩:=bm h
  obtain⟨v1,y1,h⟩:=bm h
  refine x_frk 16 [(0,.val (.cptr (ePl.c v0++(ePl).f ((t5).drop (Int.toNat t7+1))))),(4,.call [] [] (bl v1) [])] (ocons (ix ePl y0) (ocons (Timpl_PlaneOk (Y:=Y) n v0 _ y1) onil)) h (by kernel_rfl) (fun h=>?_) (fun h=>?_)
  ·replace h:=sj h;subst h
   exact x_end 4 [] [] onil onil 
  ·exact x_to 7 [] onil (hrec0 (w64 (t7+1)) r h) 
 ·replace h:=sj h;subst h
  exact x_end 5 [] [] onil onil 
def Dimpl_planesOk(n:Nat)(a0:(List Pl)):Option Bool :=
 loopN (Dimpl_planesOk_0 n a0 (a0.length:Int)) n 0
theorem Timpl_planesOk{Y}(n:Nat)(a0:(List Pl))(r:Bool)(h:Dimpl_planesOk n a0=some r):Big Tryz.prog H Y (.call 53 [.sl false 4 a0.length ((ePl).f a0)] (lk []) (bl r) (lk [])):=by
 unfold Dimpl_planesOk at h
 refine x_call (fn:=Tryz.f53) (c:=bodyOf Tryz.f53) (bs0:=[]) Tryz.func53 (by kernel_rfl) (by kernel_rfl) ?_
 exact x_to 12 [] onil (Timpl_planesOk_0 n a0 (a0.length:Int) n 0 r h) 
def Dimpl_open_0(n:Nat)(t0:List Pl)(t5:List Pl)(t6:Int)(rec0:Int→Option Bool)(a:Int):Option Bool :=
 match a with
 | t7=>frk (decide (t7<t6)) ((lget t5 t7).bind fun v0=>(lsl t0 0 t7).bind fun v1=>(Dimpl_room n v1 v0).bind fun v2=>frk (!v2) (some false) (rec0 (w64 (t7+1)))) (some true)
theorem Timpl_open_0{Y}(n:Nat)(t0:List Pl)(t5:List Pl)(t6:Int):∀(m:Nat) (a:Int) (r:Bool),loopN (Dimpl_open_0 n t0 t5 t6) m a=some r→Wk Tryz.prog H Y 54 [.code (cp [1,0,1,0] (bodyOf Tryz.f54)),.blk 0,.code (cp [1,1] (bodyOf Tryz.f54))] (FinX Tryz.prog Tryz.f54 [] (bl r) []) ⟨[(0,.sl false 4 t0.length ((ePl).f t0)),(5,.sl false 4 t5.length ((ePl).f t5)),(6,i64 t6),(7,i64 a)],[]⟩:=by
 refine loopN_ind (fun _rec0 hrec0 a r h=>?_)
 obtain⟨t7,rfl⟩:∃x,x=a:=⟨a,rfl⟩
 unfold Dimpl_open_0 at h
 refine x_frk 6 [] onil h (by kernel_rfl) (fun h=>?_) (fun h=>?_)
 ·obtain⟨v0,y0,h⟩:=bm h
  obtain⟨v1,y1,h⟩:=bm h
  obtain⟨v2,y2,h⟩:=bm h
  refine x_frk 21 [(1,.val (.cptr (ePl.c v0++(ePl).f ((t5).drop (Int.toNat t7+1))))),(6,.val (.sl false 4 v1.length ((ePl).f v1))),(1,.call [] [] (bl v2) [])] (ocons (ix ePl y0) (ocons (slF ePl y1) (ocons (Timpl_room (Y:=Y) n v1 v0 _ y2) onil))) h (by kernel_rfl) (fun h=>?_) (fun h=>?_)
  ·replace h:=sj h;subst h
   exact x_end 4 [] [] onil onil 
  ·exact x_to 7 [] onil (hrec0 (w64 (t7+1)) r h) 
 ·replace h:=sj h;subst h
  exact x_end 5 [] [] onil onil 
def Dimpl_open(n:Nat)(a0:(List Pl)):Option Bool :=
 loopN (Dimpl_open_0 n a0 a0 (a0.length:Int)) n 0
theorem Timpl_open{Y}(n:Nat)(a0:(List Pl))(r:Bool)(h:Dimpl_open n a0=some r):Big Tryz.prog H Y (.call 54 [.sl false 4 a0.length ((ePl).f a0)] (lk []) (bl r) (lk [])):=by
 unfold Dimpl_open at h
 refine x_call (fn:=Tryz.f54) (c:=bodyOf Tryz.f54) (bs0:=[]) Tryz.func54 (by kernel_rfl) (by kernel_rfl) ?_
 exact x_to 12 [] onil (Timpl_open_0 n a0 a0 (a0.length:Int) n 0 r h) 
def Dimpl_Leaf(a0:Bool):Option Sol :=
 some (Sol.mk a0 (Pl.mk 0 0 0 0) [])
theorem Timpl_Leaf{Y}(a0:Bool)(r:Sol)(h:Dimpl_Leaf a0=some r):Big Tryz.prog H Y (.call 111 [bl a0] (lk []) (eS r) (lk [])):=by
 unfold Dimpl_Leaf at h
 refine x_call (fn:=Tryz.f111) (c:=bodyOf Tryz.f111) (bs0:=[]) Tryz.func111 (by kernel_rfl) (by kernel_rfl) ?_
 replace h:=sj h;subst h
 exact x_end 10 [] [(true,6)] onil onil 
def Dimpl_nodeo1o2(a0:Pl)(a1:Sol)(a2:Sol):Option Sol :=
 some (Sol.mk false a0 [a1,a2])
theorem Timpl_nodeo1o2{Y}(a0:Pl)(a1:Sol)(a2:Sol)(r:Sol)(h:Dimpl_nodeo1o2 a0 a1 a2=some r):Big Tryz.prog H Y (.call 112 [.agg [i64 a0.A,i64 a0.B,i64 a0.C,i64 a0.D],eS a1,eS a2] (lk []) (eS r) (lk [])):=by
 unfold Dimpl_nodeo1o2 at h
 refine x_call (fn:=Tryz.f112) (c:=bodyOf Tryz.f112) (bs0:=[]) Tryz.func112 (by kernel_rfl) (by kernel_rfl) ?_
 replace h:=sj h;subst h
 exact x_end 17 [(8,.fixb 10 ⟨true,6,(eSol true).f [a1,a2]⟩)] [] (ocons (boxSol true true [a1,a2]) onil) (ocons (len_row (L:=[a1,a2]) (eSol true)) onil) 
def Dimpl_convex_1(_n:Nat)(_zb:Bool)(_zm _zn _zo _zan:Int)(l503:List Pl)(rec1:(Int×Bool×Int×Int×Int×Int×List Sol)→Option Sol)(a:(Int×Bool×Int×Int×Int×Int×List Sol)):Option Sol :=
 match a with
 | (t7,zah,zai,zaj,zak,zal,zav)=>frk (decide (t7≥0)) ((lget l503 t7).bind fun v5=>(Dimpl_Leaf false).bind fun v6=>(Dimpl_nodeo1o2 v5 (Sol.mk zah (Pl.mk zai zaj zak zal) zav) v6).bind fun v7=>rec1 (w64 (t7-1),v7.inn,v7.pl.A,v7.pl.B,v7.pl.C,v7.pl.D,v7.kids)) (some (Sol.mk zah (Pl.mk zai zaj zak zal) zav))
theorem Timpl_convex_1{Y}(n:Nat)(zb:Bool)(zm zn zo zan:Int)(l503:List Pl):∀(m:Nat) (a:(Int×Bool×Int×Int×Int×Int×List Sol)) (r:Sol),loopN (Dimpl_convex_1 n zb zm zn zo zan l503) m a=some r→Wk Tryz.prog H Y 55 [.code (cp [1,1,1,1,0,1,0] (bodyOf Tryz.f55)),.blk 2,.code (cp [1,1,1,1,1] (bodyOf Tryz.f55))] (FinX Tryz.prog Tryz.f55 [] (eS r) []) ⟨[(2,.ptr 2 0),(3,.msl 503 l503.length),(6,.ptr 6 0),(7,i64 a.1)],[(2,⟨true,0,[bl zb,i64 zm,i64 zn,i64 zo,i64 zan,.nil]⟩),(6,⟨true,0,[bl a.2.1,i64 a.2.2.1,i64 a.2.2.2.1,i64 a.2.2.2.2.1,i64 a.2.2.2.2.2.1,.sl true 6 a.2.2.2.2.2.2.length ((eSol true).f a.2.2.2.2.2.2)]⟩),(503,⟨true,4,(ePl).f l503⟩)]⟩:=by
 refine loopN_ind (fun _rec1 hrec1 a r h=>?_)
 obtain⟨t7,zah,zai,zaj,zak,zal,zav⟩:=a
 unfold Dimpl_convex_1 at h
 refine x_frk 7 [] onil h (by kernel_rfl) (fun h=>?_) (fun h=>?_)
 ·obtain⟨v5,y5,h⟩:=bm h
  obtain⟨v6,y6,h⟩:=bm h
  obtain⟨v7,y7,h⟩:=bm h
  exact x_to 20 [(2,.unit),(0,.cells [i64 v5.A,i64 v5.B,i64 v5.C,i64 v5.D]),(1,.call [] [] (eS v6) []),(0,.call [] [] (eS v7) [])] (ocons (inr y5) (ocons (ldA ePl y5 0 4 rfl rfl) (ocons (Timpl_Leaf (Y:=Y) false _ y6) (ocons (Timpl_nodeo1o2 (Y:=Y) v5 (Sol.mk zah (Pl.mk zai zaj zak zal) zav) v6 _ y7) onil)))) (hrec1 (w64 (t7-1),v7.inn,v7.pl.A,v7.pl.B,v7.pl.C,v7.pl.D,v7.kids) r h) 
 ·replace h:=sj h;subst h
  exact x_end 6 [] [] onil onil 
def Dimpl_convex_0(n:Nat)(zb:Bool)(zm zn zo zan:Int)(l503:List Pl):Option Sol :=
 (Dimpl_Leaf true).bind fun v4=>loopN (Dimpl_convex_1 n zb zm zn zo zan l503) n (w64 ((l503.length:Int)-1),v4.inn,v4.pl.A,v4.pl.B,v4.pl.C,v4.pl.D,v4.kids)
theorem Timpl_convex_0{Y}(n:Nat)(zb:Bool)(zm zn zo zan:Int)(l503:List Pl)(r:Sol)(h:Dimpl_convex_0 n zb zm zn zo zan l503=some r):Wk Tryz.prog H Y 55 [.code (cp [1,1,1,0] (bodyOf Tryz.f55)),.code (cp [1,1,1,1] (bodyOf Tryz.f55))] (FinX Tryz.prog Tryz.f55 [] (eS r) []) ⟨[(2,.ptr 2 0),(3,.msl 503 l503.length)],[(2,⟨true,0,[bl zb,i64 zm,i64 zn,i64 zo,i64 zan,.nil]⟩),(503,⟨true,4,(ePl).f l503⟩)]⟩:=by
 unfold Dimpl_convex_0 at h
 obtain⟨v4,y4,h⟩:=bm h
 exact x_to 14 [(0,.call [] [] (eS v4) [])] (ocons (Timpl_Leaf (Y:=Y) true _ y4) onil) (Timpl_convex_1 n zb zm zn zo zan l503 n (w64 ((l503.length:Int)-1),v4.inn,v4.pl.A,v4.pl.B,v4.pl.C,v4.pl.D,v4.kids) r h) 
def Dimpl_convex_2(n:Nat)(t8:List Pl)(t9:Int)(zb:Bool)(zm zn zo zan:Int)(rec0:(Int×List Pl)→Option Sol)(a:(Int×List Pl)):Option Sol :=
 match a with
 | (t10,l503)=>frk (decide (t10<t9)) ((lget t8 t10).bind fun v0=>(Dimpl_flip v0).bind fun v1=>(Dimpl_room n l503 v1).bind fun v2=>frk v2 (chk (apB 32 (l503.length+1)) (rec0 (w64 (t10+1),(l503++[v0])))) (rec0 (w64 (t10+1),l503))) (Dimpl_convex_0 n zb zm zn zo zan l503)
theorem Timpl_convex_2{Y}(n:Nat)(t8:List Pl)(t9:Int)(zb:Bool)(zm zn zo zan:Int):∀(m:Nat) (a:(Int×List Pl)) (r:Sol),loopN (Dimpl_convex_2 n t8 t9 zb zm zn zo zan) m a=some r→Wk Tryz.prog H Y 55 [.code (cp [1,1,0,1,0] (bodyOf Tryz.f55)),.blk 0,.code (cp [1,1,1] (bodyOf Tryz.f55))] (FinX Tryz.prog Tryz.f55 [] (eS r) []) ⟨[(2,.ptr 2 0),(3,.msl 503 a.2.length),(8,.sl false 4 t8.length ((ePl).f t8)),(9,i64 t9),(10,i64 a.1)],[(2,⟨true,0,[bl zb,i64 zm,i64 zn,i64 zo,i64 zan,.nil]⟩),(503,⟨true,4,(ePl).f a.2⟩)]⟩:=by
 refine loopN_ind (fun _rec0 hrec0 a r h=>?_)
 obtain⟨t10,l503⟩:=a
 unfold Dimpl_convex_2 at h
 refine x_frk 6 [] onil h (by kernel_rfl) (fun h=>?_) (fun h=>?_)
 ·obtain⟨v0,y0,h⟩:=bm h
  obtain⟨v1,y1,h⟩:=bm h
  obtain⟨v2,y2,h⟩:=bm h
  refine x_frk 17 [(0,.val (.cptr (ePl.c v0++(ePl).f ((t8).drop (Int.toNat t10+1))))),(5,.call [] [] (.agg [i64 v1.A,i64 v1.B,i64 v1.C,i64 v1.D]) []),(0,.call [] [(ePl).f l503] (bl v2) [])] (ocons (ix ePl y0) (ocons (Timpl_flip (Y:=Y) v0 _ y1) (ocons (Timpl_room (Y:=Y) n l503 v1 _ y2) (ocons (len_row (L:=l503) ePl) (ocons (Enc.share ePl ePl sPl l503) onil))))) h (by kernel_rfl) (fun h=>?_) (fun h=>?_)
  ·obtain⟨c3,h⟩:=chk_some h
   exact x_to 14 [(3,.app false (List.length (l503++[v0])) ((ePl).f (l503++[v0]))),(3,.ren 21 503)] (ocons (len_row' (L:=l503) ePl) (ocons (app_one (L:=l503) (M:=[v0]) ePl c3) (ocons (app_new (L:=l503) (M:=[v0]) ePl) (ocons (app_m (L:=l503) (M:=[v0]) ePl rfl) (ocons (len_row' (L:=[v0]) ePl) (ocons (Enc.noOwn ePl (fun _=>rfl) [v0]) (ocons (show 21<1000∧503<1000 by decide) onil))))))) (hrec0 (w64 (t10+1),(l503++[v0])) r h) 
  ·exact x_to 7 [] onil (hrec0 (w64 (t10+1),l503) r h) 
 ·exact x_to 2 [] onil (Timpl_convex_0 n zb zm zn zo zan l503 r h) 
def Dimpl_convex(n:Nat)(a0:(List Pl)):Option Sol :=
 loopN (Dimpl_convex_2 n a0 (a0.length:Int) false 0 0 0 0) n (0,[])
theorem Timpl_convex{Y}(n:Nat)(a0:(List Pl))(r:Sol)(h:Dimpl_convex n a0=some r):Big Tryz.prog H Y (.call 55 [.sl false 4 a0.length ((ePl).f a0)] (lk []) (eS r) (lk [])):=by
 unfold Dimpl_convex at h
 refine x_call (fn:=Tryz.f55) (c:=bodyOf Tryz.f55) (bs0:=[]) Tryz.func55 (by kernel_rfl) (by kernel_rfl) ?_
 exact x_to 17 [(2,.virt 3 503 4)] (ocons (rflV .nil) (ocons (show 503<1000∧4≠0 by decide) onil)) (Timpl_convex_2 n a0 (a0.length:Int) false 0 0 0 0 n (0,[]) r h) 
def Dimpl_Convex_0(n:Nat)(t0:List Pl)(t4 _zb:Bool)(_zm _zn _zo _zan:Int):Option (Sol×Int) :=
 frk t4 (some ((Sol.mk false (Pl.mk 0 0 0 0) []),1)) ((Dimpl_open n t0).bind fun v1=>frk (!v1) (some ((Sol.mk false (Pl.mk 0 0 0 0) []),2)) ((Dimpl_convex n t0).bind fun v2=>some (v2,0)))
theorem Timpl_Convex_0{Y}(n:Nat)(t0:List Pl)(t4 zb:Bool)(zm zn zo zan:Int)(r:(Sol×Int))(h:Dimpl_Convex_0 n t0 t4 zb zm zn zo zan=some r):Wk Tryz.prog H Y 15 [.code (cp [1,0,0,1] (bodyOf Tryz.f15)),.blk 0,.code (cp [1,1] (bodyOf Tryz.f15))] (FinX Tryz.prog Tryz.f15 [] (.tup [eS r.1,i64 r.2]) []) ⟨[(0,.sl false 4 t0.length ((ePl).f t0)),(2,.ptr 2 0),(4,bl t4)],[(2,⟨true,0,[bl zb,i64 zm,i64 zn,i64 zo,i64 zan,.nil]⟩)]⟩:=by
 unfold Dimpl_Convex_0 at h
 refine x_frk 0 [] onil h (by kernel_rfl) (fun h=>?_) (fun h=>?_)
 ·replace h:=sj h;subst h
  exact x_end 6 [] [(true,6)] onil onil 
 ·obtain⟨v1,y1,h⟩:=bm h
  refine x_frk 7 [(1,.call [] [] (bl v1) [])] (ocons (Timpl_open (Y:=Y) n t0 _ y1) onil) h (by kernel_rfl) (fun h=>?_) (fun h=>?_)
  ·replace h:=sj h;subst h
   exact x_end 6 [] [(true,6)] onil onil 
  ·obtain⟨v2,y2,h⟩:=bm h
   replace h:=sj h;subst h
   exact x_end 9 [(1,.call [] [] (eS v2) [])] [] (ocons (Timpl_convex (Y:=Y) n t0 _ y2) onil) onil 
def Dimpl_Convex(n:Nat)(a0:(List Pl)):Option (Sol×Int) :=
 frk (decide ((a0.length:Int)>24)) (some ((Sol.mk false (Pl.mk 0 0 0 0) []),1)) ((Dimpl_planesOk n a0).bind fun v0=>Dimpl_Convex_0 n a0 (!v0) false 0 0 0 0)
theorem Timpl_Convex{Y}(n:Nat)(a0:(List Pl))(r:(Sol×Int))(h:Dimpl_Convex n a0=some r):Big Tryz.prog H Y (.call 15 [.sl false 4 a0.length ((ePl).f a0)] (lk []) (.tup [eS r.1,i64 r.2]) (lk [])):=by
 unfold Dimpl_Convex at h
 refine x_call (fn:=Tryz.f15) (c:=bodyOf Tryz.f15) (bs0:=[]) Tryz.func15 (by kernel_rfl) (by kernel_rfl) ?_
 refine x_frk 13 [] onil h (by kernel_rfl) (fun h=>?_) (fun h=>?_)
 ·replace h:=sj h;subst h
  exact x_end 13 [] [(true,6)] onil onil 
 ·obtain⟨v0,y0,h⟩:=bm h
  exact x_to 6 [(1,.call [] [] (bl v0) [])] (ocons (Timpl_planesOk (Y:=Y) n a0 _ y0) onil) (Timpl_Convex_0 n a0 (!v0) false 0 0 0 0 r h) 
def Dspec_l8Leaf(a0:Sol):Option Bool :=
 some ((a0.kids.length:Int)==0)
theorem Tspec_l8Leaf{Y}(a0:Sol)(r:Bool)(h:Dspec_l8Leaf a0=some r):Big Tryz.prog H Y (.call 88 [eF a0] (lk []) (bl r) (lk [])):=by
 unfold Dspec_l8Leaf at h
 refine x_call (fn:=Tryz.f88) (c:=bodyOf Tryz.f88) (bs0:=[]) Tryz.func88 (by kernel_rfl) (by kernel_rfl) ?_
 replace h:=sj h;subst h
 exact x_end 13 [] [] onil onil 
def Dspec_l8Count_1(_n:Nat)(self:(Sol×Int)→Option Int)(t1:Int)(_zb:Bool)(_zm _zn _zo _zan:Int)(zaw:List Sol)(rec0:(Int×Int)→Option Int)(a:(Int×Int)):Option Int :=
 match a with
 | (t5,t6)=>frk (decide (t6<(zaw.length:Int))) ((lget zaw t6).bind fun v1=>(self (v1,w64 (t1-t5))).bind fun v2=>rec0 (w64 (t5+v2),w64 (t6+1))) (some t5)
theorem Tspec_l8Count_1{Y}(n:Nat)(self:(Sol×Int)→Option Int)(hself:∀(a:(Sol×Int)) (r:Int),self a=some r→Big Tryz.prog H Y (.call 40 [eF a.1,i64 a.2] (lk []) (i64 r) (lk [])))(t1:Int)(zb:Bool)(zm zn zo zan:Int)(zaw:List Sol):∀(m:Nat) (a:(Int×Int)) (r:Int),loopN (Dspec_l8Count_1 n self t1 zb zm zn zo zan zaw) m a=some r→Wk Tryz.prog H Y 40 [.code (cp [1,1,1,0,1,0] (bodyOf Tryz.f40)),.blk 0,.code (cp [1,1,1,1] (bodyOf Tryz.f40))] (FinX Tryz.prog Tryz.f40 [] (i64 r) []) ⟨[(1,i64 t1),(2,.ptr 2 0),(5,i64 a.1),(6,i64 a.2)],[(2,⟨true,0,[bl zb,i64 zm,i64 zn,i64 zo,i64 zan,.sl false 6 zaw.length ((eSol false).f zaw)]⟩)]⟩:=by
 refine loopN_ind (fun _rec0 hrec0 a r h=>?_)
 obtain⟨t5,t6⟩:=a
 unfold Dspec_l8Count_1 at h
 refine x_frk 10 [] onil h (by kernel_rfl) (fun h=>?_) (fun h=>?_)
 ·obtain⟨v1,y1,h⟩:=bm h
  obtain⟨v2,y2,h⟩:=bm h
  exact x_to 24 [(4,.val (.cptr ((eSol false).c v1++(eSol false).f ((zaw).drop (Int.toNat t6+1))))),(4,.call [] [] (i64 v2) [])] (ocons (ix (eSol false) y1) (ocons (hself (v1,w64 (t1-t5)) _ y2) onil)) (hrec0 (w64 (t5+v2),w64 (t6+1)) r h) 
 ·replace h:=sj h;subst h
  exact x_end 6 [] [] onil onil 
def Dspec_l8Count_0(n:Nat)(self:(Sol×Int)→Option Int)(t1:Int)(t12 zb:Bool)(zm zn zo zan:Int)(zaw:List Sol):Option Int :=
 frk t12 (some 0) (loopN (Dspec_l8Count_1 n self t1 zb zm zn zo zan zaw) n (1,0))
theorem Tspec_l8Count_0{Y}(n:Nat)(self:(Sol×Int)→Option Int)(hself:∀(a:(Sol×Int)) (r:Int),self a=some r→Big Tryz.prog H Y (.call 40 [eF a.1,i64 a.2] (lk []) (i64 r) (lk [])))(t1:Int)(t12 zb:Bool)(zm zn zo zan:Int)(zaw:List Sol)(r:Int)(h:Dspec_l8Count_0 n self t1 t12 zb zm zn zo zan zaw=some r):Wk Tryz.prog H Y 40 [.code (cp [1,0,1] (bodyOf Tryz.f40)),.code (cp [1,1] (bodyOf Tryz.f40))] (FinX Tryz.prog Tryz.f40 [] (i64 r) []) ⟨[(1,i64 t1),(2,.ptr 2 0),(12,bl t12)],[(2,⟨true,0,[bl zb,i64 zm,i64 zn,i64 zo,i64 zan,.sl false 6 zaw.length ((eSol false).f zaw)]⟩)]⟩:=by
 unfold Dspec_l8Count_0 at h
 refine x_frk 0 [] onil h (by kernel_rfl) (fun h=>?_) (fun h=>?_)
 ·replace h:=sj h;subst h
  exact x_end 4 [] [] onil onil 
 ·exact x_to 11 [] onil (Tspec_l8Count_1 n self hself t1 zb zm zn zo zan zaw n (1,0) r h) 
def Dspec_l8Count_b(n:Nat)(self:(Sol×Int)→Option Int)(a:(Sol×Int)):Option Int :=
 match a with
 | (a0,a1)=>(Dspec_l8Leaf a0).bind fun v0=>frk v0 (some 0) (Dspec_l8Count_0 n self a1 (decide (a1≤0)) a0.inn a0.pl.A a0.pl.B a0.pl.C a0.pl.D a0.kids)
def Dspec_l8Count(n:Nat)(a0:Sol)(a1:Int):Option Int:=loopN (Dspec_l8Count_b n) n (a0,a1)
theorem Tspec_l8Count_b{Y}(n:Nat):∀(m:Nat) (a:(Sol×Int)) (r:Int),loopN (Dspec_l8Count_b n) m a=some r→∀(_:Unit),Big Tryz.prog H Y (.call 40 [eF a.1,i64 a.2] (lk []) (i64 r) (lk [])):=by
 refine loopN_ind (fun self hs a r h=>?_)
 have hself:∀(a:(Sol×Int)) (r:Int),self a=some r→Big Tryz.prog H Y (.call 40 [eF a.1,i64 a.2] (lk []) (i64 r) (lk [])):=fun a r h=>hs a r h ()
 intro _
 obtain⟨a0,a1⟩:=a
 unfold Dspec_l8Count_b at h
 refine x_call (fn:=Tryz.f40) (c:=bodyOf Tryz.f40) (bs0:=[]) Tryz.func40 (by kernel_rfl) (by kernel_rfl) ?_
 obtain⟨v0,y0,h⟩:=bm h
 refine x_frk 11 [(3,.call [] [] (bl v0) [])] (ocons (Tspec_l8Leaf (Y:=Y) a0 _ y0) onil) h (by kernel_rfl) (fun h=>?_) (fun h=>?_)
 ·replace h:=sj h;subst h
  exact x_end 9 [] [] onil onil 
 ·exact x_to 4 [] onil (Tspec_l8Count_0 n self hself a1 (decide (a1≤0)) a0.inn a0.pl.A a0.pl.B a0.pl.C a0.pl.D a0.kids r h) 
theorem Tspec_l8Count{Y}(n:Nat)(a0:Sol)(a1 r:Int)(h:Dspec_l8Count n a0 a1=some r):Big Tryz.prog H Y (.call 40 [eF a0,i64 a1] (lk []) (i64 r) (lk [])):=Tspec_l8Count_b n n (a0,a1) r h ()
def Dspec_l8Look_0(_n:Nat)(self:(Sol×(List Pl))→Option Bool)(t1:List Pl)(t42 _zb:Bool)(zm zn zo zan:Int)(zaw:List Sol):Option Bool :=
 frk t42 (some false) ((lget zaw 0).bind fun v5=>(Dspec_l8Path t1 (Pl.mk zm zn zo zan)).bind fun v6=>(self (v5,v6)).bind fun v7=>frk v7 ((lget zaw 1).bind fun v8=>(Dspec_l3Flip (Pl.mk zm zn zo zan)).bind fun v9=>(Dspec_l8Path t1 v9).bind fun v10=>(self (v8,v10)).bind fun v11=>some v11) (some false))
theorem Tspec_l8Look_0{Y}(n:Nat)(self:(Sol×(List Pl))→Option Bool)(hself:∀(a:(Sol×(List Pl))) (r:Bool),self a=some r→Big Tryz.prog H Y (.call 41 [eF a.1,.sl false 4 a.2.length ((ePl).f a.2)] (lk []) (bl r) (lk [])))(t1:List Pl)(t42 zb:Bool)(zm zn zo zan:Int)(zaw:List Sol)(r:Bool)(h:Dspec_l8Look_0 n self t1 t42 zb zm zn zo zan zaw=some r):Wk Tryz.prog H Y 41 [.code (cp [1,1,0,1] (bodyOf Tryz.f41)),.code (cp [1,1,1] (bodyOf Tryz.f41))] (FinX Tryz.prog Tryz.f41 [] (bl r) []) ⟨[(1,.sl false 4 t1.length ((ePl).f t1)),(2,.ptr 2 0),(42,bl t42)],[(2,⟨true,0,[bl zb,i64 zm,i64 zn,i64 zo,i64 zan,.sl false 6 zaw.length ((eSol false).f zaw)]⟩)]⟩:=by
 unfold Dspec_l8Look_0 at h
 refine x_frk 0 [] onil h (by kernel_rfl) (fun h=>?_) (fun h=>?_)
 ·replace h:=sj h;subst h
  exact x_end 4 [] [] onil onil 
 ·obtain⟨v5,y5,h⟩:=bm h
  obtain⟨v6,y6,h⟩:=bm h
  obtain⟨v7,y7,h⟩:=bm h
  refine x_frk 13 [(2,.val (.cptr ((eSol false).c v5++(eSol false).f ((zaw).drop (Int.toNat 0+1))))),(4,.call [] [] (.sl false 4 v6.length ((ePl).f v6)) []),(0,.call [] [] (bl v7) [])] (ocons (ix (eSol false) y5) (ocons (shSl (L:=v6) ePl ePl sPl (Tspec_l8Path (Y:=Y) t1 (Pl.mk zm zn zo zan) _ y6)) (ocons (hself (v5,v6) _ y7) onil))) h (by kernel_rfl) (fun h=>?_) (fun h=>?_)
  ·obtain⟨v8,y8,h⟩:=bm h
   obtain⟨v9,y9,h⟩:=bm h
   obtain⟨v10,y10,h⟩:=bm h
   obtain⟨v11,y11,h⟩:=bm h
   replace h:=sj h;subst h
   exact x_end 13 [(2,.val (.cptr ((eSol false).c v8++(eSol false).f ((zaw).drop (Int.toNat 1+1))))),(4,.call [] [] (.agg [i64 v9.A,i64 v9.B,i64 v9.C,i64 v9.D]) []),(0,.call [] [] (.sl false 4 v10.length ((ePl).f v10)) []),(0,.call [] [] (bl v11) [])] [] (ocons (ix (eSol false) y8) (ocons (Tspec_l3Flip (Y:=Y) (Pl.mk zm zn zo zan) _ y9) (ocons (shSl (L:=v10) ePl ePl sPl (Tspec_l8Path (Y:=Y) t1 v9 _ y10)) (ocons (hself (v8,v10) _ y11) onil)))) onil 
  ·replace h:=sj h;subst h
   exact x_end 13 [] [] onil onil 
def Dspec_l8Look_b(n:Nat)(self:(Sol×(List Pl))→Option Bool)(a:(Sol×(List Pl))):Option Bool :=
 match a with
 | (a0,a1)=>(Dspec_l8Leaf a0).bind fun v0=>frk v0 (some (a0.pl.A==0&&(a0.pl.B==0&&(a0.pl.C==0&&(a0.pl.D==0&&true))))) (frk ((a0.kids.length:Int) != 2) (some false) (frk a0.inn (some false) ((Dspec_PlaneOk n a0.pl).bind fun v1=>frk (!v1) (some false) (frk ((a1.length:Int)==24) (some false) ((Dspec_l6With n a1 a0.pl).bind fun v2=>frk v2 (some false) ((Dspec_l3Flip a0.pl).bind fun v3=>(Dspec_l6With n a1 v3).bind fun v4=>Dspec_l8Look_0 n self a1 v4 a0.inn a0.pl.A a0.pl.B a0.pl.C a0.pl.D a0.kids))))))
def Dspec_l8Look(n:Nat)(a0:Sol)(a1:(List Pl)):Option Bool:=loopN (Dspec_l8Look_b n) n (a0,a1)
theorem Tspec_l8Look_b{Y}(n:Nat):∀(m:Nat) (a:(Sol×(List Pl))) (r:Bool),loopN (Dspec_l8Look_b n) m a=some r→∀(_:Unit),Big Tryz.prog H Y (.call 41 [eF a.1,.sl false 4 a.2.length ((ePl).f a.2)] (lk []) (bl r) (lk [])):=by
 refine loopN_ind (fun self hs a r h=>?_)
 have hself:∀(a:(Sol×(List Pl))) (r:Bool),self a=some r→Big Tryz.prog H Y (.call 41 [eF a.1,.sl false 4 a.2.length ((ePl).f a.2)] (lk []) (bl r) (lk [])):=fun a r h=>hs a r h ()
 intro _
 obtain⟨a0,a1⟩:=a
 unfold Dspec_l8Look_b at h
 refine x_call (fn:=Tryz.f41) (c:=bodyOf Tryz.f41) (bs0:=[]) Tryz.func41 (by kernel_rfl) (by kernel_rfl) ?_
 obtain⟨v0,y0,h⟩:=bm h
 refine x_frk 11 [(3,.call [] [] (bl v0) [])] (ocons (Tspec_l8Leaf (Y:=Y) a0 _ y0) onil) h (by kernel_rfl) (fun h=>?_) (fun h=>?_)
 ·replace h:=sj h;subst h
  exact x_end 8 [] [] onil onil 
 ·refine x_frk 9 [] onil h (by kernel_rfl) (fun h=>?_) (fun h=>?_)
  ·replace h:=sj h;subst h
   exact x_end 33 [] [] onil onil 
  ·refine x_frk 4 [] onil h (by kernel_rfl) (fun h=>?_) (fun h=>?_)
   ·replace h:=sj h;subst h
    exact x_end 29 [] [] onil onil 
   ·obtain⟨v1,y1,h⟩:=bm h
    refine x_frk 6 [(2,.call [] [] (bl v1) [])] (ocons (Tspec_PlaneOk (Y:=Y) n a0.pl _ y1) onil) h (by kernel_rfl) (fun h=>?_) (fun h=>?_)
    ·replace h:=sj h;subst h
     exact x_end 23 [] [] onil onil 
    ·refine x_frk 5 [] onil h (by kernel_rfl) (fun h=>?_) (fun h=>?_)
     ·replace h:=sj h;subst h
      exact x_end 18 [] [] onil onil 
     ·obtain⟨v2,y2,h⟩:=bm h
      refine x_frk 6 [(3,.call [] [] (bl v2) [])] (ocons (Tspec_l6With (Y:=Y) n a1 a0.pl _ y2) onil) h (by kernel_rfl) (fun h=>?_) (fun h=>?_)
      ·replace h:=sj h;subst h
       exact x_end 12 [] [] onil onil 
      ·obtain⟨v3,y3,h⟩:=bm h
       obtain⟨v4,y4,h⟩:=bm h
       exact x_to 7 [(3,.call [] [] (.agg [i64 v3.A,i64 v3.B,i64 v3.C,i64 v3.D]) []),(0,.call [] [] (bl v4) [])] (ocons (Tspec_l3Flip (Y:=Y) a0.pl _ y3) (ocons (Tspec_l6With (Y:=Y) n a1 v3 _ y4) onil)) (Tspec_l8Look_0 n self hself a1 v4 a0.inn a0.pl.A a0.pl.B a0.pl.C a0.pl.D a0.kids r h) 
theorem Tspec_l8Look{Y}(n:Nat)(a0:Sol)(a1:(List Pl))(r:Bool)(h:Dspec_l8Look n a0 a1=some r):Big Tryz.prog H Y (.call 41 [eF a0,.sl false 4 a1.length ((ePl).f a1)] (lk []) (bl r) (lk [])):=Tspec_l8Look_b n n (a0,a1) r h ()
def Dspec_SolidOk(n:Nat)(a0:Sol):Option Bool :=
 (Dspec_l8Count n a0 301).bind fun v0=>frk (decide (v0≤300)) ((Dspec_l8Look n a0 []).bind fun v1=>some v1) (some false)
theorem Tspec_SolidOk{Y}(n:Nat)(a0:Sol)(r:Bool)(h:Dspec_SolidOk n a0=some r):Big Tryz.prog H Y (.call 10 [eF a0] (lk []) (bl r) (lk [])):=by
 unfold Dspec_SolidOk at h
 refine x_call (fn:=Tryz.f10) (c:=bodyOf Tryz.f10) (bs0:=[]) Tryz.func10 (by kernel_rfl) (by kernel_rfl) ?_
 obtain⟨v0,y0,h⟩:=bm h
 refine x_frk 11 [(3,.call [] [] (i64 v0) [])] (ocons (Tspec_l8Count (Y:=Y) n a0 301 _ y0) onil) h (by kernel_rfl) (fun h=>?_) (fun h=>?_)
 ·obtain⟨v1,y1,h⟩:=bm h
  replace h:=sj h;subst h
  exact x_end 6 [(2,.call [] [(ePl).f []] (bl v1) [])] [] (ocons (Tspec_l8Look (Y:=Y) n a0 [] _ y1) (ocons (len_row (L:=[]) ePl) (ocons (Enc.share ePl ePl sPl []) onil))) onil 
 ·replace h:=sj h;subst h
  exact x_end 6 [] [] onil onil 
def Dspec_l8Cells_b(_n:Nat)(self:(Sol×Bool×(List Pl))→Option (List (List Pl)))(a:(Sol×Bool×(List Pl))):Option (List (List Pl)) :=
 match a with
 | (a0,a1,a2)=>(Dspec_l8Leaf a0).bind fun v0=>frk v0 (frk (a0.inn==a1) (chk (apB 32 (0+a2.length)) (some [([]++a2)])) (some [])) ((lget a0.kids 0).bind fun v2=>(Dspec_l8Path a2 a0.pl).bind fun v3=>(self (v2,a1,v3)).bind fun v4=>(lget a0.kids 1).bind fun v5=>(Dspec_l3Flip a0.pl).bind fun v6=>(Dspec_l8Path a2 v6).bind fun v7=>(self (v5,a1,v7)).bind fun v8=>chk (apB 24 (v4.length+v8.length)) (some (v4++v8)))
def Dspec_l8Cells(n:Nat)(a0:Sol)(a1:Bool)(a2:(List Pl)):Option (List (List Pl)):=loopN (Dspec_l8Cells_b n) n (a0,a1,a2)
theorem Tspec_l8Cells_b{Y}(n:Nat):∀(m:Nat) (a:(Sol×Bool×(List Pl))) (r:(List (List Pl))),loopN (Dspec_l8Cells_b n) m a=some r→∀(_:Unit),Big Tryz.prog H Y (.call 113 [eF a.1,bl a.2.1,.sl false 4 a.2.2.length ((ePl).f a.2.2)] (lk []) (.sl true 1 r.length ((ePls true).f r)) (lk [])):=by
 refine loopN_ind (fun self hs a r h=>?_)
 have hself:∀(a:(Sol×Bool×(List Pl))) (r:(List (List Pl))),self a=some r→Big Tryz.prog H Y (.call 113 [eF a.1,bl a.2.1,.sl false 4 a.2.2.length ((ePl).f a.2.2)] (lk []) (.sl true 1 r.length ((ePls true).f r)) (lk [])):=fun a r h=>hs a r h ()
 intro _
 obtain⟨a0,a1,a2⟩:=a
 unfold Dspec_l8Cells_b at h
 refine x_call (fn:=Tryz.f113) (c:=bodyOf Tryz.f113) (bs0:=[]) Tryz.func113 (by kernel_rfl) (by kernel_rfl) ?_
 obtain⟨v0,y0,h⟩:=bm h
 refine x_frk 11 [(3,.call [] [] (bl v0) [])] (ocons (Tspec_l8Leaf (Y:=Y) a0 _ y0) onil) h (by kernel_rfl) (fun h=>?_) (fun h=>?_)
 ·refine x_frk 8 [] onil h (by kernel_rfl) (fun h=>?_) (fun h=>?_)
  ·obtain⟨c1,h⟩:=chk_some h
   replace h:=sj h;subst h
   exact x_end 8 [(2,.app false (List.length ([]++a2)) ((ePl).f ([]++a2)))] [] (ocons (len_row' (L:=[]) ePl) (ocons (app_one (L:=[]) (M:=a2) ePl c1) (ocons (app_new (L:=[]) (M:=a2) ePl) (ocons (app_m (L:=[]) (M:=a2) ePl rfl) (ocons (len_row' (L:=a2) ePl) (ocons (len_row (L:=([]++a2)) ePl) onil)))))) (ocons (len_row (L:=[([]++a2)]) (ePls true)) onil) 
  ·replace h:=sj h;subst h
   exact x_end 6 [] [] onil (ocons (len_row (L:=[]) (ePls true)) onil) 
 ·obtain⟨v2,y2,h⟩:=bm h
  obtain⟨v3,y3,h⟩:=bm h
  obtain⟨v4,y4,h⟩:=bm h
  obtain⟨v5,y5,h⟩:=bm h
  obtain⟨v6,y6,h⟩:=bm h
  obtain⟨v7,y7,h⟩:=bm h
  obtain⟨v8,y8,h⟩:=bm h
  obtain⟨c9,h⟩:=chk_some h
  replace h:=sj h;subst h
  exact x_end 32 [(2,.val (.cptr ((eSol false).c v2++(eSol false).f ((a0.kids).drop (Int.toNat 0+1))))),(5,.call [] [] (.sl false 4 v3.length ((ePl).f v3)) []),(0,.call [] [] (.sl true 1 v4.length ((ePls true).f v4)) []),(4,.val (.cptr ((eSol false).c v5++(eSol false).f ((a0.kids).drop (Int.toNat 1+1))))),(5,.call [] [] (.agg [i64 v6.A,i64 v6.B,i64 v6.C,i64 v6.D]) []),(0,.call [] [] (.sl false 4 v7.length ((ePl).f v7)) []),(0,.call [] [] (.sl true 1 v8.length ((ePls true).f v8)) []),(0,.app true (List.length (v4++v8)) ((ePls true).f (v4++v8)))] [] (ocons (ix (eSol false) y2) (ocons (shSl (L:=v3) ePl ePl sPl (Tspec_l8Path (Y:=Y) a2 a0.pl _ y3)) (ocons (hself (v2,a1,v3) _ y4) (ocons (ix (eSol false) y5) (ocons (Tspec_l3Flip (Y:=Y) a0.pl _ y6) (ocons (shSl (L:=v7) ePl ePl sPl (Tspec_l8Path (Y:=Y) a2 v6 _ y7)) (ocons (hself (v5,a1,v7) _ y8) (ocons (len_row' (L:=v4) (ePls true)) (ocons (app_one (L:=v4) (M:=v8) (ePls true) c9) (ocons (app_new (L:=v4) (M:=v8) (ePls true)) (ocons (app_m (L:=v4) (M:=v8) (ePls true) rfl) (ocons (len_row' (L:=v8) (ePls true)) onil)))))))))))) (ocons (len_row (L:=(v4++v8)) (ePls true)) onil) 
theorem Tspec_l8Cells{Y}(n:Nat)(a0:Sol)(a1:Bool)(a2:(List Pl))(r:(List (List Pl)))(h:Dspec_l8Cells n a0 a1 a2=some r):Big Tryz.prog H Y (.call 113 [eF a0,bl a1,.sl false 4 a2.length ((ePl).f a2)] (lk []) (.sl true 1 r.length ((ePls true).f r)) (lk [])):=Tspec_l8Cells_b n n (a0,a1,a2) r h ()
def Dspec_Cells(n:Nat)(a0:Sol)(a1:Bool):Option (List (List Pl)) :=
 (Dspec_SolidOk n a0).bind fun v0=>frk (!v0) (some []) ((Dspec_l8Cells n a0 a1 []).bind fun v1=>some v1)
theorem Tspec_Cells{Y}(n:Nat)(a0:Sol)(a1:Bool)(r:(List (List Pl)))(h:Dspec_Cells n a0 a1=some r):Big Tryz.prog H Y (.call 56 [eF a0,bl a1] (lk []) (.sl true 1 r.length ((ePls true).f r)) (lk [])):=by
 unfold Dspec_Cells at h
 refine x_call (fn:=Tryz.f56) (c:=bodyOf Tryz.f56) (bs0:=[]) Tryz.func56 (by kernel_rfl) (by kernel_rfl) ?_
 obtain⟨v0,y0,h⟩:=bm h
 refine x_frk 12 [(3,.call [] [] (bl v0) [])] (ocons (Tspec_SolidOk (Y:=Y) n a0 _ y0) onil) h (by kernel_rfl) (fun h=>?_) (fun h=>?_)
 ·replace h:=sj h;subst h
  exact x_end 5 [] [] onil (ocons (len_row (L:=[]) (ePls true)) onil) 
 ·obtain⟨v1,y1,h⟩:=bm h
  replace h:=sj h;subst h
  exact x_end 9 [(3,.call [] [(ePl).f []] (.sl true 1 v1.length ((ePls true).f v1)) [])] [] (ocons (Tspec_l8Cells (Y:=Y) n a0 a1 [] _ y1) (ocons (len_row (L:=[]) ePl) (ocons (Enc.share ePl ePl sPl []) (ocons (show hasSh (.sl true 1 v1.length ((ePls true).f v1))=false by simp[hasSh,hasShL,nSh,nShI,nShB,nShP,nShT,nShN,nShPs]) onil)))) (ocons (len_row (L:=v1) (ePls true)) onil) 
def Dspec_l3CmpInt(a0 a1:Int):Option Int :=
 frk (decide (a0<a1)) (some (-1)) (frk (decide (a0>a1)) (some 1) (some 0))
theorem Tspec_l3CmpInt{Y}(a0 a1 r:Int)(h:Dspec_l3CmpInt a0 a1=some r):Big Tryz.prog H Y (.call 176 [i64 a0,i64 a1] (lk []) (i64 r) (lk [])):=by
 unfold Dspec_l3CmpInt at h
 refine x_call (fn:=Tryz.f176) (c:=bodyOf Tryz.f176) (bs0:=[]) Tryz.func176 (by kernel_rfl) (by kernel_rfl) ?_
 refine x_frk 13 [] onil h (by kernel_rfl) (fun h=>?_) (fun h=>?_)
 ·replace h:=sj h;subst h
  exact x_end 4 [] [] onil onil 
 ·refine x_frk 7 [] onil h (by kernel_rfl) (fun h=>?_) (fun h=>?_)
  ·replace h:=sj h;subst h
   exact x_end 4 [] [] onil onil 
  ·replace h:=sj h;subst h
   exact x_end 6 [] [] onil onil 
def Dspec_CmpPlane(_n:Nat)(a0:Pl)(a1:Pl):Option Int :=
 frk (a0.A != a1.A) ((Dspec_l3CmpInt a0.A a1.A).bind fun v0=>some v0) (frk (a0.B != a1.B) ((Dspec_l3CmpInt a0.B a1.B).bind fun v1=>some v1) (frk (a0.C != a1.C) ((Dspec_l3CmpInt a0.C a1.C).bind fun v2=>some v2) (frk (a0.D != a1.D) ((Dspec_l3CmpInt a0.D a1.D).bind fun v3=>some v3) (some 0))))
theorem Tspec_CmpPlane{Y}(n:Nat)(a0:Pl)(a1:Pl)(r:Int)(h:Dspec_CmpPlane n a0 a1=some r):Big Tryz.prog H Y (.call 149 [.agg [i64 a0.A,i64 a0.B,i64 a0.C,i64 a0.D],.agg [i64 a1.A,i64 a1.B,i64 a1.C,i64 a1.D]] (lk []) (i64 r) (lk [])):=by
 unfold Dspec_CmpPlane at h
 refine x_call (fn:=Tryz.f149) (c:=bodyOf Tryz.f149) (bs0:=[]) Tryz.func149 (by kernel_rfl) (by kernel_rfl) ?_
 refine x_frk 61 [] onil h (by kernel_rfl) (fun h=>?_) (fun h=>?_)
 ·obtain⟨v0,y0,h⟩:=bm h
  replace h:=sj h;subst h
  exact x_end 13 [(8,.call [] [] (i64 v0) [])] [] (ocons (Tspec_l3CmpInt (Y:=Y) a0.A a1.A _ y0) onil) onil 
 ·refine x_frk 31 [] onil h (by kernel_rfl) (fun h=>?_) (fun h=>?_)
  ·obtain⟨v1,y1,h⟩:=bm h
   replace h:=sj h;subst h
   exact x_end 13 [(8,.call [] [] (i64 v1) [])] [] (ocons (Tspec_l3CmpInt (Y:=Y) a0.B a1.B _ y1) onil) onil 
  ·refine x_frk 31 [] onil h (by kernel_rfl) (fun h=>?_) (fun h=>?_)
   ·obtain⟨v2,y2,h⟩:=bm h
    replace h:=sj h;subst h
    exact x_end 13 [(8,.call [] [] (i64 v2) [])] [] (ocons (Tspec_l3CmpInt (Y:=Y) a0.C a1.C _ y2) onil) onil 
   ·refine x_frk 31 [] onil h (by kernel_rfl) (fun h=>?_) (fun h=>?_)
    ·obtain⟨v3,y3,h⟩:=bm h
     replace h:=sj h;subst h
     exact x_end 13 [(8,.call [] [] (i64 v3) [])] [] (ocons (Tspec_l3CmpInt (Y:=Y) a0.D a1.D _ y3) onil) onil 
    ·replace h:=sj h;subst h
     exact x_end 21 [] [] onil onil 
def Dspec_l8Planeso1_3(_n:Nat)(self:(Sol×(List Pl))→Option (List Pl))(t6:Int)(_zb:Bool)(_zm _zn _zo _zan:Int)(zaw:List Sol)(zx zy zz zaa:Int)(l701:List Pl):Option (List Pl) :=
 (lsl l701 0 t6).bind fun v6=>chk (apB 32 (0+v6.length)) (chk (apB 32 (([]++v6).length+1)) ((lsl l701 t6 (l701.length:Int)).bind fun v9=>chk (apB 32 ((([]++v6)++[(Pl.mk zx zy zz zaa)]).length+v9.length)) ((lget zaw 1).bind fun v11=>(lget zaw 0).bind fun v12=>(self (v12,((([]++v6)++[(Pl.mk zx zy zz zaa)])++v9))).bind fun v13=>(self (v11,v13)).bind fun v14=>some v14)))
theorem Tspec_l8Planeso1_3{Y}(n:Nat)(self:(Sol×(List Pl))→Option (List Pl))(hself:∀(a:(Sol×(List Pl))) (r:(List Pl)),self a=some r→Big Tryz.prog H Y (.call 114 [eF a.1,.sl true 4 a.2.length ((ePl).f a.2)] (lk []) (.sl true 4 r.length ((ePl).f r)) (lk [])))(t6:Int)(zb:Bool)(zm zn zo zan:Int)(zaw:List Sol)(zx zy zz zaa:Int)(l701:List Pl)(r:(List Pl))(h:Dspec_l8Planeso1_3 n self t6 zb zm zn zo zan zaw zx zy zz zaa l701=some r):Wk Tryz.prog H Y 114 [.code (cp [1,1,1,1,1,1,0,1,0,0] (bodyOf Tryz.f114)),.code (cp [1,1,1,1,1,1,0,1,0,1] (bodyOf Tryz.f114)),.code (cp [1,1,1,1,1,1,1] (bodyOf Tryz.f114))] (FinX Tryz.prog Tryz.f114 [] (.sl true 4 r.length ((ePl).f r)) []) ⟨[(1,.msl 701 l701.length),(2,.ptr 2 0),(5,.ptr 5 0),(6,i64 t6)],[(2,⟨true,0,[bl zb,i64 zm,i64 zn,i64 zo,i64 zan,.sl false 6 zaw.length ((eSol false).f zaw)]⟩),(5,⟨true,0,[i64 zx,i64 zy,i64 zz,i64 zaa]⟩),(701,⟨false,4,(ePl).f l701⟩)]⟩:=by
 unfold Dspec_l8Planeso1_3 at h
 obtain⟨v6,y6,h⟩:=bm h
 obtain⟨c7,h⟩:=chk_some h
 obtain⟨c8,h⟩:=chk_some h
 obtain⟨v9,y9,h⟩:=bm h
 obtain⟨c10,h⟩:=chk_some h
 obtain⟨v11,y11,h⟩:=bm h
 obtain⟨v12,y12,h⟩:=bm h
 obtain⟨v13,y13,h⟩:=bm h
 obtain⟨v14,y14,h⟩:=bm h
 replace h:=sj h;subst h
 exact x_end 34 [(3,.val (.sl false 4 v6.length ((ePl).f v6))),(0,.app false (List.length ([]++v6)) ((ePl).f ([]++v6))),(2,.app false (List.length (([]++v6)++[(Pl.mk zx zy zz zaa)])) ((ePl).f (([]++v6)++[(Pl.mk zx zy zz zaa)]))),(4,.val (.sl false 4 v9.length ((ePl).f v9))),(0,.app false (List.length ((([]++v6)++[(Pl.mk zx zy zz zaa)])++v9)) ((ePl).f ((([]++v6)++[(Pl.mk zx zy zz zaa)])++v9))),(3,.val (.cptr ((eSol false).c v11++(eSol false).f ((zaw).drop (Int.toNat 1+1))))),(3,.val (.cptr ((eSol false).c v12++(eSol false).f ((zaw).drop (Int.toNat 0+1))))),(2,.call [] [] (.sl true 4 v13.length ((ePl).f v13)) []),(0,.call [] [] (.sl true 4 v14.length ((ePl).f v14)) [])] [] (ocons (slM ePl ePl sPl y6) (ocons (len_row' (L:=[]) ePl) (ocons (app_one (L:=[]) (M:=v6) ePl c7) (ocons (app_new (L:=[]) (M:=v6) ePl) (ocons (app_m (L:=[]) (M:=v6) ePl rfl) (ocons (len_row' (L:=v6) ePl) (ocons (len_row' (L:=([]++v6)) ePl) (ocons (app_one (L:=([]++v6)) (M:=[(Pl.mk zx zy zz zaa)]) ePl c8) (ocons (app_new (L:=([]++v6)) (M:=[(Pl.mk zx zy zz zaa)]) ePl) (ocons (app_m (L:=([]++v6)) (M:=[(Pl.mk zx zy zz zaa)]) ePl rfl) (ocons (len_row' (L:=[(Pl.mk zx zy zz zaa)]) ePl) (ocons (Enc.noOwn ePl (fun _=>rfl) [(Pl.mk zx zy zz zaa)]) (ocons (slM ePl ePl sPl y9) (ocons (len_row' (L:=(([]++v6)++[(Pl.mk zx zy zz zaa)])) ePl) (ocons (app_one (L:=(([]++v6)++[(Pl.mk zx zy zz zaa)])) (M:=v9) ePl c10) (ocons (app_new (L:=(([]++v6)++[(Pl.mk zx zy zz zaa)])) (M:=v9) ePl) (ocons (app_m (L:=(([]++v6)++[(Pl.mk zx zy zz zaa)])) (M:=v9) ePl rfl) (ocons (len_row' (L:=v9) ePl) (ocons (ix (eSol false) y11) (ocons (ix (eSol false) y12) (ocons (hself (v12,((([]++v6)++[(Pl.mk zx zy zz zaa)])++v9)) _ y13) (ocons (len_row (L:=((([]++v6)++[(Pl.mk zx zy zz zaa)])++v9)) ePl) (ocons (hself (v11,v13) _ y14) (ocons (len_row (L:=v13) ePl) onil)))))))))))))))))))))))) (ocons (len_row (L:=v14) ePl) onil) 
def Dspec_l8Planeso1_5(_n:Nat)(self:(Sol×(List Pl))→Option (List Pl))(_zb:Bool)(_zm _zn _zo _zan:Int)(zaw:List Sol)(l59:List Pl):Option (List Pl) :=
 (lget zaw 1).bind fun v21=>(lget zaw 0).bind fun v22=>(self (v22,l59)).bind fun v23=>(self (v21,v23)).bind fun v24=>some v24
theorem Tspec_l8Planeso1_5{Y}(n:Nat)(self:(Sol×(List Pl))→Option (List Pl))(hself:∀(a:(Sol×(List Pl))) (r:(List Pl)),self a=some r→Big Tryz.prog H Y (.call 114 [eF a.1,.sl true 4 a.2.length ((ePl).f a.2)] (lk []) (.sl true 4 r.length ((ePl).f r)) (lk [])))(zb:Bool)(zm zn zo zan:Int)(zaw:List Sol)(l59:List Pl)(r:(List Pl))(h:Dspec_l8Planeso1_5 n self zb zm zn zo zan zaw l59=some r):Wk Tryz.prog H Y 114 [.code (cp [1,1,1,1,1,1,1,0] (bodyOf Tryz.f114)),.code (cp [1,1,1,1,1,1,1,1] (bodyOf Tryz.f114))] (FinX Tryz.prog Tryz.f114 [] (.sl true 4 r.length ((ePl).f r)) []) ⟨[(1,.msl 59 l59.length),(2,.ptr 2 0)],[(2,⟨true,0,[bl zb,i64 zm,i64 zn,i64 zo,i64 zan,.sl false 6 zaw.length ((eSol false).f zaw)]⟩),(59,⟨true,4,(ePl).f l59⟩)]⟩:=by
 unfold Dspec_l8Planeso1_5 at h
 obtain⟨v21,y21,h⟩:=bm h
 obtain⟨v22,y22,h⟩:=bm h
 obtain⟨v23,y23,h⟩:=bm h
 obtain⟨v24,y24,h⟩:=bm h
 replace h:=sj h;subst h
 exact x_end 14 [(2,.val (.cptr ((eSol false).c v21++(eSol false).f ((zaw).drop (Int.toNat 1+1))))),(3,.val (.cptr ((eSol false).c v22++(eSol false).f ((zaw).drop (Int.toNat 0+1))))),(2,.call [] [] (.sl true 4 v23.length ((ePl).f v23)) []),(0,.call [] [] (.sl true 4 v24.length ((ePl).f v24)) [])] [] (ocons (ix (eSol false) y21) (ocons (ix (eSol false) y22) (ocons (hself (v22,l59) _ y23) (ocons (len_row (L:=l59) ePl) (ocons (hself (v21,v23) _ y24) (ocons (len_row (L:=v23) ePl) onil)))))) (ocons (len_row (L:=v24) ePl) onil) 
def Dspec_l8Planeso1_6(_n:Nat)(self:(Sol×(List Pl))→Option (List Pl))(_zb:Bool)(_zm _zn _zo _zan:Int)(zaw:List Sol)(l701:List Pl):Option (List Pl) :=
 (lget zaw 1).bind fun v25=>(lget zaw 0).bind fun v26=>(self (v26,l701)).bind fun v27=>(self (v25,v27)).bind fun v28=>some v28
theorem Tspec_l8Planeso1_6{Y}(n:Nat)(self:(Sol×(List Pl))→Option (List Pl))(hself:∀(a:(Sol×(List Pl))) (r:(List Pl)),self a=some r→Big Tryz.prog H Y (.call 114 [eF a.1,.sl true 4 a.2.length ((ePl).f a.2)] (lk []) (.sl true 4 r.length ((ePl).f r)) (lk [])))(zb:Bool)(zm zn zo zan:Int)(zaw:List Sol)(l701:List Pl)(r:(List Pl))(h:Dspec_l8Planeso1_6 n self zb zm zn zo zan zaw l701=some r):Wk Tryz.prog H Y 114 [.code (cp [1,1,1,1,1,1,1,0] (bodyOf Tryz.f114)),.code (cp [1,1,1,1,1,1,1,1] (bodyOf Tryz.f114))] (FinX Tryz.prog Tryz.f114 [] (.sl true 4 r.length ((ePl).f r)) []) ⟨[(1,.msl 701 l701.length),(2,.ptr 2 0)],[(2,⟨true,0,[bl zb,i64 zm,i64 zn,i64 zo,i64 zan,.sl false 6 zaw.length ((eSol false).f zaw)]⟩),(701,⟨false,4,(ePl).f l701⟩)]⟩:=by
 unfold Dspec_l8Planeso1_6 at h
 obtain⟨v25,y25,h⟩:=bm h
 obtain⟨v26,y26,h⟩:=bm h
 obtain⟨v27,y27,h⟩:=bm h
 obtain⟨v28,y28,h⟩:=bm h
 replace h:=sj h;subst h
 exact x_end 14 [(2,.val (.cptr ((eSol false).c v25++(eSol false).f ((zaw).drop (Int.toNat 1+1))))),(3,.val (.cptr ((eSol false).c v26++(eSol false).f ((zaw).drop (Int.toNat 0+1))))),(2,.call [] [] (.sl true 4 v27.length ((ePl).f v27)) []),(0,.call [] [] (.sl true 4 v28.length ((ePl).f v28)) [])] [] (ocons (ix (eSol false) y25) (ocons (ix (eSol false) y26) (ocons (hself (v26,l701) _ y27) (ocons (len_row (L:=l701) ePl) (ocons (hself (v25,v27) _ y28) (ocons (len_row (L:=v27) ePl) onil)))))) (ocons (len_row (L:=v28) ePl) onil) 
def Dspec_l8Planeso1_4(n:Nat)(self:(Sol×(List Pl))→Option (List Pl))(t6:Int)(t46 zb:Bool)(zm zn zo zan:Int)(zaw:List Sol)(zx zy zz zaa:Int)(l701:List Pl):Option (List Pl) :=
 frk t46 ((lsl l701 0 t6).bind fun v16=>chk (apB 32 (0+v16.length)) (chk (apB 32 (([]++v16).length+1)) ((lsl l701 t6 (l701.length:Int)).bind fun v19=>chk (apB 32 ((([]++v16)++[(Pl.mk zx zy zz zaa)]).length+v19.length)) (Dspec_l8Planeso1_5 n self zb zm zn zo zan zaw ((([]++v16)++[(Pl.mk zx zy zz zaa)])++v19))))) (Dspec_l8Planeso1_6 n self zb zm zn zo zan zaw l701)
theorem Tspec_l8Planeso1_4{Y}(n:Nat)(self:(Sol×(List Pl))→Option (List Pl))(hself:∀(a:(Sol×(List Pl))) (r:(List Pl)),self a=some r→Big Tryz.prog H Y (.call 114 [eF a.1,.sl true 4 a.2.length ((ePl).f a.2)] (lk []) (.sl true 4 r.length ((ePl).f r)) (lk [])))(t6:Int)(t46 zb:Bool)(zm zn zo zan:Int)(zaw:List Sol)(zx zy zz zaa:Int)(l701:List Pl)(r:(List Pl))(h:Dspec_l8Planeso1_4 n self t6 t46 zb zm zn zo zan zaw zx zy zz zaa l701=some r):Wk Tryz.prog H Y 114 [.code (cp [1,1,1,1,1,1,0,1] (bodyOf Tryz.f114)),.code (cp [1,1,1,1,1,1,1] (bodyOf Tryz.f114))] (FinX Tryz.prog Tryz.f114 [] (.sl true 4 r.length ((ePl).f r)) []) ⟨[(1,.msl 701 l701.length),(2,.ptr 2 0),(5,.ptr 5 0),(6,i64 t6),(46,bl t46)],[(2,⟨true,0,[bl zb,i64 zm,i64 zn,i64 zo,i64 zan,.sl false 6 zaw.length ((eSol false).f zaw)]⟩),(5,⟨true,0,[i64 zx,i64 zy,i64 zz,i64 zaa]⟩),(701,⟨false,4,(ePl).f l701⟩)]⟩:=by
 unfold Dspec_l8Planeso1_4 at h
 refine x_frk 0 [] onil h (by kernel_rfl) (fun h=>?_) (fun h=>?_)
 ·obtain⟨v16,y16,h⟩:=bm h
  obtain⟨c17,h⟩:=chk_some h
  obtain⟨c18,h⟩:=chk_some h
  obtain⟨v19,y19,h⟩:=bm h
  obtain⟨c20,h⟩:=chk_some h
  exact x_to 21 [(3,.val (.sl false 4 v16.length ((ePl).f v16))),(0,.app false (List.length ([]++v16)) ((ePl).f ([]++v16))),(2,.app false (List.length (([]++v16)++[(Pl.mk zx zy zz zaa)])) ((ePl).f (([]++v16)++[(Pl.mk zx zy zz zaa)]))),(4,.val (.sl false 4 v19.length ((ePl).f v19))),(0,.app false (List.length ((([]++v16)++[(Pl.mk zx zy zz zaa)])++v19)) ((ePl).f ((([]++v16)++[(Pl.mk zx zy zz zaa)])++v19)))] (ocons (slM ePl ePl sPl y16) (ocons (len_row' (L:=[]) ePl) (ocons (app_one (L:=[]) (M:=v16) ePl c17) (ocons (app_new (L:=[]) (M:=v16) ePl) (ocons (app_m (L:=[]) (M:=v16) ePl rfl) (ocons (len_row' (L:=v16) ePl) (ocons (len_row' (L:=([]++v16)) ePl) (ocons (app_one (L:=([]++v16)) (M:=[(Pl.mk zx zy zz zaa)]) ePl c18) (ocons (app_new (L:=([]++v16)) (M:=[(Pl.mk zx zy zz zaa)]) ePl) (ocons (app_m (L:=([]++v16)) (M:=[(Pl.mk zx zy zz zaa)]) ePl rfl) (ocons (len_row' (L:=[(Pl.mk zx zy zz zaa)]) ePl) (ocons (Enc.noOwn ePl (fun _=>rfl) [(Pl.mk zx zy zz zaa)]) (ocons (slM ePl ePl sPl y19) (ocons (len_row' (L:=(([]++v16)++[(Pl.mk zx zy zz zaa)])) ePl) (ocons (app_one (L:=(([]++v16)++[(Pl.mk zx zy zz zaa)])) (M:=v19) ePl c20) (ocons (app_new (L:=(([]++v16)++[(Pl.mk zx zy zz zaa)])) (M:=v19) ePl) (ocons (app_m (L:=(([]++v16)++[(Pl.mk zx zy zz zaa)])) (M:=v19) ePl rfl) (ocons (len_row' (L:=v19) ePl) onil)))))))))))))))))) (Tspec_l8Planeso1_5 n self hself zb zm zn zo zan zaw ((([]++v16)++[(Pl.mk zx zy zz zaa)])++v19) r h) 
 ·exact x_to 2 [] onil (Tspec_l8Planeso1_6 n self hself zb zm zn zo zan zaw l701 r h) 
def Dspec_l8Planeso1_2(n:Nat)(self:(Sol×(List Pl))→Option (List Pl))(t6:Int)(zb:Bool)(zm zn zo zan:Int)(zaw:List Sol)(zx zy zz zaa:Int)(l701:List Pl):Option (List Pl) :=
 frk (t6==0) (Dspec_l8Planeso1_3 n self t6 zb zm zn zo zan zaw zx zy zz zaa l701) ((lget l701 (w64 (t6-1))).bind fun v15=>Dspec_l8Planeso1_4 n self t6 (!(v15.A==zx&&(v15.B==zy&&(v15.C==zz&&(v15.D==zaa&&true))))) zb zm zn zo zan zaw zx zy zz zaa l701)
theorem Tspec_l8Planeso1_2{Y}(n:Nat)(self:(Sol×(List Pl))→Option (List Pl))(hself:∀(a:(Sol×(List Pl))) (r:(List Pl)),self a=some r→Big Tryz.prog H Y (.call 114 [eF a.1,.sl true 4 a.2.length ((ePl).f a.2)] (lk []) (.sl true 4 r.length ((ePl).f r)) (lk [])))(t6:Int)(zb:Bool)(zm zn zo zan:Int)(zaw:List Sol)(zx zy zz zaa:Int)(l701:List Pl)(r:(List Pl))(h:Dspec_l8Planeso1_2 n self t6 zb zm zn zo zan zaw zx zy zz zaa l701=some r):Wk Tryz.prog H Y 114 [.code (cp [1,1,1,1,1,1,0,0] (bodyOf Tryz.f114)),.code (cp [1,1,1,1,1,1,0,1] (bodyOf Tryz.f114)),.code (cp [1,1,1,1,1,1,1] (bodyOf Tryz.f114))] (FinX Tryz.prog Tryz.f114 [] (.sl true 4 r.length ((ePl).f r)) []) ⟨[(1,.msl 701 l701.length),(2,.ptr 2 0),(5,.ptr 5 0),(6,i64 t6)],[(2,⟨true,0,[bl zb,i64 zm,i64 zn,i64 zo,i64 zan,.sl false 6 zaw.length ((eSol false).f zaw)]⟩),(5,⟨true,0,[i64 zx,i64 zy,i64 zz,i64 zaa]⟩),(701,⟨false,4,(ePl).f l701⟩)]⟩:=by
 unfold Dspec_l8Planeso1_2 at h
 refine x_frk 4 [] onil h (by kernel_rfl) (fun h=>?_) (fun h=>?_)
 ·exact x_to 11 [] onil (Tspec_l8Planeso1_3 n self hself t6 zb zm zn zo zan zaw zx zy zz zaa l701 r h) 
 ·obtain⟨v15,y15,h⟩:=bm h
  exact x_to 9 [(3,.unit),(0,.cells [i64 v15.A,i64 v15.B,i64 v15.C,i64 v15.D])] (ocons (inr y15) (ocons (ldA ePl y15 0 4 rfl rfl) onil)) (Tspec_l8Planeso1_4 n self hself t6 (!(v15.A==zx&&(v15.B==zy&&(v15.C==zz&&(v15.D==zaa&&true))))) zb zm zn zo zan zaw zx zy zz zaa l701 r h) 
def Dspec_l8Planeso1_1(n:Nat)(self:(Sol×(List Pl))→Option (List Pl))(rec0:(Int×List Pl)→Option (List Pl))(zb:Bool)(zm zn zo zan:Int)(zaw:List Sol)(zx zy zz zaa t6:Int)(t33:Bool)(l701:List Pl):Option (List Pl) :=
 frk t33 (rec0 (w64 (t6-1),l701)) (Dspec_l8Planeso1_2 n self t6 zb zm zn zo zan zaw zx zy zz zaa l701)
theorem Tspec_l8Planeso1_1{Y}(n:Nat)(self:(Sol×(List Pl))→Option (List Pl))(rec0:(Int×List Pl)→Option (List Pl))(zb:Bool)(zm zn zo zan:Int)(zaw:List Sol)(zx zy zz zaa:Int)(hself:∀(a:(Sol×(List Pl))) (r:(List Pl)),self a=some r→Big Tryz.prog H Y (.call 114 [eF a.1,.sl true 4 a.2.length ((ePl).f a.2)] (lk []) (.sl true 4 r.length ((ePl).f r)) (lk [])))(hrec0:∀(a:(Int×List Pl)) (r:(List Pl)),rec0 a=some r→Wk Tryz.prog H Y 114 [.code (cp [1,1,1,1,1,0,0] (bodyOf Tryz.f114)),.blk 0,.code (cp [1,1,1,1,1,1] (bodyOf Tryz.f114))] (FinX Tryz.prog Tryz.f114 [] (.sl true 4 r.length ((ePl).f r)) []) ⟨[(1,.msl 701 a.2.length),(2,.ptr 2 0),(5,.ptr 5 0),(6,i64 a.1)],[(2,⟨true,0,[bl zb,i64 zm,i64 zn,i64 zo,i64 zan,.sl false 6 zaw.length ((eSol false).f zaw)]⟩),(5,⟨true,0,[i64 zx,i64 zy,i64 zz,i64 zaa]⟩),(701,⟨false,4,(ePl).f a.2⟩)]⟩)(t6:Int)(t33:Bool)(l701:List Pl)(r:(List Pl))(h:Dspec_l8Planeso1_1 n self rec0 zb zm zn zo zan zaw zx zy zz zaa t6 t33 l701=some r):Wk Tryz.prog H Y 114 [.code (cp [1,1,1,1,1,0,0,0,0,1] (bodyOf Tryz.f114)),.code (cp [1,1,1,1,1,0,0,0,1] (bodyOf Tryz.f114)),.lp (cp [1,1,1,1,1,0,0] (bodyOf Tryz.f114)),.blk 0,.code (cp [1,1,1,1,1,1] (bodyOf Tryz.f114))] (FinX Tryz.prog Tryz.f114 [] (.sl true 4 r.length ((ePl).f r)) []) ⟨[(1,.msl 701 l701.length),(2,.ptr 2 0),(5,.ptr 5 0),(6,i64 t6),(33,bl t33)],[(2,⟨true,0,[bl zb,i64 zm,i64 zn,i64 zo,i64 zan,.sl false 6 zaw.length ((eSol false).f zaw)]⟩),(5,⟨true,0,[i64 zx,i64 zy,i64 zz,i64 zaa]⟩),(701,⟨false,4,(ePl).f l701⟩)]⟩:=by
 unfold Dspec_l8Planeso1_1 at h
 refine x_frk 0 [] onil h (by kernel_rfl) (fun h=>?_) (fun h=>?_)
 ·exact x_to 9 [] onil (hrec0 (w64 (t6-1),l701) r h) 
 ·exact x_to 3 [] onil (Tspec_l8Planeso1_2 n self hself t6 zb zm zn zo zan zaw zx zy zz zaa l701 r h) 
def Dspec_l8Planeso1_7(n:Nat)(self:(Sol×(List Pl))→Option (List Pl))(zb:Bool)(zm zn zo zan:Int)(zaw:List Sol)(zx zy zz zaa:Int)(rec0:(Int×List Pl)→Option (List Pl))(a:(Int×List Pl)):Option (List Pl) :=
 match a with
 | (t6,l701)=>frk (decide (t6>0)) ((lget l701 (w64 (t6-1))).bind fun v4=>(Dspec_CmpPlane n v4 (Pl.mk zx zy zz zaa)).bind fun v5=>Dspec_l8Planeso1_1 n self rec0 zb zm zn zo zan zaw zx zy zz zaa t6 (decide (v5>0)) l701) (Dspec_l8Planeso1_2 n self t6 zb zm zn zo zan zaw zx zy zz zaa l701)
theorem Tspec_l8Planeso1_7{Y}(n:Nat)(self:(Sol×(List Pl))→Option (List Pl))(hself:∀(a:(Sol×(List Pl))) (r:(List Pl)),self a=some r→Big Tryz.prog H Y (.call 114 [eF a.1,.sl true 4 a.2.length ((ePl).f a.2)] (lk []) (.sl true 4 r.length ((ePl).f r)) (lk [])))(zb:Bool)(zm zn zo zan:Int)(zaw:List Sol)(zx zy zz zaa:Int):∀(m:Nat) (a:(Int×List Pl)) (r:(List Pl)),loopN (Dspec_l8Planeso1_7 n self zb zm zn zo zan zaw zx zy zz zaa) m a=some r→Wk Tryz.prog H Y 114 [.code (cp [1,1,1,1,1,0,0] (bodyOf Tryz.f114)),.blk 0,.code (cp [1,1,1,1,1,1] (bodyOf Tryz.f114))] (FinX Tryz.prog Tryz.f114 [] (.sl true 4 r.length ((ePl).f r)) []) ⟨[(1,.msl 701 a.2.length),(2,.ptr 2 0),(5,.ptr 5 0),(6,i64 a.1)],[(2,⟨true,0,[bl zb,i64 zm,i64 zn,i64 zo,i64 zan,.sl false 6 zaw.length ((eSol false).f zaw)]⟩),(5,⟨true,0,[i64 zx,i64 zy,i64 zz,i64 zaa]⟩),(701,⟨false,4,(ePl).f a.2⟩)]⟩:=by
 refine loopN_ind (fun rec0 hrec0 a r h=>?_)
 obtain⟨t6,l701⟩:=a
 unfold Dspec_l8Planeso1_7 at h
 refine x_frk 7 [] onil h (by kernel_rfl) (fun h=>?_) (fun h=>?_)
 ·obtain⟨v4,y4,h⟩:=bm h
  obtain⟨v5,y5,h⟩:=bm h
  exact x_to 10 [(3,.unit),(0,.cells [i64 v4.A,i64 v4.B,i64 v4.C,i64 v4.D]),(1,.call [] [] (i64 v5) [])] (ocons (inr y4) (ocons (ldA ePl y4 0 4 rfl rfl) (ocons (Tspec_CmpPlane (Y:=Y) n v4 (Pl.mk zx zy zz zaa) _ y5) onil))) (Tspec_l8Planeso1_1 n self rec0 zb zm zn zo zan zaw zx zy zz zaa hself hrec0 t6 (decide (v5>0)) l701 r h) 
 ·exact x_to 14 [] onil (Tspec_l8Planeso1_2 n self hself t6 zb zm zn zo zan zaw zx zy zz zaa l701 r h) 
def Dspec_l8Planeso1_0(n:Nat)(self:(Sol×(List Pl))→Option (List Pl))(t6:Int)(zb:Bool)(zm zn zo zan:Int)(zaw:List Sol)(zx zy zz zaa:Int)(l701:List Pl):Option (List Pl) :=
 loopN (Dspec_l8Planeso1_7 n self zb zm zn zo zan zaw zx zy zz zaa) n (t6,l701)
theorem Tspec_l8Planeso1_0{Y}(n:Nat)(self:(Sol×(List Pl))→Option (List Pl))(hself:∀(a:(Sol×(List Pl))) (r:(List Pl)),self a=some r→Big Tryz.prog H Y (.call 114 [eF a.1,.sl true 4 a.2.length ((ePl).f a.2)] (lk []) (.sl true 4 r.length ((ePl).f r)) (lk [])))(t6:Int)(zb:Bool)(zm zn zo zan:Int)(zaw:List Sol)(zx zy zz zaa:Int)(l701:List Pl)(r:(List Pl))(h:Dspec_l8Planeso1_0 n self t6 zb zm zn zo zan zaw zx zy zz zaa l701=some r):Wk Tryz.prog H Y 114 [.code (cp [1,1,1,1,1,0,0] (bodyOf Tryz.f114)),.blk 0,.code (cp [1,1,1,1,1,1] (bodyOf Tryz.f114))] (FinX Tryz.prog Tryz.f114 [] (.sl true 4 r.length ((ePl).f r)) []) ⟨[(1,.msl 701 l701.length),(2,.ptr 2 0),(5,.ptr 5 0),(6,i64 t6)],[(2,⟨true,0,[bl zb,i64 zm,i64 zn,i64 zo,i64 zan,.sl false 6 zaw.length ((eSol false).f zaw)]⟩),(5,⟨true,0,[i64 zx,i64 zy,i64 zz,i64 zaa]⟩),(701,⟨false,4,(ePl).f l701⟩)]⟩:=by
 unfold Dspec_l8Planeso1_0 at h
 exact x_to 0 [] onil (Tspec_l8Planeso1_7 n self hself zb zm zn zo zan zaw zx zy zz zaa n (t6,l701) r h) 
def Dspec_l8Planeso1_b(n:Nat)(self:(Sol×(List Pl))→Option (List Pl))(a:(Sol×(List Pl))):Option (List Pl) :=
 match a with
 | (a0,a1)=>(Dspec_l8Leaf a0).bind fun v0=>frk v0 (some a1) ((Dspec_l3Flip a0.pl).bind fun v1=>(Dspec_CmpPlane n a0.pl v1).bind fun v2=>frk (decide (v2<0)) ((Dspec_l3Flip a0.pl).bind fun v3=>Dspec_l8Planeso1_0 n self (a1.length:Int) a0.inn a0.pl.A a0.pl.B a0.pl.C a0.pl.D a0.kids v3.A v3.B v3.C v3.D a1) (Dspec_l8Planeso1_0 n self (a1.length:Int) a0.inn a0.pl.A a0.pl.B a0.pl.C a0.pl.D a0.kids a0.pl.A a0.pl.B a0.pl.C a0.pl.D a1))
def Dspec_l8Planeso1(n:Nat)(a0:Sol)(a1:(List Pl)):Option (List Pl):=loopN (Dspec_l8Planeso1_b n) n (a0,a1)
theorem Tspec_l8Planeso1_b{Y}(n:Nat):∀(m:Nat) (a:(Sol×(List Pl))) (r:(List Pl)),loopN (Dspec_l8Planeso1_b n) m a=some r→∀(_:Unit),Big Tryz.prog H Y (.call 114 [eF a.1,.sl true 4 a.2.length ((ePl).f a.2)] (lk []) (.sl true 4 r.length ((ePl).f r)) (lk [])):=by
 refine loopN_ind (fun self hs a r h=>?_)
 have hself:∀(a:(Sol×(List Pl))) (r:(List Pl)),self a=some r→Big Tryz.prog H Y (.call 114 [eF a.1,.sl true 4 a.2.length ((ePl).f a.2)] (lk []) (.sl true 4 r.length ((ePl).f r)) (lk [])):=fun a r h=>hs a r h ()
 intro _
 obtain⟨a0,a1⟩:=a
 unfold Dspec_l8Planeso1_b at h
 refine x_call (fn:=Tryz.f114) (c:=bodyOf Tryz.f114) (bs0:=[]) Tryz.func114 (by kernel_rfl) (by kernel_rfl) ?_
 obtain⟨v0,y0,h⟩:=bm h
 refine x_frk 12 [(0,.adopt 1 701 a1.length 4 ((ePl).f a1)),(3,.call [] [] (bl v0) [])] (ocons (rflV (.sl true 4 a1.length ((ePl).f a1))) (ocons (show 701<1000∧4≠0 by decide) (ocons (Tspec_l8Leaf (Y:=Y) a0 _ y0) onil))) h (by kernel_rfl) (fun h=>?_) (fun h=>?_)
 ·replace h:=sj h;subst h
  exact x_end 5 [] [] onil (ocons (len_row (L:=a1) ePl) onil) 
 ·obtain⟨v1,y1,h⟩:=bm h
  obtain⟨v2,y2,h⟩:=bm h
  refine x_frk 17 [(6,.call [] [] (.agg [i64 v1.A,i64 v1.B,i64 v1.C,i64 v1.D]) []),(0,.call [] [] (i64 v2) [])] (ocons (Tspec_l3Flip (Y:=Y) a0.pl _ y1) (ocons (Tspec_CmpPlane (Y:=Y) n a0.pl v1 _ y2) onil)) h (by kernel_rfl) (fun h=>?_) (fun h=>?_)
  ·obtain⟨v3,y3,h⟩:=bm h
   exact x_to 13 [(1,.call [] [] (.agg [i64 v3.A,i64 v3.B,i64 v3.C,i64 v3.D]) [])] (ocons (Tspec_l3Flip (Y:=Y) a0.pl _ y3) onil) (Tspec_l8Planeso1_0 n self hself (a1.length:Int) a0.inn a0.pl.A a0.pl.B a0.pl.C a0.pl.D a0.kids v3.A v3.B v3.C v3.D a1 r h) 
  ·exact x_to 9 [] onil (Tspec_l8Planeso1_0 n self hself (a1.length:Int) a0.inn a0.pl.A a0.pl.B a0.pl.C a0.pl.D a0.kids a0.pl.A a0.pl.B a0.pl.C a0.pl.D a1 r h) 
theorem Tspec_l8Planeso1{Y}(n:Nat)(a0:Sol)(a1:(List Pl))(r:(List Pl))(h:Dspec_l8Planeso1 n a0 a1=some r):Big Tryz.prog H Y (.call 114 [eF a0,.sl true 4 a1.length ((ePl).f a1)] (lk []) (.sl true 4 r.length ((ePl).f r)) (lk [])):=Tspec_l8Planeso1_b n n (a0,a1) r h ()
def Dspec_PlanesOf(n:Nat)(a0:Sol):Option (List Pl) :=
 (Dspec_SolidOk n a0).bind fun v0=>frk (!v0) (some []) ((Dspec_l8Planeso1 n a0 []).bind fun v1=>some v1)
theorem Tspec_PlanesOf{Y}(n:Nat)(a0:Sol)(r:(List Pl))(h:Dspec_PlanesOf n a0=some r):Big Tryz.prog H Y (.call 57 [eF a0] (lk []) (.sl true 4 r.length ((ePl).f r)) (lk [])):=by
 unfold Dspec_PlanesOf at h
 refine x_call (fn:=Tryz.f57) (c:=bodyOf Tryz.f57) (bs0:=[]) Tryz.func57 (by kernel_rfl) (by kernel_rfl) ?_
 obtain⟨v0,y0,h⟩:=bm h
 refine x_frk 12 [(3,.call [] [] (bl v0) [])] (ocons (Tspec_SolidOk (Y:=Y) n a0 _ y0) onil) h (by kernel_rfl) (fun h=>?_) (fun h=>?_)
 ·replace h:=sj h;subst h
  exact x_end 5 [] [] onil (ocons (len_row (L:=[]) ePl) onil) 
 ·obtain⟨v1,y1,h⟩:=bm h
  replace h:=sj h;subst h
  exact x_end 8 [(2,.call [] [] (.sl true 4 v1.length ((ePl).f v1)) [])] [] (ocons (Tspec_l8Planeso1 (Y:=Y) n a0 [] _ y1) (ocons (len_row (L:=[]) ePl) onil)) (ocons (len_row (L:=v1) ePl) onil) 
def Dspec_l13Among_0(_n:Nat)(t0:List Pl)(ze zf zs zt:Int)(rec0:Int→Option Bool)(a:Int):Option Bool :=
 match a with
 | t5=>frk (decide (t5<(t0.length:Int))) ((lget t0 t5).bind fun v0=>frk (v0.A==ze&&(v0.B==zf&&(v0.C==zs&&(v0.D==zt&&true)))) (some true) (rec0 (w64 (t5+1)))) (some false)
theorem Tspec_l13Among_0{Y}(n:Nat)(t0:List Pl)(ze zf zs zt:Int):∀(m:Nat) (a:Int) (r:Bool),loopN (Dspec_l13Among_0 n t0 ze zf zs zt) m a=some r→Wk Tryz.prog H Y 115 [.code (cp [1,0,1,0] (bodyOf Tryz.f115)),.blk 0,.code (cp [1,1] (bodyOf Tryz.f115))] (FinX Tryz.prog Tryz.f115 [] (bl r) []) ⟨[(0,.sl false 4 t0.length ((ePl).f t0)),(3,.ptr 3 0),(5,i64 a)],[(3,⟨true,0,[i64 ze,i64 zf,i64 zs,i64 zt]⟩)]⟩:=by
 refine loopN_ind (fun _rec0 hrec0 a r h=>?_)
 obtain⟨t5,rfl⟩:∃x,x=a:=⟨a,rfl⟩
 unfold Dspec_l13Among_0 at h
 refine x_frk 9 [] onil h (by kernel_rfl) (fun h=>?_) (fun h=>?_)
 ·obtain⟨v0,y0,h⟩:=bm h
  refine x_frk 12 [(2,.val (.cptr (ePl.c v0++(ePl).f ((t0).drop (Int.toNat t5+1)))))] (ocons (ix ePl y0) onil) h (by kernel_rfl) (fun h=>?_) (fun h=>?_)
  ·replace h:=sj h;subst h
   exact x_end 4 [] [] onil onil 
  ·exact x_to 8 [] onil (hrec0 (w64 (t5+1)) r h) 
 ·replace h:=sj h;subst h
  exact x_end 5 [] [] onil onil 
def Dspec_l13Among(n:Nat)(a0:(List Pl))(a1:Pl):Option Bool :=
 loopN (Dspec_l13Among_0 n a0 a1.A a1.B a1.C a1.D) n 0
theorem Tspec_l13Among{Y}(n:Nat)(a0:(List Pl))(a1:Pl)(r:Bool)(h:Dspec_l13Among n a0 a1=some r):Big Tryz.prog H Y (.call 115 [.sl false 4 a0.length ((ePl).f a0),.agg [i64 a1.A,i64 a1.B,i64 a1.C,i64 a1.D]] (lk []) (bl r) (lk [])):=by
 unfold Dspec_l13Among at h
 refine x_call (fn:=Tryz.f115) (c:=bodyOf Tryz.f115) (bs0:=[]) Tryz.func115 (by kernel_rfl) (by kernel_rfl) ?_
 exact x_to 11 [] onil (Tspec_l13Among_0 n a0 a1.A a1.B a1.C a1.D n 0 r h) 
def Dspec_l13Rest_0(_n:Nat)(rec0:(Int×List Pl)→Option (List Pl))(t0:List Pl)(_ze _zf _zs _zt t6:Int)(t28:Bool)(l7:List Pl):Option (List Pl) :=
 frk t28 ((lget t0 t6).bind fun v3=>chk (apB 32 (l7.length+1)) (rec0 (w64 (t6+1),(l7++[v3])))) (rec0 (w64 (t6+1),l7))
theorem Tspec_l13Rest_0{Y}(n:Nat)(rec0:(Int×List Pl)→Option (List Pl))(t0:List Pl)(ze zf zs zt:Int)(hrec0:∀(a:(Int×List Pl)) (r:(List Pl)),rec0 a=some r→Wk Tryz.prog H Y 116 [.code (cp [1,1,0,1,0] (bodyOf Tryz.f116)),.blk 0,.code (cp [1,1,1] (bodyOf Tryz.f116))] (FinX Tryz.prog Tryz.f116 [] (.sl true 4 r.length ((ePl).f r)) []) ⟨[(0,.sl false 4 t0.length ((ePl).f t0)),(3,.ptr 3 0),(5,.msl 7 a.2.length),(6,i64 a.1)],[(3,⟨true,0,[i64 ze,i64 zf,i64 zs,i64 zt]⟩),(7,⟨true,4,(ePl).f a.2⟩)]⟩)(t6:Int)(t28:Bool)(l7:List Pl)(r:(List Pl))(h:Dspec_l13Rest_0 n rec0 t0 ze zf zs zt t6 t28 l7=some r):Wk Tryz.prog H Y 116 [.code (cp [1,1,0,1,0,0,1,0,0,1] (bodyOf Tryz.f116)),.blk 1,.code (cp [1,1,0,1,0,0,1,1] (bodyOf Tryz.f116)),.lp (cp [1,1,0,1,0] (bodyOf Tryz.f116)),.blk 0,.code (cp [1,1,1] (bodyOf Tryz.f116))] (FinX Tryz.prog Tryz.f116 [] (.sl true 4 r.length ((ePl).f r)) []) ⟨[(0,.sl false 4 t0.length ((ePl).f t0)),(3,.ptr 3 0),(5,.msl 7 l7.length),(6,i64 t6),(28,bl t28)],[(3,⟨true,0,[i64 ze,i64 zf,i64 zs,i64 zt]⟩),(7,⟨true,4,(ePl).f l7⟩)]⟩:=by
 unfold Dspec_l13Rest_0 at h
 refine x_frk 0 [] onil h (by kernel_rfl) (fun h=>?_) (fun h=>?_)
 ·obtain⟨v3,y3,h⟩:=bm h
  obtain⟨c4,h⟩:=chk_some h
  exact x_to 18 [(3,.val (.cptr (ePl.c v3++(ePl).f ((t0).drop (Int.toNat t6+1))))),(2,.app false (List.length (l7++[v3])) ((ePl).f (l7++[v3]))),(4,.ren 35 7)] (ocons (ix ePl y3) (ocons (len_row' (L:=l7) ePl) (ocons (app_one (L:=l7) (M:=[v3]) ePl c4) (ocons (app_new (L:=l7) (M:=[v3]) ePl) (ocons (app_m (L:=l7) (M:=[v3]) ePl rfl) (ocons (len_row' (L:=[v3]) ePl) (ocons (Enc.noOwn ePl (fun _=>rfl) [v3]) (ocons (show 35<1000∧7<1000 by decide) onil)))))))) (hrec0 (w64 (t6+1),(l7++[v3])) r h) 
 ·exact x_to 8 [] onil (hrec0 (w64 (t6+1),l7) r h) 
def Dspec_l13Rest_1(n:Nat)(t0:List Pl)(ze zf zs zt:Int)(rec0:(Int×List Pl)→Option (List Pl))(a:(Int×List Pl)):Option (List Pl) :=
 match a with
 | (t6,l7)=>frk (decide (t6<(t0.length:Int))) ((lget t0 t6).bind fun v0=>frk (!(v0.A==ze&&(v0.B==zf&&(v0.C==zs&&(v0.D==zt&&true))))) ((lget t0 t6).bind fun v1=>(Dspec_l3Flip (Pl.mk ze zf zs zt)).bind fun v2=>Dspec_l13Rest_0 n rec0 t0 ze zf zs zt t6 (!(v1.A==v2.A&&(v1.B==v2.B&&(v1.C==v2.C&&(v1.D==v2.D&&true))))) l7) (rec0 (w64 (t6+1),l7))) (some l7)
theorem Tspec_l13Rest_1{Y}(n:Nat)(t0:List Pl)(ze zf zs zt:Int):∀(m:Nat) (a:(Int×List Pl)) (r:(List Pl)),loopN (Dspec_l13Rest_1 n t0 ze zf zs zt) m a=some r→Wk Tryz.prog H Y 116 [.code (cp [1,1,0,1,0] (bodyOf Tryz.f116)),.blk 0,.code (cp [1,1,1] (bodyOf Tryz.f116))] (FinX Tryz.prog Tryz.f116 [] (.sl true 4 r.length ((ePl).f r)) []) ⟨[(0,.sl false 4 t0.length ((ePl).f t0)),(3,.ptr 3 0),(5,.msl 7 a.2.length),(6,i64 a.1)],[(3,⟨true,0,[i64 ze,i64 zf,i64 zs,i64 zt]⟩),(7,⟨true,4,(ePl).f a.2⟩)]⟩:=by
 refine loopN_ind (fun rec0 hrec0 a r h=>?_)
 obtain⟨t6,l7⟩:=a
 unfold Dspec_l13Rest_1 at h
 refine x_frk 9 [] onil h (by kernel_rfl) (fun h=>?_) (fun h=>?_)
 ·obtain⟨v0,y0,h⟩:=bm h
  refine x_frk 12 [(2,.val (.cptr (ePl.c v0++(ePl).f ((t0).drop (Int.toNat t6+1)))))] (ocons (ix ePl y0) onil) h (by kernel_rfl) (fun h=>?_) (fun h=>?_)
  ·obtain⟨v1,y1,h⟩:=bm h
   obtain⟨v2,y2,h⟩:=bm h
   exact x_to 9 [(2,.val (.cptr (ePl.c v1++(ePl).f ((t0).drop (Int.toNat t6+1))))),(2,.call [] [] (.agg [i64 v2.A,i64 v2.B,i64 v2.C,i64 v2.D]) [])] (ocons (ix ePl y1) (ocons (Tspec_l3Flip (Y:=Y) (Pl.mk ze zf zs zt) _ y2) onil)) (Tspec_l13Rest_0 n rec0 t0 ze zf zs zt hrec0 t6 (!(v1.A==v2.A&&(v1.B==v2.B&&(v1.C==v2.C&&(v1.D==v2.D&&true))))) l7 r h) 
  ·exact x_to 18 [] onil (hrec0 (w64 (t6+1),l7) r h) 
 ·replace h:=sj h;subst h
  exact x_end 6 [] [] onil (ocons (len_row (L:=l7) ePl) onil) 
def Dspec_l13Rest(n:Nat)(a0:(List Pl))(a1:Pl):Option (List Pl) :=
 loopN (Dspec_l13Rest_1 n a0 a1.A a1.B a1.C a1.D) n (0,[])
theorem Tspec_l13Rest{Y}(n:Nat)(a0:(List Pl))(a1:Pl)(r:(List Pl))(h:Dspec_l13Rest n a0 a1=some r):Big Tryz.prog H Y (.call 116 [.sl false 4 a0.length ((ePl).f a0),.agg [i64 a1.A,i64 a1.B,i64 a1.C,i64 a1.D]] (lk []) (.sl true 4 r.length ((ePl).f r)) (lk [])):=by
 unfold Dspec_l13Rest at h
 refine x_call (fn:=Tryz.f116) (c:=bodyOf Tryz.f116) (bs0:=[]) Tryz.func116 (by kernel_rfl) (by kernel_rfl) ?_
 exact x_to 16 [] onil (Tspec_l13Rest_1 n a0 a1.A a1.B a1.C a1.D n (0,[]) r h) 
def Dspec_l13Meet_0(n:Nat)(t0:List Pl)(t1:List Pl)(zx zy zz zaa:Int):Option Bool :=
 (Dspec_l13Rest n t0 (Pl.mk zx zy zz zaa)).bind fun v3=>(Dspec_l13Rest n t1 (Pl.mk zx zy zz zaa)).bind fun v4=>chk (apB 32 (v3.length+v4.length)) ((Dspec_l6Open n (v3++v4)).bind fun v6=>frk v6 ((Dspec_l6With n (v3++v4) (Pl.mk zx zy zz zaa)).bind fun v7=>frk (!v7) ((Dspec_l3Flip (Pl.mk zx zy zz zaa)).bind fun v8=>(Dspec_l6With n (v3++v4) v8).bind fun v9=>some (!v9)) (some false)) (some false))
theorem Tspec_l13Meet_0{Y}(n:Nat)(t0:List Pl)(t1:List Pl)(zx zy zz zaa:Int)(r:Bool)(h:Dspec_l13Meet_0 n t0 t1 zx zy zz zaa=some r):Wk Tryz.prog H Y 58 [.code (cp [1,1,0] (bodyOf Tryz.f58)),.code (cp [1,1,1] (bodyOf Tryz.f58))] (FinX Tryz.prog Tryz.f58 [] (bl r) []) ⟨[(0,.sl false 4 t0.length ((ePl).f t0)),(1,.sl false 4 t1.length ((ePl).f t1)),(5,.ptr 5 0)],[(5,⟨true,0,[i64 zx,i64 zy,i64 zz,i64 zaa]⟩)]⟩:=by
 unfold Dspec_l13Meet_0 at h
 obtain⟨v3,y3,h⟩:=bm h
 obtain⟨v4,y4,h⟩:=bm h
 obtain⟨c5,h⟩:=chk_some h
 obtain⟨v6,y6,h⟩:=bm h
 refine x_frk 15 [(2,.call [] [] (.sl true 4 v3.length ((ePl).f v3)) []),(2,.call [] [] (.sl false 4 v4.length ((ePl).f v4)) []),(0,.app false (List.length (v3++v4)) ((ePl).f (v3++v4))),(2,.call [] [(ePl).f (v3++v4)] (bl v6) [])] (ocons (Tspec_l13Rest (Y:=Y) n t0 (Pl.mk zx zy zz zaa) _ y3) (ocons (shSl (L:=v4) ePl ePl sPl (Tspec_l13Rest (Y:=Y) n t1 (Pl.mk zx zy zz zaa) _ y4)) (ocons (len_row' (L:=v3) ePl) (ocons (app_one (L:=v3) (M:=v4) ePl c5) (ocons (app_new (L:=v3) (M:=v4) ePl) (ocons (app_m (L:=v3) (M:=v4) ePl rfl) (ocons (len_row' (L:=v4) ePl) (ocons (Tspec_l6Open (Y:=Y) n (v3++v4) _ y6) (ocons (len_row (L:=(v3++v4)) ePl) (ocons (Enc.share ePl ePl sPl (v3++v4)) onil)))))))))) h (by kernel_rfl) (fun h=>?_) (fun h=>?_)
 ·obtain⟨v7,y7,h⟩:=bm h
  refine x_frk 6 [(2,.call [] [(ePl).f (v3++v4)] (bl v7) [])] (ocons (Tspec_l6With (Y:=Y) n (v3++v4) (Pl.mk zx zy zz zaa) _ y7) (ocons (len_row (L:=(v3++v4)) ePl) (ocons (Enc.share ePl ePl sPl (v3++v4)) onil))) h (by kernel_rfl) (fun h=>?_) (fun h=>?_)
  ·obtain⟨v8,y8,h⟩:=bm h
   obtain⟨v9,y9,h⟩:=bm h
   replace h:=sj h;subst h
   exact x_end 8 [(2,.call [] [] (.agg [i64 v8.A,i64 v8.B,i64 v8.C,i64 v8.D]) []),(0,.call [] [(ePl).f (v3++v4)] (bl v9) [])] [] (ocons (Tspec_l3Flip (Y:=Y) (Pl.mk zx zy zz zaa) _ y8) (ocons (Tspec_l6With (Y:=Y) n (v3++v4) v8 _ y9) (ocons (len_row (L:=(v3++v4)) ePl) (ocons (Enc.share ePl ePl sPl (v3++v4)) onil)))) onil 
  ·replace h:=sj h;subst h
   exact x_end 8 [] [] onil onil 
 ·replace h:=sj h;subst h
  exact x_end 14 [] [] onil onil 
def Dspec_l13Meet_1(n:Nat)(t0:List Pl)(t1:List Pl)(t28:Bool)(zx zy zz zaa:Int):Option Bool :=
 frk t28 (some false) ((Dspec_l13Rest n t0 (Pl.mk zx zy zz zaa)).bind fun v13=>(Dspec_l13Rest n t1 (Pl.mk zx zy zz zaa)).bind fun v14=>chk (apB 32 (v13.length+v14.length)) ((Dspec_l6Open n (v13++v14)).bind fun v16=>frk v16 ((Dspec_l6With n (v13++v14) (Pl.mk zx zy zz zaa)).bind fun v17=>frk (!v17) ((Dspec_l3Flip (Pl.mk zx zy zz zaa)).bind fun v18=>(Dspec_l6With n (v13++v14) v18).bind fun v19=>some (!v19)) (some false)) (some false)))
theorem Tspec_l13Meet_1{Y}(n:Nat)(t0:List Pl)(t1:List Pl)(t28:Bool)(zx zy zz zaa:Int)(r:Bool)(h:Dspec_l13Meet_1 n t0 t1 t28 zx zy zz zaa=some r):Wk Tryz.prog H Y 58 [.code (cp [1,0,1] (bodyOf Tryz.f58)),.code (cp [1,1] (bodyOf Tryz.f58))] (FinX Tryz.prog Tryz.f58 [] (bl r) []) ⟨[(0,.sl false 4 t0.length ((ePl).f t0)),(1,.sl false 4 t1.length ((ePl).f t1)),(5,.ptr 5 0),(28,bl t28)],[(5,⟨true,0,[i64 zx,i64 zy,i64 zz,i64 zaa]⟩)]⟩:=by
 unfold Dspec_l13Meet_1 at h
 refine x_frk 0 [] onil h (by kernel_rfl) (fun h=>?_) (fun h=>?_)
 ·replace h:=sj h;subst h
  exact x_end 4 [] [] onil onil 
 ·obtain⟨v13,y13,h⟩:=bm h
  obtain⟨v14,y14,h⟩:=bm h
  obtain⟨c15,h⟩:=chk_some h
  obtain⟨v16,y16,h⟩:=bm h
  refine x_frk 17 [(2,.call [] [] (.sl true 4 v13.length ((ePl).f v13)) []),(2,.call [] [] (.sl false 4 v14.length ((ePl).f v14)) []),(0,.app false (List.length (v13++v14)) ((ePl).f (v13++v14))),(2,.call [] [(ePl).f (v13++v14)] (bl v16) [])] (ocons (Tspec_l13Rest (Y:=Y) n t0 (Pl.mk zx zy zz zaa) _ y13) (ocons (shSl (L:=v14) ePl ePl sPl (Tspec_l13Rest (Y:=Y) n t1 (Pl.mk zx zy zz zaa) _ y14)) (ocons (len_row' (L:=v13) ePl) (ocons (app_one (L:=v13) (M:=v14) ePl c15) (ocons (app_new (L:=v13) (M:=v14) ePl) (ocons (app_m (L:=v13) (M:=v14) ePl rfl) (ocons (len_row' (L:=v14) ePl) (ocons (Tspec_l6Open (Y:=Y) n (v13++v14) _ y16) (ocons (len_row (L:=(v13++v14)) ePl) (ocons (Enc.share ePl ePl sPl (v13++v14)) onil)))))))))) h (by kernel_rfl) (fun h=>?_) (fun h=>?_)
  ·obtain⟨v17,y17,h⟩:=bm h
   refine x_frk 6 [(2,.call [] [(ePl).f (v13++v14)] (bl v17) [])] (ocons (Tspec_l6With (Y:=Y) n (v13++v14) (Pl.mk zx zy zz zaa) _ y17) (ocons (len_row (L:=(v13++v14)) ePl) (ocons (Enc.share ePl ePl sPl (v13++v14)) onil))) h (by kernel_rfl) (fun h=>?_) (fun h=>?_)
   ·obtain⟨v18,y18,h⟩:=bm h
    obtain⟨v19,y19,h⟩:=bm h
    replace h:=sj h;subst h
    exact x_end 8 [(2,.call [] [] (.agg [i64 v18.A,i64 v18.B,i64 v18.C,i64 v18.D]) []),(0,.call [] [(ePl).f (v13++v14)] (bl v19) [])] [] (ocons (Tspec_l3Flip (Y:=Y) (Pl.mk zx zy zz zaa) _ y18) (ocons (Tspec_l6With (Y:=Y) n (v13++v14) v18 _ y19) (ocons (len_row (L:=(v13++v14)) ePl) (ocons (Enc.share ePl ePl sPl (v13++v14)) onil)))) onil 
   ·replace h:=sj h;subst h
    exact x_end 8 [] [] onil onil 
  ·replace h:=sj h;subst h
   exact x_end 14 [] [] onil onil 
def Dspec_l13Meet(n:Nat)(a0:(List Pl))(a1:(List Pl))(a2:Pl):Option Bool :=
 (Dspec_l13Among n a0 a2).bind fun v0=>frk v0 ((Dspec_l3Flip a2).bind fun v1=>(Dspec_l13Among n a1 v1).bind fun v2=>frk v2 (Dspec_l13Meet_0 n a0 a1 a2.A a2.B a2.C a2.D) ((Dspec_l13Among n a1 a2).bind fun v10=>frk v10 ((Dspec_l3Flip a2).bind fun v11=>(Dspec_l13Among n a0 v11).bind fun v12=>Dspec_l13Meet_1 n a0 a1 (!v12) a2.A a2.B a2.C a2.D) (some false))) ((Dspec_l13Among n a1 a2).bind fun v20=>frk v20 ((Dspec_l3Flip a2).bind fun v21=>(Dspec_l13Among n a0 v21).bind fun v22=>Dspec_l13Meet_1 n a0 a1 (!v22) a2.A a2.B a2.C a2.D) (some false))
theorem Tspec_l13Meet{Y}(n:Nat)(a0:(List Pl))(a1:(List Pl))(a2:Pl)(r:Bool)(h:Dspec_l13Meet n a0 a1 a2=some r):Big Tryz.prog H Y (.call 58 [.sl false 4 a0.length ((ePl).f a0),.sl false 4 a1.length ((ePl).f a1),.agg [i64 a2.A,i64 a2.B,i64 a2.C,i64 a2.D]] (lk []) (bl r) (lk [])):=by
 unfold Dspec_l13Meet at h
 refine x_call (fn:=Tryz.f58) (c:=bodyOf Tryz.f58) (bs0:=[]) Tryz.func58 (by kernel_rfl) (by kernel_rfl) ?_
 obtain⟨v0,y0,h⟩:=bm h
 refine x_frk 12 [(4,.call [] [] (bl v0) [])] (ocons (Tspec_l13Among (Y:=Y) n a0 a2 _ y0) onil) h (by kernel_rfl) (fun h=>?_) (fun h=>?_)
 ·obtain⟨v1,y1,h⟩:=bm h
  obtain⟨v2,y2,h⟩:=bm h
  refine x_frk 6 [(2,.call [] [] (.agg [i64 v1.A,i64 v1.B,i64 v1.C,i64 v1.D]) []),(0,.call [] [] (bl v2) [])] (ocons (Tspec_l3Flip (Y:=Y) a2 _ y1) (ocons (Tspec_l13Among (Y:=Y) n a1 v1 _ y2) onil)) h (by kernel_rfl) (fun h=>?_) (fun h=>?_)
  ·exact x_to 15 [] onil (Tspec_l13Meet_0 n a0 a1 a2.A a2.B a2.C a2.D r h) 
  ·obtain⟨v10,y10,h⟩:=bm h
   refine x_frk 4 [(2,.call [] [] (bl v10) [])] (ocons (Tspec_l13Among (Y:=Y) n a1 a2 _ y10) onil) h (by kernel_rfl) (fun h=>?_) (fun h=>?_)
   ·obtain⟨v11,y11,h⟩:=bm h
    obtain⟨v12,y12,h⟩:=bm h
    exact x_to 8 [(2,.call [] [] (.agg [i64 v11.A,i64 v11.B,i64 v11.C,i64 v11.D]) []),(0,.call [] [] (bl v12) [])] (ocons (Tspec_l3Flip (Y:=Y) a2 _ y11) (ocons (Tspec_l13Among (Y:=Y) n a0 v11 _ y12) onil)) (Tspec_l13Meet_1 n a0 a1 (!v12) a2.A a2.B a2.C a2.D r h) 
   ·replace h:=sj h;subst h
    exact x_end 13 [] [] onil onil 
 ·obtain⟨v20,y20,h⟩:=bm h
  refine x_frk 10 [(8,.call [] [] (bl v20) [])] (ocons (Tspec_l13Among (Y:=Y) n a1 a2 _ y20) onil) h (by kernel_rfl) (fun h=>?_) (fun h=>?_)
  ·obtain⟨v21,y21,h⟩:=bm h
   obtain⟨v22,y22,h⟩:=bm h
   exact x_to 8 [(2,.call [] [] (.agg [i64 v21.A,i64 v21.B,i64 v21.C,i64 v21.D]) []),(0,.call [] [] (bl v22) [])] (ocons (Tspec_l3Flip (Y:=Y) a2 _ y21) (ocons (Tspec_l13Among (Y:=Y) n a0 v21 _ y22) onil)) (Tspec_l13Meet_1 n a0 a1 (!v22) a2.A a2.B a2.C a2.D r h) 
  ·replace h:=sj h;subst h
   exact x_end 13 [] [] onil onil 
def Dspec_Pieces_2(_n:Nat)(rec3:(Int×List Int)→Option Int)(_rec2:(Int×List Int)→Option Int)(_rec1:(Int×List Int)→Option Int)(t8 _t7:Int)(_t3:List (List Pl))(_t4:List Pl)(t9 t10:Int)(rec4:(Int×List Int)→Option Int)(a:(Int×List Int)):Option Int :=
 match a with
 | (t11,l20)=>frk (decide (t11<(l20.length:Int))) ((lget l20 t11).bind fun v10=>frk (v10==t10) ((lget l20 t8).bind fun v11=>(lget l20 t11).bind fun _v12=>rec4 (w64 (t11+1),(l20.set (Int.toNat t11) v11))) (rec4 (w64 (t11+1),l20))) (rec3 (w64 (t9+1),l20))
theorem Tspec_Pieces_2{Y}(n:Nat)(rec3:(Int×List Int)→Option Int)(rec2:(Int×List Int)→Option Int)(rec1:(Int×List Int)→Option Int)(t8 t7:Int)(t3:List (List Pl))(t4:List Pl)(hrec3:∀(a:(Int×List Int)) (r:Int),rec3 a=some r→Wk Tryz.prog H Y 17 [.code (cp [1,1,1,1,1,0,1,0,0,1,0,0,1,0,0,1,0,0,1,0] (bodyOf Tryz.f17)),.blk 6,.blk 5,.code (cp [1,1,1,1,1,0,1,0,0,1,0,0,1,0,0,1,1] (bodyOf Tryz.f17)),.lp (cp [1,1,1,1,1,0,1,0,0,1,0,0,1,0] (bodyOf Tryz.f17)),.blk 4,.blk 3,.code (cp [1,1,1,1,1,0,1,0,0,1,1] (bodyOf Tryz.f17)),.lp (cp [1,1,1,1,1,0,1,0] (bodyOf Tryz.f17)),.blk 2,.code (cp [1,1,1,1,1,1] (bodyOf Tryz.f17))] (FinX Tryz.prog Tryz.f17 [] (i64 r) []) ⟨[(3,.sl false 1 t3.length ((ePls false).f t3)),(4,.sl false 4 t4.length ((ePl).f t4)),(5,.msl 20 a.2.length),(7,i64 t7),(8,i64 t8),(9,i64 a.1)],[(20,⟨true,1,(eInt).f a.2⟩)]⟩)(_hrec2:∀(a:(Int×List Int)) (r:Int),rec2 a=some r→Wk Tryz.prog H Y 17 [.code (cp [1,1,1,1,1,0,1,0,0,1,0,0,1,0] (bodyOf Tryz.f17)),.blk 4,.blk 3,.code (cp [1,1,1,1,1,0,1,0,0,1,1] (bodyOf Tryz.f17)),.lp (cp [1,1,1,1,1,0,1,0] (bodyOf Tryz.f17)),.blk 2,.code (cp [1,1,1,1,1,1] (bodyOf Tryz.f17))] (FinX Tryz.prog Tryz.f17 [] (i64 r) []) ⟨[(3,.sl false 1 t3.length ((ePls false).f t3)),(4,.sl false 4 t4.length ((ePl).f t4)),(5,.msl 20 a.2.length),(7,i64 t7),(8,i64 a.1)],[(20,⟨true,1,(eInt).f a.2⟩)]⟩)(_hrec1:∀(a:(Int×List Int)) (r:Int),rec1 a=some r→Wk Tryz.prog H Y 17 [.code (cp [1,1,1,1,1,0,1,0] (bodyOf Tryz.f17)),.blk 2,.code (cp [1,1,1,1,1,1] (bodyOf Tryz.f17))] (FinX Tryz.prog Tryz.f17 [] (i64 r) []) ⟨[(3,.sl false 1 t3.length ((ePls false).f t3)),(4,.sl false 4 t4.length ((ePl).f t4)),(5,.msl 20 a.2.length),(7,i64 a.1)],[(20,⟨true,1,(eInt).f a.2⟩)]⟩)(t9 t10:Int):∀(m:Nat) (a:(Int×List Int)) (r:Int),loopN (Dspec_Pieces_2 n rec3 rec2 rec1 t8 t7 t3 t4 t9 t10) m a=some r→Wk Tryz.prog H Y 17 [.code (cp [1,1,1,1,1,0,1,0,0,1,0,0,1,0,0,1,0,0,1,0,0,1,0,0,1,0,1,1,0] (bodyOf Tryz.f17)),.blk 8,.blk 7,.code (cp [1,1,1,1,1,0,1,0,0,1,0,0,1,0,0,1,0,0,1,0,0,1,1] (bodyOf Tryz.f17)),.lp (cp [1,1,1,1,1,0,1,0,0,1,0,0,1,0,0,1,0,0,1,0] (bodyOf Tryz.f17)),.blk 6,.blk 5,.code (cp [1,1,1,1,1,0,1,0,0,1,0,0,1,0,0,1,1] (bodyOf Tryz.f17)),.lp (cp [1,1,1,1,1,0,1,0,0,1,0,0,1,0] (bodyOf Tryz.f17)),.blk 4,.blk 3,.code (cp [1,1,1,1,1,0,1,0,0,1,1] (bodyOf Tryz.f17)),.lp (cp [1,1,1,1,1,0,1,0] (bodyOf Tryz.f17)),.blk 2,.code (cp [1,1,1,1,1,1] (bodyOf Tryz.f17))] (FinX Tryz.prog Tryz.f17 [] (i64 r) []) ⟨[(3,.sl false 1 t3.length ((ePls false).f t3)),(4,.sl false 4 t4.length ((ePl).f t4)),(5,.msl 20 a.2.length),(7,i64 t7),(8,i64 t8),(9,i64 t9),(10,i64 t10),(11,i64 a.1)],[(20,⟨true,1,(eInt).f a.2⟩)]⟩:=by
 refine loopN_ind (fun _rec4 hrec4 a r h=>?_)
 obtain⟨t11,l20⟩:=a
 unfold Dspec_Pieces_2 at h
 refine x_frk 9 [] onil h (by kernel_rfl) (fun h=>?_) (fun h=>?_)
 ·obtain⟨v10,y10,h⟩:=bm h
  refine x_frk 12 [(2,.unit),(0,.val (i64 v10))] (ocons (inr y10) (ocons (ld1 eInt y10 0 rfl) onil)) h (by kernel_rfl) (fun h=>?_) (fun h=>?_)
  ·obtain⟨v11,y11,h⟩:=bm h
   obtain⟨_v12,y12,h⟩:=bm h
   exact x_to 22 [(4,.unit),(0,.val (i64 v11)),(0,.unit),(0,.cells ((eInt).f (l20.set (Int.toNat t11) v11))),(0,.fix 5 (.msl 20 (l20.set (Int.toNat t11) v11).length)),(0,.fix 77 (.msl 20 (l20.set (Int.toNat t11) v11).length)),(0,.fix 82 (.msl 20 (l20.set (Int.toNat t11) v11).length)),(0,.fix 88 (.msl 20 (l20.set (Int.toNat t11) v11).length)),(0,.fix 90 (.msl 20 (l20.set (Int.toNat t11) v11).length))] (ocons (inr y11) (ocons (ld1 eInt y11 0 rfl) (ocons (inr y12) (ocons (stA eInt y12 0 1 [i64 v11] v11 rfl rfl) (ocons (setLen 20 l20 (Int.toNat t11) v11) (ocons (setLen 20 l20 (Int.toNat t11) v11) (ocons (setLen 20 l20 (Int.toNat t11) v11) (ocons (setLen 20 l20 (Int.toNat t11) v11) (ocons (setLen 20 l20 (Int.toNat t11) v11) onil))))))))) (hrec4 (w64 (t11+1),(l20.set (Int.toNat t11) v11)) r h) 
  ·exact x_to 8 [] onil (hrec4 (w64 (t11+1),l20) r h) 
 ·exact x_to 8 [] onil (hrec3 (w64 (t9+1),l20) r h) 
def Dspec_Pieces_1(n:Nat)(rec3:(Int×List Int)→Option Int)(rec2:(Int×List Int)→Option Int)(rec1:(Int×List Int)→Option Int)(t8 t7:Int)(t3:List (List Pl))(t4:List Pl)(t9:Int)(t56:Bool)(l20:List Int):Option Int :=
 frk t56 ((lget t3 t7).bind fun v5=>(lget t3 t8).bind fun v6=>(lget t4 t9).bind fun v7=>(Dspec_l13Meet n v5 v6 v7).bind fun v8=>frk v8 ((lget l20 t7).bind fun v9=>loopN (Dspec_Pieces_2 n rec3 rec2 rec1 t8 t7 t3 t4 t9 v9) n (0,l20)) (rec3 (w64 (t9+1),l20))) (rec2 (w64 (t8+1),l20))
theorem Tspec_Pieces_1{Y}(n:Nat)(rec3:(Int×List Int)→Option Int)(rec2:(Int×List Int)→Option Int)(rec1:(Int×List Int)→Option Int)(t8 t7:Int)(t3:List (List Pl))(t4:List Pl)(hrec3:∀(a:(Int×List Int)) (r:Int),rec3 a=some r→Wk Tryz.prog H Y 17 [.code (cp [1,1,1,1,1,0,1,0,0,1,0,0,1,0,0,1,0,0,1,0] (bodyOf Tryz.f17)),.blk 6,.blk 5,.code (cp [1,1,1,1,1,0,1,0,0,1,0,0,1,0,0,1,1] (bodyOf Tryz.f17)),.lp (cp [1,1,1,1,1,0,1,0,0,1,0,0,1,0] (bodyOf Tryz.f17)),.blk 4,.blk 3,.code (cp [1,1,1,1,1,0,1,0,0,1,1] (bodyOf Tryz.f17)),.lp (cp [1,1,1,1,1,0,1,0] (bodyOf Tryz.f17)),.blk 2,.code (cp [1,1,1,1,1,1] (bodyOf Tryz.f17))] (FinX Tryz.prog Tryz.f17 [] (i64 r) []) ⟨[(3,.sl false 1 t3.length ((ePls false).f t3)),(4,.sl false 4 t4.length ((ePl).f t4)),(5,.msl 20 a.2.length),(7,i64 t7),(8,i64 t8),(9,i64 a.1)],[(20,⟨true,1,(eInt).f a.2⟩)]⟩)(hrec2:∀(a:(Int×List Int)) (r:Int),rec2 a=some r→Wk Tryz.prog H Y 17 [.code (cp [1,1,1,1,1,0,1,0,0,1,0,0,1,0] (bodyOf Tryz.f17)),.blk 4,.blk 3,.code (cp [1,1,1,1,1,0,1,0,0,1,1] (bodyOf Tryz.f17)),.lp (cp [1,1,1,1,1,0,1,0] (bodyOf Tryz.f17)),.blk 2,.code (cp [1,1,1,1,1,1] (bodyOf Tryz.f17))] (FinX Tryz.prog Tryz.f17 [] (i64 r) []) ⟨[(3,.sl false 1 t3.length ((ePls false).f t3)),(4,.sl false 4 t4.length ((ePl).f t4)),(5,.msl 20 a.2.length),(7,i64 t7),(8,i64 a.1)],[(20,⟨true,1,(eInt).f a.2⟩)]⟩)(hrec1:∀(a:(Int×List Int)) (r:Int),rec1 a=some r→Wk Tryz.prog H Y 17 [.code (cp [1,1,1,1,1,0,1,0] (bodyOf Tryz.f17)),.blk 2,.code (cp [1,1,1,1,1,1] (bodyOf Tryz.f17))] (FinX Tryz.prog Tryz.f17 [] (i64 r) []) ⟨[(3,.sl false 1 t3.length ((ePls false).f t3)),(4,.sl false 4 t4.length ((ePl).f t4)),(5,.msl 20 a.2.length),(7,i64 a.1)],[(20,⟨true,1,(eInt).f a.2⟩)]⟩)(t9:Int)(t56:Bool)(l20:List Int)(r:Int)(h:Dspec_Pieces_1 n rec3 rec2 rec1 t8 t7 t3 t4 t9 t56 l20=some r):Wk Tryz.prog H Y 17 [.code (cp [1,1,1,1,1,0,1,0,0,1,0,0,1,0,0,1,0,0,1,0,0,0,1] (bodyOf Tryz.f17)),.code (cp [1,1,1,1,1,0,1,0,0,1,0,0,1,0,0,1,0,0,1,0,0,1] (bodyOf Tryz.f17)),.lp (cp [1,1,1,1,1,0,1,0,0,1,0,0,1,0,0,1,0,0,1,0] (bodyOf Tryz.f17)),.blk 6,.blk 5,.code (cp [1,1,1,1,1,0,1,0,0,1,0,0,1,0,0,1,1] (bodyOf Tryz.f17)),.lp (cp [1,1,1,1,1,0,1,0,0,1,0,0,1,0] (bodyOf Tryz.f17)),.blk 4,.blk 3,.code (cp [1,1,1,1,1,0,1,0,0,1,1] (bodyOf Tryz.f17)),.lp (cp [1,1,1,1,1,0,1,0] (bodyOf Tryz.f17)),.blk 2,.code (cp [1,1,1,1,1,1] (bodyOf Tryz.f17))] (FinX Tryz.prog Tryz.f17 [] (i64 r) []) ⟨[(3,.sl false 1 t3.length ((ePls false).f t3)),(4,.sl false 4 t4.length ((ePl).f t4)),(5,.msl 20 l20.length),(7,i64 t7),(8,i64 t8),(9,i64 t9),(56,bl t56)],[(20,⟨true,1,(eInt).f l20⟩)]⟩:=by
 unfold Dspec_Pieces_1 at h
 refine x_frk 0 [] onil h (by kernel_rfl) (fun h=>?_) (fun h=>?_)
 ·obtain⟨v5,y5,h⟩:=bm h
  obtain⟨v6,y6,h⟩:=bm h
  obtain⟨v7,y7,h⟩:=bm h
  obtain⟨v8,y8,h⟩:=bm h
  refine x_frk 19 [(2,.val (.cptr ((ePls false).c v5++(ePls false).f ((t3).drop (Int.toNat t7+1))))),(3,.val (.cptr ((ePls false).c v6++(ePls false).f ((t3).drop (Int.toNat t8+1))))),(3,.val (.cptr (ePl.c v7++(ePl).f ((t4).drop (Int.toNat t9+1))))),(1,.call [] [] (bl v8) [])] (ocons (ix (ePls false) y5) (ocons (ix (ePls false) y6) (ocons (ix ePl y7) (ocons (Tspec_l13Meet (Y:=Y) n v5 v6 v7 _ y8) onil)))) h (by kernel_rfl) (fun h=>?_) (fun h=>?_)
  ·obtain⟨v9,y9,h⟩:=bm h
   exact x_to 13 [(2,.unit),(0,.val (i64 v9))] (ocons (inr y9) (ocons (ld1 eInt y9 0 rfl) onil)) (Tspec_Pieces_2 n rec3 rec2 rec1 t8 t7 t3 t4 hrec3 hrec2 hrec1 t9 v9 n (0,l20) r h) 
  ·exact x_to 8 [] onil (hrec3 (w64 (t9+1),l20) r h) 
 ·exact x_to 8 [] onil (hrec2 (w64 (t8+1),l20) r h) 
def Dspec_Pieces_3(n:Nat)(rec2:(Int×List Int)→Option Int)(rec1:(Int×List Int)→Option Int)(t7:Int)(t3:List (List Pl))(t4:List Pl)(t8:Int)(rec3:(Int×List Int)→Option Int)(a:(Int×List Int)):Option Int :=
 match a with
 | (t9,l20)=>frk (decide (t9<(t4.length:Int))) ((lget l20 t7).bind fun v3=>(lget l20 t8).bind fun v4=>Dspec_Pieces_1 n rec3 rec2 rec1 t8 t7 t3 t4 t9 (v3 != v4) l20) (rec2 (w64 (t8+1),l20))
theorem Tspec_Pieces_3{Y}(n:Nat)(rec2:(Int×List Int)→Option Int)(rec1:(Int×List Int)→Option Int)(t7:Int)(t3:List (List Pl))(t4:List Pl)(hrec2:∀(a:(Int×List Int)) (r:Int),rec2 a=some r→Wk Tryz.prog H Y 17 [.code (cp [1,1,1,1,1,0,1,0,0,1,0,0,1,0] (bodyOf Tryz.f17)),.blk 4,.blk 3,.code (cp [1,1,1,1,1,0,1,0,0,1,1] (bodyOf Tryz.f17)),.lp (cp [1,1,1,1,1,0,1,0] (bodyOf Tryz.f17)),.blk 2,.code (cp [1,1,1,1,1,1] (bodyOf Tryz.f17))] (FinX Tryz.prog Tryz.f17 [] (i64 r) []) ⟨[(3,.sl false 1 t3.length ((ePls false).f t3)),(4,.sl false 4 t4.length ((ePl).f t4)),(5,.msl 20 a.2.length),(7,i64 t7),(8,i64 a.1)],[(20,⟨true,1,(eInt).f a.2⟩)]⟩)(hrec1:∀(a:(Int×List Int)) (r:Int),rec1 a=some r→Wk Tryz.prog H Y 17 [.code (cp [1,1,1,1,1,0,1,0] (bodyOf Tryz.f17)),.blk 2,.code (cp [1,1,1,1,1,1] (bodyOf Tryz.f17))] (FinX Tryz.prog Tryz.f17 [] (i64 r) []) ⟨[(3,.sl false 1 t3.length ((ePls false).f t3)),(4,.sl false 4 t4.length ((ePl).f t4)),(5,.msl 20 a.2.length),(7,i64 a.1)],[(20,⟨true,1,(eInt).f a.2⟩)]⟩)(t8:Int):∀(m:Nat) (a:(Int×List Int)) (r:Int),loopN (Dspec_Pieces_3 n rec2 rec1 t7 t3 t4 t8) m a=some r→Wk Tryz.prog H Y 17 [.code (cp [1,1,1,1,1,0,1,0,0,1,0,0,1,0,0,1,0,0,1,0] (bodyOf Tryz.f17)),.blk 6,.blk 5,.code (cp [1,1,1,1,1,0,1,0,0,1,0,0,1,0,0,1,1] (bodyOf Tryz.f17)),.lp (cp [1,1,1,1,1,0,1,0,0,1,0,0,1,0] (bodyOf Tryz.f17)),.blk 4,.blk 3,.code (cp [1,1,1,1,1,0,1,0,0,1,1] (bodyOf Tryz.f17)),.lp (cp [1,1,1,1,1,0,1,0] (bodyOf Tryz.f17)),.blk 2,.code (cp [1,1,1,1,1,1] (bodyOf Tryz.f17))] (FinX Tryz.prog Tryz.f17 [] (i64 r) []) ⟨[(3,.sl false 1 t3.length ((ePls false).f t3)),(4,.sl false 4 t4.length ((ePl).f t4)),(5,.msl 20 a.2.length),(7,i64 t7),(8,i64 t8),(9,i64 a.1)],[(20,⟨true,1,(eInt).f a.2⟩)]⟩:=by
 refine loopN_ind (fun rec3 hrec3 a r h=>?_)
 obtain⟨t9,l20⟩:=a
 unfold Dspec_Pieces_3 at h
 refine x_frk 9 [] onil h (by kernel_rfl) (fun h=>?_) (fun h=>?_)
 ·obtain⟨v3,y3,h⟩:=bm h
  obtain⟨v4,y4,h⟩:=bm h
  exact x_to 11 [(2,.unit),(0,.val (i64 v3)),(2,.unit),(0,.val (i64 v4))] (ocons (inr y3) (ocons (ld1 eInt y3 0 rfl) (ocons (inr y4) (ocons (ld1 eInt y4 0 rfl) onil)))) (Tspec_Pieces_1 n rec3 rec2 rec1 t8 t7 t3 t4 hrec3 hrec2 hrec1 t9 (v3 != v4) l20 r h) 
 ·exact x_to 20 [] onil (hrec2 (w64 (t8+1),l20) r h) 
def Dspec_Pieces_4(n:Nat)(rec1:(Int×List Int)→Option Int)(t3:List (List Pl))(t4:List Pl)(t7:Int)(rec2:(Int×List Int)→Option Int)(a:(Int×List Int)):Option Int :=
 match a with
 | (t8,l20)=>frk (decide (t8<t7)) (loopN (Dspec_Pieces_3 n rec2 rec1 t7 t3 t4 t8) n (0,l20)) (rec1 (w64 (t7+1),l20))
theorem Tspec_Pieces_4{Y}(n:Nat)(rec1:(Int×List Int)→Option Int)(t3:List (List Pl))(t4:List Pl)(hrec1:∀(a:(Int×List Int)) (r:Int),rec1 a=some r→Wk Tryz.prog H Y 17 [.code (cp [1,1,1,1,1,0,1,0] (bodyOf Tryz.f17)),.blk 2,.code (cp [1,1,1,1,1,1] (bodyOf Tryz.f17))] (FinX Tryz.prog Tryz.f17 [] (i64 r) []) ⟨[(3,.sl false 1 t3.length ((ePls false).f t3)),(4,.sl false 4 t4.length ((ePl).f t4)),(5,.msl 20 a.2.length),(7,i64 a.1)],[(20,⟨true,1,(eInt).f a.2⟩)]⟩)(t7:Int):∀(m:Nat) (a:(Int×List Int)) (r:Int),loopN (Dspec_Pieces_4 n rec1 t3 t4 t7) m a=some r→Wk Tryz.prog H Y 17 [.code (cp [1,1,1,1,1,0,1,0,0,1,0,0,1,0] (bodyOf Tryz.f17)),.blk 4,.blk 3,.code (cp [1,1,1,1,1,0,1,0,0,1,1] (bodyOf Tryz.f17)),.lp (cp [1,1,1,1,1,0,1,0] (bodyOf Tryz.f17)),.blk 2,.code (cp [1,1,1,1,1,1] (bodyOf Tryz.f17))] (FinX Tryz.prog Tryz.f17 [] (i64 r) []) ⟨[(3,.sl false 1 t3.length ((ePls false).f t3)),(4,.sl false 4 t4.length ((ePl).f t4)),(5,.msl 20 a.2.length),(7,i64 t7),(8,i64 a.1)],[(20,⟨true,1,(eInt).f a.2⟩)]⟩:=by
 refine loopN_ind (fun rec2 hrec2 a r h=>?_)
 obtain⟨t8,l20⟩:=a
 unfold Dspec_Pieces_4 at h
 refine x_frk 8 [] onil h (by kernel_rfl) (fun h=>?_) (fun h=>?_)
 ·exact x_to 8 [] onil (Tspec_Pieces_3 n rec2 rec1 t7 t3 t4 hrec2 hrec1 t8 n (0,l20) r h) 
 ·exact x_to 8 [] onil (hrec1 (w64 (t7+1),l20) r h) 
def Dspec_Pieces_6(_n:Nat)(rec2:(Int×Int×List Int)→Option Int)(t12 t13:Int)(t118:Bool)(l20:List Int):Option Int :=
 frk t118 (rec2 (w64 (t12+1),w64 (t13+1),l20)) (rec2 (t12,w64 (t13+1),l20))
theorem Tspec_Pieces_6{Y}(n:Nat)(rec2:(Int×Int×List Int)→Option Int)(hrec2:∀(a:(Int×Int×List Int)) (r:Int),rec2 a=some r→Wk Tryz.prog H Y 17 [.code (cp [1,1,1,1,1,1,1,0,1,0] (bodyOf Tryz.f17)),.blk 10,.code (cp [1,1,1,1,1,1,1,1] (bodyOf Tryz.f17))] (FinX Tryz.prog Tryz.f17 [] (i64 r) []) ⟨[(5,.msl 20 a.2.2.length),(12,i64 a.1),(13,i64 a.2.1)],[(20,⟨true,1,(eInt).f a.2.2⟩)]⟩)(t12 t13:Int)(t118:Bool)(l20:List Int)(r:Int)(h:Dspec_Pieces_6 n rec2 t12 t13 t118 l20=some r):Wk Tryz.prog H Y 17 [.code (cp [1,1,1,1,1,1,1,0,1,0,0,1,0,0,1,1,1] (bodyOf Tryz.f17)),.blk 11,.code (cp [1,1,1,1,1,1,1,0,1,0,0,1,1] (bodyOf Tryz.f17)),.lp (cp [1,1,1,1,1,1,1,0,1,0] (bodyOf Tryz.f17)),.blk 10,.code (cp [1,1,1,1,1,1,1,1] (bodyOf Tryz.f17))] (FinX Tryz.prog Tryz.f17 [] (i64 r) []) ⟨[(5,.msl 20 l20.length),(12,i64 t12),(13,i64 t13),(118,bl t118)],[(20,⟨true,1,(eInt).f l20⟩)]⟩:=by
 unfold Dspec_Pieces_6 at h
 refine x_frk 0 [] onil h (by kernel_rfl) (fun h=>?_) (fun h=>?_)
 ·exact x_to 12 [] onil (hrec2 (w64 (t12+1),w64 (t13+1),l20) r h) 
 ·exact x_to 8 [] onil (hrec2 (t12,w64 (t13+1),l20) r h) 
def Dspec_Pieces_7(n:Nat)(rec2:(Int×Int×List Int)→Option Int)(t12 t13:Int)(l20:List Int)(rec3:(Bool×Int)→Option Int)(a:(Bool×Int)):Option Int :=
 match a with
 | (t14,t15)=>frk (decide (t15<t13)) (frk t14 ((lget l20 t15).bind fun v13=>(lget l20 t13).bind fun v14=>rec3 (v13 != v14,w64 (t15+1))) (rec3 (false,w64 (t15+1)))) (Dspec_Pieces_6 n rec2 t12 t13 t14 l20)
theorem Tspec_Pieces_7{Y}(n:Nat)(rec2:(Int×Int×List Int)→Option Int)(hrec2:∀(a:(Int×Int×List Int)) (r:Int),rec2 a=some r→Wk Tryz.prog H Y 17 [.code (cp [1,1,1,1,1,1,1,0,1,0] (bodyOf Tryz.f17)),.blk 10,.code (cp [1,1,1,1,1,1,1,1] (bodyOf Tryz.f17))] (FinX Tryz.prog Tryz.f17 [] (i64 r) []) ⟨[(5,.msl 20 a.2.2.length),(12,i64 a.1),(13,i64 a.2.1)],[(20,⟨true,1,(eInt).f a.2.2⟩)]⟩)(t12 t13:Int)(l20:List Int):∀(m:Nat) (a:(Bool×Int)) (r:Int),loopN (Dspec_Pieces_7 n rec2 t12 t13 l20) m a=some r→Wk Tryz.prog H Y 17 [.code (cp [1,1,1,1,1,1,1,0,1,0,0,1,0,0,1,0,1,0] (bodyOf Tryz.f17)),.blk 12,.code (cp [1,1,1,1,1,1,1,0,1,0,0,1,0,0,1,1] (bodyOf Tryz.f17)),.blk 11,.code (cp [1,1,1,1,1,1,1,0,1,0,0,1,1] (bodyOf Tryz.f17)),.lp (cp [1,1,1,1,1,1,1,0,1,0] (bodyOf Tryz.f17)),.blk 10,.code (cp [1,1,1,1,1,1,1,1] (bodyOf Tryz.f17))] (FinX Tryz.prog Tryz.f17 [] (i64 r) []) ⟨[(5,.msl 20 l20.length),(12,i64 t12),(13,i64 t13),(14,bl a.1),(15,i64 a.2)],[(20,⟨true,1,(eInt).f l20⟩)]⟩:=by
 refine loopN_ind (fun _rec3 hrec3 a r h=>?_)
 obtain⟨t14,t15⟩:=a
 unfold Dspec_Pieces_7 at h
 refine x_frk 8 [] onil h (by kernel_rfl) (fun h=>?_) (fun h=>?_)
 ·refine x_frk 6 [] onil h (by kernel_rfl) (fun h=>?_) (fun h=>?_)
  ·obtain⟨v13,y13,h⟩:=bm h
   obtain⟨v14,y14,h⟩:=bm h
   exact x_to 19 [(2,.unit),(0,.val (i64 v13)),(2,.unit),(0,.val (i64 v14))] (ocons (inr y13) (ocons (ld1 eInt y13 0 rfl) (ocons (inr y14) (ocons (ld1 eInt y14 0 rfl) onil)))) (hrec3 (v13 != v14,w64 (t15+1)) r h) 
  ·exact x_to 19 [] onil (hrec3 (false,w64 (t15+1)) r h) 
 ·exact x_to 5 [] onil (Tspec_Pieces_6 n rec2 hrec2 t12 t13 t14 l20 r h) 
def Dspec_Pieces_8(n:Nat)(rec2:(Int×Int×List Int)→Option Int)(a:(Int×Int×List Int)):Option Int :=
 match a with
 | (t12,t13,l20)=>frk (decide (t13<(l20.length:Int))) (loopN (Dspec_Pieces_7 n rec2 t12 t13 l20) n (true,0)) (some t12)
theorem Tspec_Pieces_8{Y}(n:Nat):∀(m:Nat) (a:(Int×Int×List Int)) (r:Int),loopN (Dspec_Pieces_8 n) m a=some r→Wk Tryz.prog H Y 17 [.code (cp [1,1,1,1,1,1,1,0,1,0] (bodyOf Tryz.f17)),.blk 10,.code (cp [1,1,1,1,1,1,1,1] (bodyOf Tryz.f17))] (FinX Tryz.prog Tryz.f17 [] (i64 r) []) ⟨[(5,.msl 20 a.2.2.length),(12,i64 a.1),(13,i64 a.2.1)],[(20,⟨true,1,(eInt).f a.2.2⟩)]⟩:=by
 refine loopN_ind (fun rec2 hrec2 a r h=>?_)
 obtain⟨t12,t13,l20⟩:=a
 unfold Dspec_Pieces_8 at h
 refine x_frk 9 [] onil h (by kernel_rfl) (fun h=>?_) (fun h=>?_)
 ·exact x_to 13 [] onil (Tspec_Pieces_7 n rec2 hrec2 t12 t13 l20 n (true,0) r h) 
 ·replace h:=sj h;subst h
  exact x_end 6 [] [] onil onil 
def Dspec_Pieces_5(n:Nat)(t12 t13:Int)(l20:List Int):Option Int :=
 loopN (Dspec_Pieces_8 n) n (t12,t13,l20)
theorem Tspec_Pieces_5{Y}(n:Nat)(t12 t13:Int)(l20:List Int)(r:Int)(h:Dspec_Pieces_5 n t12 t13 l20=some r):Wk Tryz.prog H Y 17 [.code (cp [1,1,1,1,1,1,1,0,1,0] (bodyOf Tryz.f17)),.blk 10,.code (cp [1,1,1,1,1,1,1,1] (bodyOf Tryz.f17))] (FinX Tryz.prog Tryz.f17 [] (i64 r) []) ⟨[(5,.msl 20 l20.length),(12,i64 t12),(13,i64 t13)],[(20,⟨true,1,(eInt).f l20⟩)]⟩:=by
 unfold Dspec_Pieces_5 at h
 exact x_to 0 [] onil (Tspec_Pieces_8 n n (t12,t13,l20) r h) 
def Dspec_Pieces_9(n:Nat)(t3:List (List Pl))(t4:List Pl)(rec1:(Int×List Int)→Option Int)(a:(Int×List Int)):Option Int :=
 match a with
 | (t7,l20)=>frk (decide (t7<(t3.length:Int))) (loopN (Dspec_Pieces_4 n rec1 t3 t4 t7) n (0,l20)) (Dspec_Pieces_5 n 0 0 l20)
theorem Tspec_Pieces_9{Y}(n:Nat)(t3:List (List Pl))(t4:List Pl):∀(m:Nat) (a:(Int×List Int)) (r:Int),loopN (Dspec_Pieces_9 n t3 t4) m a=some r→Wk Tryz.prog H Y 17 [.code (cp [1,1,1,1,1,0,1,0] (bodyOf Tryz.f17)),.blk 2,.code (cp [1,1,1,1,1,1] (bodyOf Tryz.f17))] (FinX Tryz.prog Tryz.f17 [] (i64 r) []) ⟨[(3,.sl false 1 t3.length ((ePls false).f t3)),(4,.sl false 4 t4.length ((ePl).f t4)),(5,.msl 20 a.2.length),(7,i64 a.1)],[(20,⟨true,1,(eInt).f a.2⟩)]⟩:=by
 refine loopN_ind (fun rec1 hrec1 a r h=>?_)
 obtain⟨t7,l20⟩:=a
 unfold Dspec_Pieces_9 at h
 refine x_frk 9 [] onil h (by kernel_rfl) (fun h=>?_) (fun h=>?_)
 ·exact x_to 8 [] onil (Tspec_Pieces_4 n rec1 t3 t4 hrec1 t7 n (0,l20) r h) 
 ·exact x_to 11 [] onil (Tspec_Pieces_5 n 0 0 l20 r h) 
def Dspec_Pieces_0(n:Nat)(t3:List (List Pl))(t4:List Pl)(t7:Int)(l20:List Int):Option Int :=
 loopN (Dspec_Pieces_9 n t3 t4) n (t7,l20)
theorem Tspec_Pieces_0{Y}(n:Nat)(t3:List (List Pl))(t4:List Pl)(t7:Int)(l20:List Int)(r:Int)(h:Dspec_Pieces_0 n t3 t4 t7 l20=some r):Wk Tryz.prog H Y 17 [.code (cp [1,1,1,1,1,0,1,0] (bodyOf Tryz.f17)),.blk 2,.code (cp [1,1,1,1,1,1] (bodyOf Tryz.f17))] (FinX Tryz.prog Tryz.f17 [] (i64 r) []) ⟨[(3,.sl false 1 t3.length ((ePls false).f t3)),(4,.sl false 4 t4.length ((ePl).f t4)),(5,.msl 20 l20.length),(7,i64 t7)],[(20,⟨true,1,(eInt).f l20⟩)]⟩:=by
 unfold Dspec_Pieces_0 at h
 exact x_to 0 [] onil (Tspec_Pieces_9 n t3 t4 n (t7,l20) r h) 
def Dspec_Pieces_10(n:Nat)(t3:List (List Pl))(t4:List Pl)(rec0:(Int×List Int)→Option Int)(a:(Int×List Int)):Option Int :=
 match a with
 | (t6,l20)=>frk (decide (t6<(t3.length:Int))) (chk (apB 8 (l20.length+1)) (rec0 (w64 (t6+1),(l20++[t6])))) (Dspec_Pieces_0 n t3 t4 0 l20)
theorem Tspec_Pieces_10{Y}(n:Nat)(t3:List (List Pl))(t4:List Pl):∀(m:Nat) (a:(Int×List Int)) (r:Int),loopN (Dspec_Pieces_10 n t3 t4) m a=some r→Wk Tryz.prog H Y 17 [.code (cp [1,1,1,1,0,1,0] (bodyOf Tryz.f17)),.blk 0,.code (cp [1,1,1,1,1] (bodyOf Tryz.f17))] (FinX Tryz.prog Tryz.f17 [] (i64 r) []) ⟨[(3,.sl false 1 t3.length ((ePls false).f t3)),(4,.sl false 4 t4.length ((ePl).f t4)),(5,.msl 20 a.2.length),(6,i64 a.1)],[(20,⟨true,1,(eInt).f a.2⟩)]⟩:=by
 refine loopN_ind (fun _rec0 hrec0 a r h=>?_)
 obtain⟨t6,l20⟩:=a
 unfold Dspec_Pieces_10 at h
 refine x_frk 9 [] onil h (by kernel_rfl) (fun h=>?_) (fun h=>?_)
 ·obtain⟨c2,h⟩:=chk_some h
  exact x_to 18 [(3,.app false (List.length (l20++[t6])) ((eInt).f (l20++[t6]))),(4,.ren 30 20)] (ocons (len_row' (L:=l20) eInt) (ocons (app_one (L:=l20) (M:=[t6]) eInt c2) (ocons (app_new (L:=l20) (M:=[t6]) eInt) (ocons (app_m (L:=l20) (M:=[t6]) eInt rfl) (ocons (len_row' (L:=[t6]) eInt) (ocons (Enc.noOwn eInt (fun _=>rfl) [t6]) (ocons (show 30<1000∧20<1000 by decide) onil))))))) (hrec0 (w64 (t6+1),(l20++[t6])) r h) 
 ·exact x_to 7 [] onil (Tspec_Pieces_0 n t3 t4 0 l20 r h) 
def Dspec_Pieces(n:Nat)(a0:Sol):Option Int :=
 (Dspec_Cells n a0 true).bind fun v0=>(Dspec_PlanesOf n a0).bind fun v1=>loopN (Dspec_Pieces_10 n v0 v1) n (0,[])
theorem Tspec_Pieces{Y}(n:Nat)(a0:Sol)(r:Int)(h:Dspec_Pieces n a0=some r):Big Tryz.prog H Y (.call 17 [eF a0] (lk []) (i64 r) (lk [])):=by
 unfold Dspec_Pieces at h
 refine x_call (fn:=Tryz.f17) (c:=bodyOf Tryz.f17) (bs0:=[]) Tryz.func17 (by kernel_rfl) (by kernel_rfl) ?_
 obtain⟨v0,y0,h⟩:=bm h
 obtain⟨v1,y1,h⟩:=bm h
 exact x_to 28 [(3,.call [] [] (.sl false 1 v0.length ((ePls false).f v0)) []),(2,.call [] [] (.sl false 4 v1.length ((ePl).f v1)) [])] (ocons (shSl (L:=v0) (ePls true) (ePls false) (sPls true) (Tspec_Cells (Y:=Y) n a0 true _ y0)) (ocons (shSl (L:=v1) ePl ePl sPl (Tspec_PlanesOf (Y:=Y) n a0 _ y1)) onil)) (Tspec_Pieces_10 n v0 v1 n (0,[]) r h) 
def Dimpl_Cells(n:Nat)(a0:Sol)(a1:Bool):Option (List (List Pl)) :=
 (Dimpl_SolidOk n a0).bind fun v0=>frk (!v0) (some []) ((Dimpl_Solid_cells n a0 a1 []).bind fun v1=>some v1)
theorem Timpl_Cells{Y}(n:Nat)(a0:Sol)(a1:Bool)(r:(List (List Pl)))(h:Dimpl_Cells n a0 a1=some r):Big Tryz.prog H Y (.call 18 [eF a0,bl a1] (lk []) (.sl true 1 r.length ((ePls true).f r)) (lk [])):=by
 unfold Dimpl_Cells at h
 refine x_call (fn:=Tryz.f18) (c:=bodyOf Tryz.f18) (bs0:=[]) Tryz.func18 (by kernel_rfl) (by kernel_rfl) ?_
 obtain⟨v0,y0,h⟩:=bm h
 refine x_frk 12 [(3,.call [] [] (bl v0) [])] (ocons (Timpl_SolidOk (Y:=Y) n a0 _ y0) onil) h (by kernel_rfl) (fun h=>?_) (fun h=>?_)
 ·replace h:=sj h;subst h
  exact x_end 4 [] [(true,1)] onil onil 
 ·obtain⟨v1,y1,h⟩:=bm h
  replace h:=sj h;subst h
  exact x_end 7 [(1,.call [(false,4)] [] (.sl true 1 v1.length ((ePls true).f v1)) [])] [] (ocons (Timpl_Solid_cells (Y:=Y) n a0 a1 [] [] _ y1) (ocons (show hasSh (.sl true 1 v1.length ((ePls true).f v1))=false by simp[hasSh,hasShL,nSh,nShI,nShB,nShP,nShT,nShN,nShPs]) onil)) (ocons (len_row (L:=v1) (ePls true)) onil) 
def Dimpl_Solid_has_b(_n:Nat)(self:(Sol×Bool)→Option Bool)(a:(Sol×Bool)):Option Bool :=
 match a with
 | (a0,a1)=>(Dimpl_Solid_isLeaf a0).bind fun v0=>frk v0 (some (a0.inn==a1)) ((lget a0.kids 0).bind fun v1=>(self (v1,a1)).bind fun v2=>frk v2 (some true) ((lget a0.kids 1).bind fun v3=>(self (v3,a1)).bind fun v4=>some v4))
def Dimpl_Solid_has(n:Nat)(a0:Sol)(a1:Bool):Option Bool:=loopN (Dimpl_Solid_has_b n) n (a0,a1)
theorem Timpl_Solid_has_b{Y}(n:Nat):∀(m:Nat) (a:(Sol×Bool)) (r:Bool),loopN (Dimpl_Solid_has_b n) m a=some r→∀(q0:List AV),Big Tryz.prog H Y (.call 59 [.cptr ([bl a.1.inn,i64 a.1.pl.A,i64 a.1.pl.B,i64 a.1.pl.C,i64 a.1.pl.D,.sl false 6 a.1.kids.length ((eSol false).f a.1.kids)]++q0),bl a.2] (lk []) (bl r) (lk [])):=by
 refine loopN_ind (fun self hs a r h=>?_)
 have hself:∀(a:(Sol×Bool)) (q0:List AV) (r:Bool),self a=some r→Big Tryz.prog H Y (.call 59 [.cptr ([bl a.1.inn,i64 a.1.pl.A,i64 a.1.pl.B,i64 a.1.pl.C,i64 a.1.pl.D,.sl false 6 a.1.kids.length ((eSol false).f a.1.kids)]++q0),bl a.2] (lk []) (bl r) (lk [])):=fun a q0 r h=>hs a r h q0
 intro q0
 obtain⟨a0,a1⟩:=a
 unfold Dimpl_Solid_has_b at h
 refine x_call (fn:=Tryz.f59) (c:=bodyOf Tryz.f59) (bs0:=[]) Tryz.func59 (by kernel_rfl) (by kernel_rfl) ?_
 obtain⟨v0,y0,h⟩:=bm h
 refine x_frk 10 [(2,.call [] [] (bl v0) [])] (ocons (Timpl_Solid_isLeaf (Y:=Y) a0 q0 _ y0) onil) h (by kernel_rfl) (fun h=>?_) (fun h=>?_)
 ·replace h:=sj h;subst h
  exact x_end 10 [] [] onil onil 
 ·obtain⟨v1,y1,h⟩:=bm h
  obtain⟨v2,y2,h⟩:=bm h
  refine x_frk 11 [(4,.val (.cptr ((eSol false).c v1++(eSol false).f ((a0.kids).drop (Int.toNat 0+1))))),(1,.call [] [] (bl v2) [])] (ocons (ix (eSol false) y1) (ocons (hself (v1,a1) ((eSol false).f ((a0.kids).drop (Int.toNat 0+1))) _ y2) onil)) h (by kernel_rfl) (fun h=>?_) (fun h=>?_)
  ·replace h:=sj h;subst h
   exact x_end 10 [] [] onil onil 
  ·obtain⟨v3,y3,h⟩:=bm h
   obtain⟨v4,y4,h⟩:=bm h
   replace h:=sj h;subst h
   exact x_end 10 [(4,.val (.cptr ((eSol false).c v3++(eSol false).f ((a0.kids).drop (Int.toNat 1+1))))),(1,.call [] [] (bl v4) [])] [] (ocons (ix (eSol false) y3) (ocons (hself (v3,a1) ((eSol false).f ((a0.kids).drop (Int.toNat 1+1))) _ y4) onil)) onil 
theorem Timpl_Solid_has{Y}(n:Nat)(a0:Sol)(a1:Bool)(q0:List AV)(r:Bool)(h:Dimpl_Solid_has n a0 a1=some r):Big Tryz.prog H Y (.call 59 [.cptr ([bl a0.inn,i64 a0.pl.A,i64 a0.pl.B,i64 a0.pl.C,i64 a0.pl.D,.sl false 6 a0.kids.length ((eSol false).f a0.kids)]++q0),bl a1] (lk []) (bl r) (lk [])):=Timpl_Solid_has_b n n (a0,a1) r h q0
def Dimpl_Nothing(n:Nat)(a0:Sol):Option Bool :=
 (Dimpl_SolidOk n a0).bind fun v0=>frk v0 ((Dimpl_Solid_has n a0 true).bind fun v1=>some (!v1)) (some false)
theorem Timpl_Nothing{Y}(n:Nat)(a0:Sol)(r:Bool)(h:Dimpl_Nothing n a0=some r):Big Tryz.prog H Y (.call 19 [eF a0] (lk []) (bl r) (lk [])):=by
 unfold Dimpl_Nothing at h
 refine x_call (fn:=Tryz.f19) (c:=bodyOf Tryz.f19) (bs0:=[]) Tryz.func19 (by kernel_rfl) (by kernel_rfl) ?_
 obtain⟨v0,y0,h⟩:=bm h
 refine x_frk 10 [(3,.call [] [] (bl v0) [])] (ocons (Timpl_SolidOk (Y:=Y) n a0 _ y0) onil) h (by kernel_rfl) (fun h=>?_) (fun h=>?_)
 ·obtain⟨v1,y1,h⟩:=bm h
  replace h:=sj h;subst h
  exact x_end 5 [(0,.call [] [] (bl v1) [])] [] (ocons (Timpl_Solid_has (Y:=Y) n a0 true [] _ y1) onil) onil 
 ·replace h:=sj h;subst h
  exact x_end 5 [] [] onil onil 
def Dlaws_FnPieces(n:Nat)(a0:(List Int)):Option Bool :=
 (Dlaws_big a0).bind fun v0=>frk v0 (some true) ((Dspec_DrawSolid n a0).bind fun v1=>(Dimpl_Pieces n v1.1).bind fun v2=>(Dspec_DrawCell n a0).bind fun v3=>(Dimpl_Convex n v3).bind fun v4=>(Dspec_Pieces n v1.1).bind fun v5=>frk (v2==v5) ((Dimpl_Cells n v1.1 true).bind fun v6=>frk (decide (v2≤(v6.length:Int))) ((Dimpl_Nothing n v1.1).bind fun v7=>frk ((v2==0)==v7) (frk (v4.2==0) ((Dimpl_Pieces n v4.1).bind fun v8=>some (v8==1)) (some false)) (some false)) (some false)) (some false))
theorem Tlaws_FnPieces{Y}(n:Nat)(a0:(List Int))(r:Bool)(h:Dlaws_FnPieces n a0=some r):Big Tryz.prog H Y (.call 4 [.sl false 1 a0.length ((eU8).f a0)] (lk []) (bl r) (lk [])):=by
 unfold Dlaws_FnPieces at h
 refine x_call (fn:=Tryz.f4) (c:=bodyOf Tryz.f4) (bs0:=[]) Tryz.func4 (by kernel_rfl) (by kernel_rfl) ?_
 obtain⟨v0,y0,h⟩:=bm h
 refine x_frk 10 [(2,.call [] [] (bl v0) [])] (ocons (Tlaws_big (Y:=Y) a0 _ y0) onil) h (by kernel_rfl) (fun h=>?_) (fun h=>?_)
 ·replace h:=sj h;subst h
  exact x_end 4 [] [] onil onil 
 ·obtain⟨v1,y1,h⟩:=bm h
  obtain⟨v2,y2,h⟩:=bm h
  obtain⟨v3,y3,h⟩:=bm h
  obtain⟨v4,y4,h⟩:=bm h
  obtain⟨v5,y5,h⟩:=bm h
  refine x_frk 38 [(1,.call [] [] (.tup [eS v1.1,.agg [i64 v1.2.X,i64 v1.2.Y,i64 v1.2.Z,i64 v1.2.W]]) []),(7,.rows [(eSol false).f v1.1.kids]),(0,.call [] [] (i64 v2) []),(2,.call [] [] (.sl false 4 v3.length ((ePl).f v3)) []),(0,.call [] [] (.tup [eS v4.1,i64 v4.2]) []),(7,.rows [(eSol false).f v1.1.kids]),(0,.call [] [] (i64 v5) [])] (ocons (Tspec_DrawSolid (Y:=Y) n a0 _ y1) (ocons (Enc.share (eSol true) (eSol false) (sSol true) v1.1.kids) (ocons (Timpl_Pieces (Y:=Y) n v1.1 _ y2) (ocons (shSl (L:=v3) ePl ePl sPl (Tspec_DrawCell (Y:=Y) n a0 _ y3)) (ocons (Timpl_Convex (Y:=Y) n v3 _ y4) (ocons (Enc.share (eSol true) (eSol false) (sSol true) v1.1.kids) (ocons (Tspec_Pieces (Y:=Y) n v1.1 _ y5) onil))))))) h (by kernel_rfl) (fun h=>?_) (fun h=>?_)
  ·obtain⟨v6,y6,h⟩:=bm h
   refine x_frk 7 [(1,.rows [(eSol false).f v1.1.kids]),(0,.call [] [] (.sl false 1 v6.length ((ePls false).f v6)) [])] (ocons (Enc.share (eSol true) (eSol false) (sSol true) v1.1.kids) (ocons (shSl (L:=v6) (ePls true) (ePls false) (sPls true) (Timpl_Cells (Y:=Y) n v1.1 true _ y6)) onil)) h (by kernel_rfl) (fun h=>?_) (fun h=>?_)
   ·obtain⟨v7,y7,h⟩:=bm h
    refine x_frk 7 [(2,.rows [(eSol false).f v1.1.kids]),(0,.call [] [] (bl v7) [])] (ocons (Enc.share (eSol true) (eSol false) (sSol true) v1.1.kids) (ocons (Timpl_Nothing (Y:=Y) n v1.1 _ y7) onil)) h (by kernel_rfl) (fun h=>?_) (fun h=>?_)
    ·refine x_frk 4 [] onil h (by kernel_rfl) (fun h=>?_) (fun h=>?_)
     ·obtain⟨v8,y8,h⟩:=bm h
      replace h:=sj h;subst h
      exact x_end 6 [(0,.rows [(eSol false).f v4.1.kids]),(0,.call [] [] (i64 v8) [])] [] (ocons (Enc.share (eSol true) (eSol false) (sSol true) v4.1.kids) (ocons (Timpl_Pieces (Y:=Y) n v4.1 _ y8) onil)) onil 
     ·replace h:=sj h;subst h
      exact x_end 6 [] [] onil onil 
    ·replace h:=sj h;subst h
     exact x_end 10 [] [] onil onil 
   ·replace h:=sj h;subst h
    exact x_end 17 [] [] onil onil 
  ·replace h:=sj h;subst h
   exact x_end 24 [] [] onil onil 
end Evl.T
