
/- Walks. No condition. -/
import Derived.Test.YtgaenniknmphcaaGreatWy
namespace Evl.T
open Go Evl Go.Proofs
set_option maxRecDepth 100000
def Dimpl_clash2(_n:Nat)(a0:Pl)(a1:Pl):Option Bool :=
 (Dimpl_parallel a0 a1).bind fun v0=>frk (decide (v0≥0)) (some false) ((Dimpl_normal a0).bind fun v1=>(Dimpl_normal a1).bind fun v2=>frk (v1.1 != 0) (some (decide ((w64 ((w64 (a0.D*(maxN v2.1 [w64 (0-v2.1)])))+(w64 (a1.D*(maxN v1.1 [w64 (0-v1.1)])))))≤0))) (frk (v1.2.1 != 0) (some (decide ((w64 ((w64 (a0.D*(maxN v2.2.1 [w64 (0-v2.2.1)])))+(w64 (a1.D*(maxN v1.2.1 [w64 (0-v1.2.1)])))))≤0))) (frk (v1.2.2 != 0) (some (decide ((w64 ((w64 (a0.D*(maxN v2.2.2 [w64 (0-v2.2.2)])))+(w64 (a1.D*(maxN v1.2.2 [w64 (0-v1.2.2)])))))≤0))) (some false))))
theorem Timpl_clash2{Y}(n:Nat)(a0:Pl)(a1:Pl)(r:Bool)(h:Dimpl_clash2 n a0 a1=some r):Big Tryz.prog H Y (.call 180 [.agg [i64 a0.A,i64 a0.B,i64 a0.C,i64 a0.D],.agg [i64 a1.A,i64 a1.B,i64 a1.C,i64 a1.D]] (lk []) (bl r) (lk [])):=by
 unfold Dimpl_clash2 at h
 refine x_call (fn:=Tryz.f180) (c:=bodyOf Tryz.f180) (bs0:=[]) Tryz.func180 (by kernel_rfl) (by kernel_rfl) ?_
 obtain⟨v0,y0,h⟩:=bm h
 refine x_frk 14 [(5,.call [] [] (i64 v0) [])] (ocons (Timpl_parallel (Y:=Y) a0 a1 _ y0) onil) h (by kernel_rfl) (fun h=>?_) (fun h=>?_)
 ·replace h:=sj h;subst h
  exact x_end 4 [] [] onil onil 
 ·obtain⟨v1,y1,h⟩:=bm h
  obtain⟨v2,y2,h⟩:=bm h
  refine x_frk 40 [(1,.call [] [] (.agg [i64 v1.1,i64 v1.2.1,i64 v1.2.2]) []),(1,.call [] [] (.agg [i64 v2.1,i64 v2.2.1,i64 v2.2.2]) [])] (ocons (Timpl_normal (Y:=Y) a0 _ y1) (ocons (Timpl_normal (Y:=Y) a1 _ y2) onil)) h (by kernel_rfl) (fun h=>?_) (fun h=>?_)
  ·replace h:=sj h;subst h
   exact x_end 28 [(9,.val (.lit (.int .i64 (maxN v2.1 [w64 (0-v2.1)])))),(10,.val (.lit (.int .i64 (maxN v1.1 [w64 (0-v1.1)]))))] [] (ocons (maxNok .i64 [w64 (0-v2.1)] v2.1) (ocons (maxNok .i64 [w64 (0-v1.1)] v1.1) onil)) onil 
  ·refine x_frk 29 [] onil h (by kernel_rfl) (fun h=>?_) (fun h=>?_)
   ·replace h:=sj h;subst h
    exact x_end 28 [(9,.val (.lit (.int .i64 (maxN v2.2.1 [w64 (0-v2.2.1)])))),(10,.val (.lit (.int .i64 (maxN v1.2.1 [w64 (0-v1.2.1)]))))] [] (ocons (maxNok .i64 [w64 (0-v2.2.1)] v2.2.1) (ocons (maxNok .i64 [w64 (0-v1.2.1)] v1.2.1) onil)) onil 
   ·refine x_frk 29 [] onil h (by kernel_rfl) (fun h=>?_) (fun h=>?_)
    ·replace h:=sj h;subst h
     exact x_end 28 [(9,.val (.lit (.int .i64 (maxN v2.2.2 [w64 (0-v2.2.2)])))),(10,.val (.lit (.int .i64 (maxN v1.2.2 [w64 (0-v1.2.2)]))))] [] (ocons (maxNok .i64 [w64 (0-v2.2.2)] v2.2.2) (ocons (maxNok .i64 [w64 (0-v1.2.2)] v1.2.2) onil)) onil 
    ·replace h:=sj h;subst h
     exact x_end 19 [] [] onil onil 
def Dimpl_det(a0:(Int×Int×Int))(a1:(Int×Int×Int))(a2:(Int×Int×Int)):Option Int :=
 (Dimpl_crossOf a1 a2).bind fun v0=>(Dimpl_dot a0 v0).bind fun v1=>some v1
theorem Timpl_det{Y}(a0:(Int×Int×Int))(a1:(Int×Int×Int))(a2:(Int×Int×Int))(r:Int)(h:Dimpl_det a0 a1 a2=some r):Big Tryz.prog H Y (.call 163 [.agg [i64 a0.1,i64 a0.2.1,i64 a0.2.2],.agg [i64 a1.1,i64 a1.2.1,i64 a1.2.2],.agg [i64 a2.1,i64 a2.2.1,i64 a2.2.2]] (lk []) (i64 r) (lk [])):=by
 unfold Dimpl_det at h
 refine x_call (fn:=Tryz.f163) (c:=bodyOf Tryz.f163) (bs0:=[]) Tryz.func163 (by kernel_rfl) (by kernel_rfl) ?_
 obtain⟨v0,y0,h⟩:=bm h
 obtain⟨v1,y1,h⟩:=bm h
 replace h:=sj h;subst h
 exact x_end 16 [(7,.call [] [] (.agg [i64 v0.1,i64 v0.2.1,i64 v0.2.2]) []),(0,.call [] [] (i64 v1) [])] [] (ocons (Timpl_crossOf (Y:=Y) a1 a2 _ y0) (ocons (Timpl_dot (Y:=Y) a0 v0 _ y1) onil)) onil 
def Dimpl_weighs_0(_n:Nat)(rec0:(Int×Int)→Option Bool)(t1:List Int)(_t5:Int)(_t13:List Int)(_t14 t6 t7 t8 t15:Int)(t27:Bool):Option Bool :=
 frk t27 (some false) ((lget t1 t7).bind fun v4=>rec0 (w64 (t6+(w64 (t8*v4))),w64 (t15+1)))
theorem Timpl_weighs_0{Y}(n:Nat)(rec0:(Int×Int)→Option Bool)(t1:List Int)(t5:Int)(t13:List Int)(t14:Int)(hrec0:∀(a:(Int×Int)) (r:Bool),rec0 a=some r→Wk Tryz.prog H Y 216 [.code (cp [1,1,1,0,1,0] (bodyOf Tryz.f216)),.blk 0,.code (cp [1,1,1,1] (bodyOf Tryz.f216))] (FinX Tryz.prog Tryz.f216 [] (bl r) []) ⟨[(1,.sl false 1 t1.length ((eInt).f t1)),(5,i64 t5),(6,i64 a.1),(13,.sl false 1 t13.length ((eInt).f t13)),(14,i64 t14),(15,i64 a.2)],[]⟩)(t6 t7 t8 t15:Int)(t27 r:Bool)(h:Dimpl_weighs_0 n rec0 t1 t5 t13 t14 t6 t7 t8 t15 t27=some r):Wk Tryz.prog H Y 216 [.code (cp [1,1,1,0,1,0,0,1,1,0,0,1,0,1] (bodyOf Tryz.f216)),.code (cp [1,1,1,0,1,0,0,1,1,0,0,1,1] (bodyOf Tryz.f216)),.blk 1,.code (cp [1,1,1,0,1,0,0,1,1,1] (bodyOf Tryz.f216)),.lp (cp [1,1,1,0,1,0] (bodyOf Tryz.f216)),.blk 0,.code (cp [1,1,1,1] (bodyOf Tryz.f216))] (FinX Tryz.prog Tryz.f216 [] (bl r) []) ⟨[(1,.sl false 1 t1.length ((eInt).f t1)),(5,i64 t5),(6,i64 t6),(7,i64 t7),(8,i64 t8),(13,.sl false 1 t13.length ((eInt).f t13)),(14,i64 t14),(15,i64 t15),(27,bl t27)],[]⟩:=by
 unfold Dimpl_weighs_0 at h
 refine x_frk 0 [] onil h (by kernel_rfl) (fun h=>?_) (fun h=>?_)
 ·replace h:=sj h;subst h
  exact x_end 4 [] [] onil onil 
 ·obtain⟨v4,y4,h⟩:=bm h
  exact x_to 18 [(4,.val (.cptr (eInt.c v4++(eInt).f ((t1).drop (Int.toNat t7+1)))))] (ocons (ix eInt y4) onil) (hrec0 (w64 (t6+(w64 (t8*v4))),w64 (t15+1)) r h) 
def Dimpl_weighs_1(n:Nat)(t1:List Int)(t5:Int)(t13:List Int)(t14:Int)(rec0:(Int×Int)→Option Bool)(a:(Int×Int)):Option Bool :=
 match a with
 | (t6,t15)=>frk (decide (t15<t14)) ((lget t13 t15).bind fun v2=>frk (t5==0) (some false) ((Dimpl_sign v2).bind fun v3=>Dimpl_weighs_0 n rec0 t1 t5 t13 t14 t6 t15 v2 t15 (v3 != t5))) (some (decide ((w64 (t6*t5))≤0)))
theorem Timpl_weighs_1{Y}(n:Nat)(t1:List Int)(t5:Int)(t13:List Int)(t14:Int):∀(m:Nat) (a:(Int×Int)) (r:Bool),loopN (Dimpl_weighs_1 n t1 t5 t13 t14) m a=some r→Wk Tryz.prog H Y 216 [.code (cp [1,1,1,0,1,0] (bodyOf Tryz.f216)),.blk 0,.code (cp [1,1,1,1] (bodyOf Tryz.f216))] (FinX Tryz.prog Tryz.f216 [] (bl r) []) ⟨[(1,.sl false 1 t1.length ((eInt).f t1)),(5,i64 t5),(6,i64 a.1),(13,.sl false 1 t13.length ((eInt).f t13)),(14,i64 t14),(15,i64 a.2)],[]⟩:=by
 refine loopN_ind (fun rec0 hrec0 a r h=>?_)
 obtain⟨t6,t15⟩:=a
 unfold Dimpl_weighs_1 at h
 refine x_frk 6 [] onil h (by kernel_rfl) (fun h=>?_) (fun h=>?_)
 ·obtain⟨v2,y2,h⟩:=bm h
  refine x_frk 17 [(1,.val (.cptr (eInt.c v2++(eInt).f ((t13).drop (Int.toNat t15+1)))))] (ocons (ix eInt y2) onil) h (by kernel_rfl) (fun h=>?_) (fun h=>?_)
  ·replace h:=sj h;subst h
   exact x_end 11 [] [] onil onil 
  ·obtain⟨v3,y3,h⟩:=bm h
   exact x_to 6 [(1,.call [] [] (i64 v3) [])] (ocons (Timpl_sign (Y:=Y) v2 _ y3) onil) (Timpl_weighs_0 n rec0 t1 t5 t13 t14 hrec0 t6 t15 v2 t15 (v3 != t5) r h) 
 ·replace h:=sj h;subst h
  exact x_end 9 [] [] onil onil 
def Dimpl_weighs(n:Nat)(a0:(List Int))(a1:(List Int)):Option Bool :=
 (lget a0 0).bind fun v0=>(Dimpl_sign v0).bind fun v1=>loopN (Dimpl_weighs_1 n a1 v1 a0 (a0.length:Int)) n (0,0)
theorem Timpl_weighs{Y}(n:Nat)(a0:(List Int))(a1:(List Int))(r:Bool)(h:Dimpl_weighs n a0 a1=some r):Big Tryz.prog H Y (.call 216 [.sl false 1 a0.length ((eInt).f a0),.sl false 1 a1.length ((eInt).f a1)] (lk []) (bl r) (lk [])):=by
 unfold Dimpl_weighs at h
 refine x_call (fn:=Tryz.f216) (c:=bodyOf Tryz.f216) (bs0:=[]) Tryz.func216 (by kernel_rfl) (by kernel_rfl) ?_
 obtain⟨v0,y0,h⟩:=bm h
 obtain⟨v1,y1,h⟩:=bm h
 exact x_to 24 [(2,.val (.cptr (eInt.c v0++(eInt).f ((a0).drop (Int.toNat 0+1))))),(1,.call [] [] (i64 v1) [])] (ocons (ix eInt y0) (ocons (Timpl_sign (Y:=Y) v0 _ y1) onil)) (Timpl_weighs_1 n a1 v1 a0 (a0.length:Int) n (0,0) r h) 
def Dimpl_clash3(n:Nat)(a0:Pl)(a1:Pl)(a2:Pl):Option Bool :=
 (Dimpl_normal a0).bind fun v0=>(Dimpl_normal a1).bind fun v1=>(Dimpl_normal a2).bind fun v2=>(Dimpl_det v0 v1 v2).bind fun v3=>frk (v3 != 0) (some false) ((Dimpl_crossOf v0 v1).bind fun v4=>(Dimpl_crossOf v1 v2).bind fun v5=>(Dimpl_dot v5 v4).bind fun v6=>(Dimpl_crossOf v2 v0).bind fun v7=>(Dimpl_dot v7 v4).bind fun v8=>(Dimpl_dot v4 v4).bind fun v9=>(Dimpl_weighs n [v6,v8,v9] [a0.D,a1.D,a2.D]).bind fun v10=>some v10)
theorem Timpl_clash3{Y}(n:Nat)(a0:Pl)(a1:Pl)(a2:Pl)(r:Bool)(h:Dimpl_clash3 n a0 a1 a2=some r):Big Tryz.prog H Y (.call 181 [.agg [i64 a0.A,i64 a0.B,i64 a0.C,i64 a0.D],.agg [i64 a1.A,i64 a1.B,i64 a1.C,i64 a1.D],.agg [i64 a2.A,i64 a2.B,i64 a2.C,i64 a2.D]] (lk []) (bl r) (lk [])):=by
 unfold Dimpl_clash3 at h
 refine x_call (fn:=Tryz.f181) (c:=bodyOf Tryz.f181) (bs0:=[]) Tryz.func181 (by kernel_rfl) (by kernel_rfl) ?_
 obtain⟨v0,y0,h⟩:=bm h
 obtain⟨v1,y1,h⟩:=bm h
 obtain⟨v2,y2,h⟩:=bm h
 obtain⟨v3,y3,h⟩:=bm h
 refine x_frk 31 [(5,.call [] [] (.agg [i64 v0.1,i64 v0.2.1,i64 v0.2.2]) []),(1,.call [] [] (.agg [i64 v1.1,i64 v1.2.1,i64 v1.2.2]) []),(1,.call [] [] (.agg [i64 v2.1,i64 v2.2.1,i64 v2.2.2]) []),(9,.call [] [] (i64 v3) [])] (ocons (Timpl_normal (Y:=Y) a0 _ y0) (ocons (Timpl_normal (Y:=Y) a1 _ y1) (ocons (Timpl_normal (Y:=Y) a2 _ y2) (ocons (Timpl_det (Y:=Y) v0 v1 v2 _ y3) onil)))) h (by kernel_rfl) (fun h=>?_) (fun h=>?_)
 ·replace h:=sj h;subst h
  exact x_end 4 [] [] onil onil 
 ·obtain⟨v4,y4,h⟩:=bm h
  obtain⟨v5,y5,h⟩:=bm h
  obtain⟨v6,y6,h⟩:=bm h
  obtain⟨v7,y7,h⟩:=bm h
  obtain⟨v8,y8,h⟩:=bm h
  obtain⟨v9,y9,h⟩:=bm h
  obtain⟨v10,y10,h⟩:=bm h
  replace h:=sj h;subst h
  exact x_end 35 [(2,.call [] [] (.agg [i64 v4.1,i64 v4.2.1,i64 v4.2.2]) []),(4,.call [] [] (.agg [i64 v5.1,i64 v5.2.1,i64 v5.2.2]) []),(1,.call [] [] (i64 v6) []),(2,.call [] [] (.agg [i64 v7.1,i64 v7.2.1,i64 v7.2.2]) []),(1,.call [] [] (i64 v8) []),(2,.call [] [] (i64 v9) []),(8,.call [] [(eInt).f [a0.D,a1.D,a2.D],(eInt).f [v6,v8,v9]] (bl v10) [])] [] (ocons (Timpl_crossOf (Y:=Y) v0 v1 _ y4) (ocons (Timpl_crossOf (Y:=Y) v1 v2 _ y5) (ocons (Timpl_dot (Y:=Y) v5 v4 _ y6) (ocons (Timpl_crossOf (Y:=Y) v2 v0 _ y7) (ocons (Timpl_dot (Y:=Y) v7 v4 _ y8) (ocons (Timpl_dot (Y:=Y) v4 v4 _ y9) (ocons (Timpl_weighs (Y:=Y) n [v6,v8,v9] [a0.D,a1.D,a2.D] _ y10) (ocons (len_row (L:=[v6,v8,v9]) eInt) (ocons (Enc.share eInt eInt sInt [v6,v8,v9]) (ocons (len_row (L:=[a0.D,a1.D,a2.D]) eInt) (ocons (Enc.share eInt eInt sInt [a0.D,a1.D,a2.D]) onil))))))))))) onil 
def Dimpl_det3(a0:Pl)(a1:Pl)(a2:Pl):Option Int :=
 (Dimpl_normal a0).bind fun v0=>(Dimpl_normal a1).bind fun v1=>(Dimpl_normal a2).bind fun v2=>(Dimpl_det v0 v1 v2).bind fun v3=>some v3
theorem Timpl_det3{Y}(a0:Pl)(a1:Pl)(a2:Pl)(r:Int)(h:Dimpl_det3 a0 a1 a2=some r):Big Tryz.prog H Y (.call 165 [.agg [i64 a0.A,i64 a0.B,i64 a0.C,i64 a0.D],.agg [i64 a1.A,i64 a1.B,i64 a1.C,i64 a1.D],.agg [i64 a2.A,i64 a2.B,i64 a2.C,i64 a2.D]] (lk []) (i64 r) (lk [])):=by
 unfold Dimpl_det3 at h
 refine x_call (fn:=Tryz.f165) (c:=bodyOf Tryz.f165) (bs0:=[]) Tryz.func165 (by kernel_rfl) (by kernel_rfl) ?_
 obtain⟨v0,y0,h⟩:=bm h
 obtain⟨v1,y1,h⟩:=bm h
 obtain⟨v2,y2,h⟩:=bm h
 obtain⟨v3,y3,h⟩:=bm h
 replace h:=sj h;subst h
 exact x_end 18 [(5,.call [] [] (.agg [i64 v0.1,i64 v0.2.1,i64 v0.2.2]) []),(1,.call [] [] (.agg [i64 v1.1,i64 v1.2.1,i64 v1.2.2]) []),(1,.call [] [] (.agg [i64 v2.1,i64 v2.2.1,i64 v2.2.2]) []),(0,.call [] [] (i64 v3) [])] [] (ocons (Timpl_normal (Y:=Y) a0 _ y0) (ocons (Timpl_normal (Y:=Y) a1 _ y1) (ocons (Timpl_normal (Y:=Y) a2 _ y2) (ocons (Timpl_det (Y:=Y) v0 v1 v2 _ y3) onil)))) onil 
def Dimpl_clash4(n:Nat)(a0:Pl)(a1:Pl)(a2:Pl)(a3:Pl):Option Bool :=
 (Dimpl_det3 a1 a2 a3).bind fun v0=>(Dimpl_det3 a0 a2 a3).bind fun v1=>(Dimpl_det3 a0 a1 a3).bind fun v2=>(Dimpl_det3 a0 a1 a2).bind fun v3=>(Dimpl_weighs n [v0,w64 (0-v1),v2,w64 (0-v3)] [a0.D,a1.D,a2.D,a3.D]).bind fun v4=>some v4
theorem Timpl_clash4{Y}(n:Nat)(a0:Pl)(a1:Pl)(a2:Pl)(a3:Pl)(r:Bool)(h:Dimpl_clash4 n a0 a1 a2 a3=some r):Big Tryz.prog H Y (.call 182 [.agg [i64 a0.A,i64 a0.B,i64 a0.C,i64 a0.D],.agg [i64 a1.A,i64 a1.B,i64 a1.C,i64 a1.D],.agg [i64 a2.A,i64 a2.B,i64 a2.C,i64 a2.D],.agg [i64 a3.A,i64 a3.B,i64 a3.C,i64 a3.D]] (lk []) (bl r) (lk [])):=by
 unfold Dimpl_clash4 at h
 refine x_call (fn:=Tryz.f182) (c:=bodyOf Tryz.f182) (bs0:=[]) Tryz.func182 (by kernel_rfl) (by kernel_rfl) ?_
 obtain⟨v0,y0,h⟩:=bm h
 obtain⟨v1,y1,h⟩:=bm h
 obtain⟨v2,y2,h⟩:=bm h
 obtain⟨v3,y3,h⟩:=bm h
 obtain⟨v4,y4,h⟩:=bm h
 replace h:=sj h;subst h
 exact x_end 46 [(8,.call [] [] (i64 v0) []),(3,.call [] [] (i64 v1) []),(4,.call [] [] (i64 v2) []),(3,.call [] [] (i64 v3) []),(13,.call [] [(eInt).f [a0.D,a1.D,a2.D,a3.D],(eInt).f [v0,w64 (0-v1),v2,w64 (0-v3)]] (bl v4) [])] [] (ocons (Timpl_det3 (Y:=Y) a1 a2 a3 _ y0) (ocons (Timpl_det3 (Y:=Y) a0 a2 a3 _ y1) (ocons (Timpl_det3 (Y:=Y) a0 a1 a3 _ y2) (ocons (Timpl_det3 (Y:=Y) a0 a1 a2 _ y3) (ocons (Timpl_weighs (Y:=Y) n [v0,w64 (0-v1),v2,w64 (0-v3)] [a0.D,a1.D,a2.D,a3.D] _ y4) (ocons (len_row (L:=[v0,w64 (0-v1),v2,w64 (0-v3)]) eInt) (ocons (Enc.share eInt eInt sInt [v0,w64 (0-v1),v2,w64 (0-v3)]) (ocons (len_row (L:=[a0.D,a1.D,a2.D,a3.D]) eInt) (ocons (Enc.share eInt eInt sInt [a0.D,a1.D,a2.D,a3.D]) onil))))))))) onil 
def Dimpl_room_0(n:Nat)(rec1:Int→Option Bool)(_rec0:Int→Option Bool)(_t13:Int)(_t23:List Pl)(_t24 zah zai zaj zak:Int)(_t0:List Pl)(_t11:List Pl)(_t12 ze zf zs zt t25:Int)(t36:List Pl)(t37 zg zh zi zj:Int)(rec2:Int→Option Bool)(a:Int):Option Bool :=
 match a with
 | t38=>frk (decide (t38<t37)) ((lget t36 t38).bind fun v6=>(Dimpl_clash4 n v6 (Pl.mk zg zh zi zj) (Pl.mk zah zai zaj zak) (Pl.mk ze zf zs zt)).bind fun v7=>frk v7 (some false) (rec2 (w64 (t38+1)))) (rec1 (w64 (t25+1)))
theorem Timpl_room_0{Y}(n:Nat)(rec1:Int→Option Bool)(rec0:Int→Option Bool)(t13:Int)(t23:List Pl)(t24 zah zai zaj zak:Int)(t0:List Pl)(t11:List Pl)(t12 ze zf zs zt:Int)(hrec1:∀(a:Int) (r:Bool),rec1 a=some r→Wk Tryz.prog H Y 132 [.code (cp [1,0,1,0,0,1,1,0,0,1,1,1,0] (bodyOf Tryz.f132)),.blk 2,.blk 1,.code (cp [1,0,1,0,0,1,1,1] (bodyOf Tryz.f132)),.lp (cp [1,0,1,0] (bodyOf Tryz.f132)),.blk 0,.code (cp [1,1] (bodyOf Tryz.f132))] (FinX Tryz.prog Tryz.f132 [] (bl r) []) ⟨[(0,.sl false 4 t0.length ((ePl).f t0)),(3,.ptr 3 0),(6,.ptr 6 0),(11,.sl false 4 t11.length ((ePl).f t11)),(12,i64 t12),(13,i64 t13),(23,.sl false 4 t23.length ((ePl).f t23)),(24,i64 t24),(25,i64 a)],[(3,⟨true,0,[i64 ze,i64 zf,i64 zs,i64 zt]⟩),(6,⟨true,0,[i64 zah,i64 zai,i64 zaj,i64 zak]⟩)]⟩)(_hrec0:∀(a:Int) (r:Bool),rec0 a=some r→Wk Tryz.prog H Y 132 [.code (cp [1,0,1,0] (bodyOf Tryz.f132)),.blk 0,.code (cp [1,1] (bodyOf Tryz.f132))] (FinX Tryz.prog Tryz.f132 [] (bl r) []) ⟨[(0,.sl false 4 t0.length ((ePl).f t0)),(3,.ptr 3 0),(11,.sl false 4 t11.length ((ePl).f t11)),(12,i64 t12),(13,i64 a)],[(3,⟨true,0,[i64 ze,i64 zf,i64 zs,i64 zt]⟩)]⟩)(t25:Int)(t36:List Pl)(t37 zg zh zi zj:Int):∀(m:Nat) (a:Int) (r:Bool),loopN (Dimpl_room_0 n rec1 rec0 t13 t23 t24 zah zai zaj zak t0 t11 t12 ze zf zs zt t25 t36 t37 zg zh zi zj) m a=some r→Wk Tryz.prog H Y 132 [.code (cp [1,0,1,0,0,1,1,0,0,1,1,1,0,0,1,1,0,0,1,1,1,0] (bodyOf Tryz.f132)),.blk 4,.blk 3,.code (cp [1,0,1,0,0,1,1,0,0,1,1,1,0,0,1,1,1] (bodyOf Tryz.f132)),.lp (cp [1,0,1,0,0,1,1,0,0,1,1,1,0] (bodyOf Tryz.f132)),.blk 2,.blk 1,.code (cp [1,0,1,0,0,1,1,1] (bodyOf Tryz.f132)),.lp (cp [1,0,1,0] (bodyOf Tryz.f132)),.blk 0,.code (cp [1,1] (bodyOf Tryz.f132))] (FinX Tryz.prog Tryz.f132 [] (bl r) []) ⟨[(0,.sl false 4 t0.length ((ePl).f t0)),(3,.ptr 3 0),(6,.ptr 6 0),(8,.ptr 8 0),(11,.sl false 4 t11.length ((ePl).f t11)),(12,i64 t12),(13,i64 t13),(23,.sl false 4 t23.length ((ePl).f t23)),(24,i64 t24),(25,i64 t25),(36,.sl false 4 t36.length ((ePl).f t36)),(37,i64 t37),(38,i64 a)],[(3,⟨true,0,[i64 ze,i64 zf,i64 zs,i64 zt]⟩),(6,⟨true,0,[i64 zah,i64 zai,i64 zaj,i64 zak]⟩),(8,⟨true,0,[i64 zg,i64 zh,i64 zi,i64 zj]⟩)]⟩:=by
 refine loopN_ind (fun _rec2 hrec2 a r h=>?_)
 obtain⟨t38,rfl⟩:∃x,x=a:=⟨a,rfl⟩
 unfold Dimpl_room_0 at h
 refine x_frk 6 [] onil h (by kernel_rfl) (fun h=>?_) (fun h=>?_)
 ·obtain⟨v6,y6,h⟩:=bm h
  obtain⟨v7,y7,h⟩:=bm h
  refine x_frk 18 [(0,.val (.cptr (ePl.c v6++(ePl).f ((t36).drop (Int.toNat t38+1))))),(7,.call [] [] (bl v7) [])] (ocons (ix ePl y6) (ocons (Timpl_clash4 (Y:=Y) n v6 (Pl.mk zg zh zi zj) (Pl.mk zah zai zaj zak) (Pl.mk ze zf zs zt) _ y7) onil)) h (by kernel_rfl) (fun h=>?_) (fun h=>?_)
  ·replace h:=sj h;subst h
   exact x_end 4 [] [] onil onil 
  ·exact x_to 7 [] onil (hrec2 (w64 (t38+1)) r h) 
 ·exact x_to 7 [] onil (hrec1 (w64 (t25+1)) r h) 
def Dimpl_room_1(n:Nat)(rec0:Int→Option Bool)(t0:List Pl)(t11:List Pl)(t12 ze zf zs zt t13:Int)(t23:List Pl)(t24 zah zai zaj zak:Int)(rec1:Int→Option Bool)(a:Int):Option Bool :=
 match a with
 | t25=>frk (decide (t25<t24)) ((lget t23 t25).bind fun v3=>(Dimpl_clash3 n v3 (Pl.mk zah zai zaj zak) (Pl.mk ze zf zs zt)).bind fun v4=>frk v4 (some false) ((lsl t0 0 t25).bind fun v5=>loopN (Dimpl_room_0 n rec1 rec0 t13 t23 t24 zah zai zaj zak t0 t11 t12 ze zf zs zt t25 v5 (v5.length:Int) v3.A v3.B v3.C v3.D) n 0)) (rec0 (w64 (t13+1)))
theorem Timpl_room_1{Y}(n:Nat)(rec0:Int→Option Bool)(t0:List Pl)(t11:List Pl)(t12 ze zf zs zt:Int)(hrec0:∀(a:Int) (r:Bool),rec0 a=some r→Wk Tryz.prog H Y 132 [.code (cp [1,0,1,0] (bodyOf Tryz.f132)),.blk 0,.code (cp [1,1] (bodyOf Tryz.f132))] (FinX Tryz.prog Tryz.f132 [] (bl r) []) ⟨[(0,.sl false 4 t0.length ((ePl).f t0)),(3,.ptr 3 0),(11,.sl false 4 t11.length ((ePl).f t11)),(12,i64 t12),(13,i64 a)],[(3,⟨true,0,[i64 ze,i64 zf,i64 zs,i64 zt]⟩)]⟩)(t13:Int)(t23:List Pl)(t24 zah zai zaj zak:Int):∀(m:Nat) (a:Int) (r:Bool),loopN (Dimpl_room_1 n rec0 t0 t11 t12 ze zf zs zt t13 t23 t24 zah zai zaj zak) m a=some r→Wk Tryz.prog H Y 132 [.code (cp [1,0,1,0,0,1,1,0,0,1,1,1,0] (bodyOf Tryz.f132)),.blk 2,.blk 1,.code (cp [1,0,1,0,0,1,1,1] (bodyOf Tryz.f132)),.lp (cp [1,0,1,0] (bodyOf Tryz.f132)),.blk 0,.code (cp [1,1] (bodyOf Tryz.f132))] (FinX Tryz.prog Tryz.f132 [] (bl r) []) ⟨[(0,.sl false 4 t0.length ((ePl).f t0)),(3,.ptr 3 0),(6,.ptr 6 0),(11,.sl false 4 t11.length ((ePl).f t11)),(12,i64 t12),(13,i64 t13),(23,.sl false 4 t23.length ((ePl).f t23)),(24,i64 t24),(25,i64 a)],[(3,⟨true,0,[i64 ze,i64 zf,i64 zs,i64 zt]⟩),(6,⟨true,0,[i64 zah,i64 zai,i64 zaj,i64 zak]⟩)]⟩:=by
 refine loopN_ind (fun rec1 hrec1 a r h=>?_)
 obtain⟨t25,rfl⟩:∃x,x=a:=⟨a,rfl⟩
 unfold Dimpl_room_1 at h
 refine x_frk 6 [] onil h (by kernel_rfl) (fun h=>?_) (fun h=>?_)
 ·obtain⟨v3,y3,h⟩:=bm h
  obtain⟨v4,y4,h⟩:=bm h
  refine x_frk 20 [(1,.val (.cptr (ePl.c v3++(ePl).f ((t23).drop (Int.toNat t25+1))))),(7,.call [] [] (bl v4) [])] (ocons (ix ePl y3) (ocons (Timpl_clash3 (Y:=Y) n v3 (Pl.mk zah zai zaj zak) (Pl.mk ze zf zs zt) _ y4) onil)) h (by kernel_rfl) (fun h=>?_) (fun h=>?_)
  ·replace h:=sj h;subst h
   exact x_end 4 [] [] onil onil 
  ·obtain⟨v5,y5,h⟩:=bm h
   exact x_to 10 [(2,.val (.sl false 4 v5.length ((ePl).f v5)))] (ocons (slF ePl y5) onil) (Timpl_room_0 n rec1 rec0 t13 t23 t24 zah zai zaj zak t0 t11 t12 ze zf zs zt hrec1 hrec0 t25 v5 (v5.length:Int) v3.A v3.B v3.C v3.D n 0 r h) 
 ·exact x_to 7 [] onil (hrec0 (w64 (t13+1)) r h) 
def Dimpl_room_2(n:Nat)(t0:List Pl)(t11:List Pl)(t12 ze zf zs zt:Int)(rec0:Int→Option Bool)(a:Int):Option Bool :=
 match a with
 | t13=>frk (decide (t13<t12)) ((lget t11 t13).bind fun v0=>(Dimpl_clash2 n v0 (Pl.mk ze zf zs zt)).bind fun v1=>frk v1 (some false) ((lsl t0 0 t13).bind fun v2=>loopN (Dimpl_room_1 n rec0 t0 t11 t12 ze zf zs zt t13 v2 (v2.length:Int) v0.A v0.B v0.C v0.D) n 0)) (some true)
theorem Timpl_room_2{Y}(n:Nat)(t0:List Pl)(t11:List Pl)(t12 ze zf zs zt:Int):∀(m:Nat) (a:Int) (r:Bool),loopN (Dimpl_room_2 n t0 t11 t12 ze zf zs zt) m a=some r→Wk Tryz.prog H Y 132 [.code (cp [1,0,1,0] (bodyOf Tryz.f132)),.blk 0,.code (cp [1,1] (bodyOf Tryz.f132))] (FinX Tryz.prog Tryz.f132 [] (bl r) []) ⟨[(0,.sl false 4 t0.length ((ePl).f t0)),(3,.ptr 3 0),(11,.sl false 4 t11.length ((ePl).f t11)),(12,i64 t12),(13,i64 a)],[(3,⟨true,0,[i64 ze,i64 zf,i64 zs,i64 zt]⟩)]⟩:=by
 refine loopN_ind (fun rec0 hrec0 a r h=>?_)
 obtain⟨t13,rfl⟩:∃x,x=a:=⟨a,rfl⟩
 unfold Dimpl_room_2 at h
 refine x_frk 6 [] onil h (by kernel_rfl) (fun h=>?_) (fun h=>?_)
 ·obtain⟨v0,y0,h⟩:=bm h
  obtain⟨v1,y1,h⟩:=bm h
  refine x_frk 19 [(1,.val (.cptr (ePl.c v0++(ePl).f ((t11).drop (Int.toNat t13+1))))),(6,.call [] [] (bl v1) [])] (ocons (ix ePl y0) (ocons (Timpl_clash2 (Y:=Y) n v0 (Pl.mk ze zf zs zt) _ y1) onil)) h (by kernel_rfl) (fun h=>?_) (fun h=>?_)
  ·replace h:=sj h;subst h
   exact x_end 4 [] [] onil onil 
  ·obtain⟨v2,y2,h⟩:=bm h
   exact x_to 10 [(2,.val (.sl false 4 v2.length ((ePl).f v2)))] (ocons (slF ePl y2) onil) (Timpl_room_1 n rec0 t0 t11 t12 ze zf zs zt hrec0 t13 v2 (v2.length:Int) v0.A v0.B v0.C v0.D n 0 r h) 
 ·replace h:=sj h;subst h
  exact x_end 5 [] [] onil onil 
def Dimpl_room(n:Nat)(a0:(List Pl))(a1:Pl):Option Bool :=
 loopN (Dimpl_room_2 n a0 a0 (a0.length:Int) a1.A a1.B a1.C a1.D) n 0
theorem Timpl_room{Y}(n:Nat)(a0:(List Pl))(a1:Pl)(r:Bool)(h:Dimpl_room n a0 a1=some r):Big Tryz.prog H Y (.call 132 [.sl false 4 a0.length ((ePl).f a0),.agg [i64 a1.A,i64 a1.B,i64 a1.C,i64 a1.D]] (lk []) (bl r) (lk [])):=by
 unfold Dimpl_room at h
 refine x_call (fn:=Tryz.f132) (c:=bodyOf Tryz.f132) (bs0:=[]) Tryz.func132 (by kernel_rfl) (by kernel_rfl) ?_
 exact x_to 13 [] onil (Timpl_room_2 n a0 a0 (a0.length:Int) a1.A a1.B a1.C a1.D n 0 r h) 
def Dimpl_with(a0:(List Pl))(a1:Pl):Option (List Pl) :=
 chk (apB 32 (0+a0.length)) (chk (apB 32 (([]++a0).length+1)) (some (([]++a0)++[a1])))
theorem Timpl_with{Y}(a0:(List Pl))(a1:Pl)(r:(List Pl))(h:Dimpl_with a0 a1=some r):Big Tryz.prog H Y (.call 126 [.sl false 4 a0.length ((ePl).f a0),.agg [i64 a1.A,i64 a1.B,i64 a1.C,i64 a1.D]] (lk []) (.sl true 4 r.length ((ePl).f r)) (lk [])):=by
 unfold Dimpl_with at h
 refine x_call (fn:=Tryz.f126) (c:=bodyOf Tryz.f126) (bs0:=[]) Tryz.func126 (by kernel_rfl) (by kernel_rfl) ?_
 obtain⟨c0,h⟩:=chk_some h
 obtain⟨c1,h⟩:=chk_some h
 replace h:=sj h;subst h
 exact x_end 15 [(4,.app false (List.length ([]++a0)) ((ePl).f ([]++a0))),(2,.app false (List.length (([]++a0)++[a1])) ((ePl).f (([]++a0)++[a1])))] [] (ocons (len_row' (L:=[]) ePl) (ocons (app_one (L:=[]) (M:=a0) ePl c0) (ocons (app_new (L:=[]) (M:=a0) ePl) (ocons (app_m (L:=[]) (M:=a0) ePl rfl) (ocons (len_row' (L:=a0) ePl) (ocons (len_row' (L:=([]++a0)) ePl) (ocons (app_one (L:=([]++a0)) (M:=[a1]) ePl c1) (ocons (app_new (L:=([]++a0)) (M:=[a1]) ePl) (ocons (app_m (L:=([]++a0)) (M:=[a1]) ePl rfl) (ocons (len_row' (L:=[a1]) ePl) (ocons (Enc.noOwn ePl (fun _=>rfl) [a1]) onil))))))))))) (ocons (len_row (L:=(([]++a0)++[a1])) ePl) onil) 
def Dimpl_checker_right_1(_n:Nat)(self:(Int×Sol×(List Pl))→Option (Bool×Int))(t2:List Pl)(t59 _za:Bool)(zu zv zw zam:Int)(zas:List Sol)(zab zac zad zat zp:Int):Option (Bool×Int) :=
 frk t59 (some (false,zp)) ((lget zas 0).bind fun v5=>(Dimpl_with t2 (Pl.mk zu zv zw zam)).bind fun v6=>(self (zp,v5,v6)).bind fun v7=>frk v7.1 ((lget zas 1).bind fun v8=>(Dimpl_with t2 (Pl.mk zab zac zad zat)).bind fun v9=>(self (v7.2,v8,v9)).bind fun v10=>some v10) (some (false,v7.2)))
theorem Timpl_checker_right_1{Y}(n:Nat)(self:(Int×Sol×(List Pl))→Option (Bool×Int))(hself:∀(a:(Int×Sol×(List Pl))) (r:(Bool×Int)),self a=some r→Big Tryz.prog H Y (.call 92 [.ptr 1000 0,eF a.2.1,.sl false 4 a.2.2.length ((ePl).f a.2.2)] (lk [(1000,⟨true,0,[i64 a.1]⟩)]) (bl r.1) (lk [(1000,⟨true,0,[i64 r.2]⟩)])))(t2:List Pl)(t59 za:Bool)(zu zv zw zam:Int)(zas:List Sol)(zab zac zad zat zp:Int)(r:(Bool×Int))(h:Dimpl_checker_right_1 n self t2 t59 za zu zv zw zam zas zab zac zad zat zp=some r):Wk Tryz.prog H Y 92 [.code (cp [1,1,1,1,1,0,1] (bodyOf Tryz.f92)),.code (cp [1,1,1,1,1,1] (bodyOf Tryz.f92))] (FinX Tryz.prog Tryz.f92 [(1000,⟨true,0,[.bad]⟩)] (bl r.1) [(1000,⟨true,0,[i64 r.2]⟩)]) ⟨[(0,.ptr 1000 0),(2,.sl false 4 t2.length ((ePl).f t2)),(4,.ptr 4 0),(7,.ptr 7 0),(59,bl t59)],[(4,⟨true,0,[bl za,i64 zu,i64 zv,i64 zw,i64 zam,.sl false 6 zas.length ((eSol false).f zas)]⟩),(7,⟨true,0,[i64 zab,i64 zac,i64 zad,i64 zat]⟩),(1000,⟨true,0,[i64 zp]⟩)]⟩:=by
 unfold Dimpl_checker_right_1 at h
 refine x_frk 0 [] onil h (by kernel_rfl) (fun h=>?_) (fun h=>?_)
 ·replace h:=sj h;subst h
  exact x_end 4 [] [] onil onil 
 ·obtain⟨v5,y5,h⟩:=bm h
  obtain⟨v6,y6,h⟩:=bm h
  obtain⟨v7,y7,h⟩:=bm h
  refine x_frk 14 [(3,.val (.cptr ((eSol false).c v5++(eSol false).f ((zas).drop (Int.toNat 0+1))))),(4,.call [] [] (.sl false 4 v6.length ((ePl).f v6)) []),(0,.call [] [] (bl v7.1) [(1000,⟨true,0,[i64 v7.2]⟩)])] (ocons (ix (eSol false) y5) (ocons (shSl (L:=v6) ePl ePl sPl (Timpl_with (Y:=Y) t2 (Pl.mk zu zv zw zam) _ y6)) (ocons (hself (zp,v5,v6) _ y7) onil))) h (by kernel_rfl) (fun h=>?_) (fun h=>?_)
  ·obtain⟨v8,y8,h⟩:=bm h
   obtain⟨v9,y9,h⟩:=bm h
   obtain⟨v10,y10,h⟩:=bm h
   replace h:=sj h;subst h
   exact x_end 12 [(3,.val (.cptr ((eSol false).c v8++(eSol false).f ((zas).drop (Int.toNat 1+1))))),(3,.call [] [] (.sl false 4 v9.length ((ePl).f v9)) []),(0,.call [] [] (bl v10.1) [(1000,⟨true,0,[i64 v10.2]⟩)])] [] (ocons (ix (eSol false) y8) (ocons (shSl (L:=v9) ePl ePl sPl (Timpl_with (Y:=Y) t2 (Pl.mk zab zac zad zat) _ y9)) (ocons (hself (v7.2,v8,v9) _ y10) onil))) onil 
  ·replace h:=sj h;subst h
   exact x_end 12 [] [] onil onil 
def Dimpl_checker_right_0(n:Nat)(self:(Int×Sol×(List Pl))→Option (Bool×Int))(t2:List Pl)(t45 za:Bool)(zu zv zw zam:Int)(zas:List Sol)(zp:Int):Option (Bool×Int) :=
 frk t45 (some (false,zp)) ((Dimpl_flip (Pl.mk zu zv zw zam)).bind fun v2=>(Dimpl_room n t2 (Pl.mk zu zv zw zam)).bind fun v3=>frk (!v3) (some (false,zp)) ((Dimpl_room n t2 v2).bind fun v4=>Dimpl_checker_right_1 n self t2 (!v4) za zu zv zw zam zas v2.A v2.B v2.C v2.D zp))
theorem Timpl_checker_right_0{Y}(n:Nat)(self:(Int×Sol×(List Pl))→Option (Bool×Int))(hself:∀(a:(Int×Sol×(List Pl))) (r:(Bool×Int)),self a=some r→Big Tryz.prog H Y (.call 92 [.ptr 1000 0,eF a.2.1,.sl false 4 a.2.2.length ((ePl).f a.2.2)] (lk [(1000,⟨true,0,[i64 a.1]⟩)]) (bl r.1) (lk [(1000,⟨true,0,[i64 r.2]⟩)])))(t2:List Pl)(t45 za:Bool)(zu zv zw zam:Int)(zas:List Sol)(zp:Int)(r:(Bool×Int))(h:Dimpl_checker_right_0 n self t2 t45 za zu zv zw zam zas zp=some r):Wk Tryz.prog H Y 92 [.code (cp [1,1,1,0,1] (bodyOf Tryz.f92)),.code (cp [1,1,1,1] (bodyOf Tryz.f92))] (FinX Tryz.prog Tryz.f92 [(1000,⟨true,0,[.bad]⟩)] (bl r.1) [(1000,⟨true,0,[i64 r.2]⟩)]) ⟨[(0,.ptr 1000 0),(2,.sl false 4 t2.length ((ePl).f t2)),(4,.ptr 4 0),(45,bl t45)],[(4,⟨true,0,[bl za,i64 zu,i64 zv,i64 zw,i64 zam,.sl false 6 zas.length ((eSol false).f zas)]⟩),(1000,⟨true,0,[i64 zp]⟩)]⟩:=by
 unfold Dimpl_checker_right_0 at h
 refine x_frk 0 [] onil h (by kernel_rfl) (fun h=>?_) (fun h=>?_)
 ·replace h:=sj h;subst h
  exact x_end 4 [] [] onil onil 
 ·obtain⟨v2,y2,h⟩:=bm h
  obtain⟨v3,y3,h⟩:=bm h
  refine x_frk 18 [(2,.call [] [] (.agg [i64 v2.A,i64 v2.B,i64 v2.C,i64 v2.D]) []),(5,.call [] [] (bl v3) [])] (ocons (Timpl_flip (Y:=Y) (Pl.mk zu zv zw zam) _ y2) (ocons (Timpl_room (Y:=Y) n t2 (Pl.mk zu zv zw zam) _ y3) onil)) h (by kernel_rfl) (fun h=>?_) (fun h=>?_)
  ·replace h:=sj h;subst h
   exact x_end 11 [] [] onil onil 
  ·obtain⟨v4,y4,h⟩:=bm h
   exact x_to 6 [(2,.call [] [] (bl v4) [])] (ocons (Timpl_room (Y:=Y) n t2 v2 _ y4) onil) (Timpl_checker_right_1 n self hself t2 (!v4) za zu zv zw zam zas v2.A v2.B v2.C v2.D zp r h) 
def Dimpl_checker_right_b(n:Nat)(self:(Int×Sol×(List Pl))→Option (Bool×Int))(a:(Int×Sol×(List Pl))):Option (Bool×Int) :=
 match a with
 | (a0,a1,a2)=>(Dimpl_Solid_isLeaf a1).bind fun v0=>frk v0 (some ((a1.pl.A==0&&(a1.pl.B==0&&(a1.pl.C==0&&(a1.pl.D==0&&true)))),a0)) (frk a1.inn (some (false,w64 (a0+1))) (frk ((a1.kids.length:Int) != 2) (some (false,w64 (a0+1))) (frk (decide ((w64 (a0+1))>300)) (some (false,w64 (a0+1))) (frk (decide ((a2.length:Int)≥24)) (some (false,w64 (a0+1))) ((Dimpl_PlaneOk n a1.pl).bind fun v1=>Dimpl_checker_right_0 n self a2 (!v1) a1.inn a1.pl.A a1.pl.B a1.pl.C a1.pl.D a1.kids (w64 (a0+1)))))))
def Dimpl_checker_right(n:Nat)(a0:Int)(a1:Sol)(a2:(List Pl)):Option (Bool×Int):=loopN (Dimpl_checker_right_b n) n (a0,a1,a2)
theorem Timpl_checker_right_b{Y}(n:Nat):∀(m:Nat) (a:(Int×Sol×(List Pl))) (r:(Bool×Int)),loopN (Dimpl_checker_right_b n) m a=some r→∀(_:Unit),Big Tryz.prog H Y (.call 92 [.ptr 1000 0,eF a.2.1,.sl false 4 a.2.2.length ((ePl).f a.2.2)] (lk [(1000,⟨true,0,[i64 a.1]⟩)]) (bl r.1) (lk [(1000,⟨true,0,[i64 r.2]⟩)])):=by
 refine loopN_ind (fun self hs a r h=>?_)
 have hself:∀(a:(Int×Sol×(List Pl))) (r:(Bool×Int)),self a=some r→Big Tryz.prog H Y (.call 92 [.ptr 1000 0,eF a.2.1,.sl false 4 a.2.2.length ((ePl).f a.2.2)] (lk [(1000,⟨true,0,[i64 a.1]⟩)]) (bl r.1) (lk [(1000,⟨true,0,[i64 r.2]⟩)])):=fun a r h=>hs a r h ()
 intro _
 obtain⟨a0,a1,a2⟩:=a
 unfold Dimpl_checker_right_b at h
 refine x_call (fn:=Tryz.f92) (c:=bodyOf Tryz.f92) (bs0:=[(1000,⟨true,0,[.bad]⟩)]) Tryz.func92 (by kernel_rfl) (by kernel_rfl) ?_
 obtain⟨v0,y0,h⟩:=bm h
 refine x_frk 10 [(2,.call [] [] (bl v0) [])] (ocons (Timpl_Solid_isLeaf (Y:=Y) a1 [] _ y0) onil) h (by kernel_rfl) (fun h=>?_) (fun h=>?_)
 ·replace h:=sj h;subst h
  exact x_end 8 [] [] onil onil 
 ·refine x_frk 18 [] onil h (by kernel_rfl) (fun h=>?_) (fun h=>?_)
  ·replace h:=sj h;subst h
   exact x_end 29 [] [] onil onil 
  ·refine x_frk 6 [] onil h (by kernel_rfl) (fun h=>?_) (fun h=>?_)
   ·replace h:=sj h;subst h
    exact x_end 23 [] [] onil onil 
   ·refine x_frk 7 [] onil h (by kernel_rfl) (fun h=>?_) (fun h=>?_)
    ·replace h:=sj h;subst h
     exact x_end 16 [] [] onil onil 
    ·refine x_frk 5 [] onil h (by kernel_rfl) (fun h=>?_) (fun h=>?_)
     ·replace h:=sj h;subst h
      exact x_end 11 [] [] onil onil 
     ·obtain⟨v1,y1,h⟩:=bm h
      exact x_to 6 [(2,.call [] [] (bl v1) [])] (ocons (Timpl_PlaneOk (Y:=Y) n a1.pl _ y1) onil) (Timpl_checker_right_0 n self hself a2 (!v1) a1.inn a1.pl.A a1.pl.B a1.pl.C a1.pl.D a1.kids (w64 (a0+1)) r h) 
theorem Timpl_checker_right{Y}(n:Nat)(a0:Int)(a1:Sol)(a2:(List Pl))(r:(Bool×Int))(h:Dimpl_checker_right n a0 a1 a2=some r):Big Tryz.prog H Y (.call 92 [.ptr 1000 0,eF a1,.sl false 4 a2.length ((ePl).f a2)] (lk [(1000,⟨true,0,[i64 a0]⟩)]) (bl r.1) (lk [(1000,⟨true,0,[i64 r.2]⟩)])):=Timpl_checker_right_b n n (a0,a1,a2) r h ()
def Dimpl_SolidOk(n:Nat)(a0:Sol):Option Bool :=
 (Dimpl_checker_right n 0 a0 []).bind fun v0=>some v0.1
theorem Timpl_SolidOk{Y}(n:Nat)(a0:Sol)(r:Bool)(h:Dimpl_SolidOk n a0=some r):Big Tryz.prog H Y (.call 37 [eF a0] (lk []) (bl r) (lk [])):=by
 unfold Dimpl_SolidOk at h
 refine x_call (fn:=Tryz.f37) (c:=bodyOf Tryz.f37) (bs0:=[]) Tryz.func37 (by kernel_rfl) (by kernel_rfl) ?_
 obtain⟨v0,y0,h⟩:=bm h
 replace h:=sj h;subst h
 exact x_end 15 [(4,.call [(false,4)] [] (bl v0.1) [(1000,⟨true,0,[i64 v0.2]⟩)])] [] (ocons (Timpl_checker_right (Y:=Y) n 0 a0 [] _ y0) onil) onil 
def Dslices_Clone(a0:(List Pl)):Option (List Pl) :=
 chk (apB 32 (0+a0.length)) (some ([]++a0))
theorem Tslices_Clone{Y}(a0:(List Pl))(r:(List Pl))(h:Dslices_Clone a0=some r):Big Tryz.prog H Y (.call 125 [.sl false 4 a0.length ((ePl).f a0)] (lk []) (.sl true 4 r.length ((ePl).f r)) (lk [])):=by
 unfold Dslices_Clone at h
 refine x_clone (fn:=Tryz.f125) (c:=bodyOf Tryz.f125) 0 3 4 (lq:=⟨[(2,.nil),(0,.sl false 4 a0.length ((ePl).f a0))],[]⟩) (z:=4) (ct:=a0.length) (cs:=(ePl).f a0) Tryz.func125 (by kernel_rfl) (by kernel_rfl) (x_at 3 (by kernel_rfl)) (fun b hb=>?_)
 cases b
 ·obtain⟨c0,h⟩:=chk_some h
  replace h:=sj h;subst h
  exact x_end 9 [(2,.app false (List.length ([]++a0)) ((ePl).f ([]++a0)))] [] (ocons (len_row' (L:=[]) ePl) (ocons (app_one (L:=[]) (M:=a0) ePl c0) (ocons (app_new (L:=[]) (M:=a0) ePl) (ocons (app_m (L:=[]) (M:=a0) ePl rfl) (ocons (len_row' (L:=a0) ePl) onil))))) (ocons (len_row (L:=([]++a0)) ePl) onil) 
 ·have h0:a0=[]:=List.eq_nil_of_length_eq_zero (hb rfl)
  subst h0
  replace h:some []=some r:=h
  replace h:=sj h;subst h
  exact x_end 5 [] [(true,4)] onil onil 
def Dimpl_Solid_cells_b(_n:Nat)(self:(Sol×Bool×(List Pl))→Option (List (List Pl)))(a:(Sol×Bool×(List Pl))):Option (List (List Pl)) :=
 match a with
 | (a0,a1,a2)=>(Dimpl_Solid_isLeaf a0).bind fun v0=>frk v0 (frk (a0.inn==a1) ((Dslices_Clone a2).bind fun v1=>some [v1]) (some [])) ((lget a0.kids 0).bind fun v2=>(Dimpl_with a2 a0.pl).bind fun v3=>(self (v2,a1,v3)).bind fun v4=>(lget a0.kids 1).bind fun v5=>(Dimpl_flip a0.pl).bind fun v6=>(Dimpl_with a2 v6).bind fun v7=>(self (v5,a1,v7)).bind fun v8=>chk (apB 24 (v4.length+v8.length)) (some (v4++v8)))
def Dimpl_Solid_cells(n:Nat)(a0:Sol)(a1:Bool)(a2:(List Pl)):Option (List (List Pl)):=loopN (Dimpl_Solid_cells_b n) n (a0,a1,a2)
theorem Timpl_Solid_cells_b{Y}(n:Nat):∀(m:Nat) (a:(Sol×Bool×(List Pl))) (r:(List (List Pl))),loopN (Dimpl_Solid_cells_b n) m a=some r→∀(q0:List AV),Big Tryz.prog H Y (.call 62 [.cptr ([bl a.1.inn,i64 a.1.pl.A,i64 a.1.pl.B,i64 a.1.pl.C,i64 a.1.pl.D,.sl false 6 a.1.kids.length ((eSol false).f a.1.kids)]++q0),bl a.2.1,.sl false 4 a.2.2.length ((ePl).f a.2.2)] (lk []) (.sl true 1 r.length ((ePls true).f r)) (lk [])):=by
 refine loopN_ind (fun self hs a r h=>?_)
 have hself:∀(a:(Sol×Bool×(List Pl))) (q0:List AV) (r:(List (List Pl))),self a=some r→Big Tryz.prog H Y (.call 62 [.cptr ([bl a.1.inn,i64 a.1.pl.A,i64 a.1.pl.B,i64 a.1.pl.C,i64 a.1.pl.D,.sl false 6 a.1.kids.length ((eSol false).f a.1.kids)]++q0),bl a.2.1,.sl false 4 a.2.2.length ((ePl).f a.2.2)] (lk []) (.sl true 1 r.length ((ePls true).f r)) (lk [])):=fun a q0 r h=>hs a r h q0
 intro q0
 obtain⟨a0,a1,a2⟩:=a
 unfold Dimpl_Solid_cells_b at h
 refine x_call (fn:=Tryz.f62) (c:=bodyOf Tryz.f62) (bs0:=[]) Tryz.func62 (by kernel_rfl) (by kernel_rfl) ?_
 obtain⟨v0,y0,h⟩:=bm h
 refine x_frk 10 [(2,.call [] [] (bl v0) [])] (ocons (Timpl_Solid_isLeaf (Y:=Y) a0 q0 _ y0) onil) h (by kernel_rfl) (fun h=>?_) (fun h=>?_)
 ·refine x_frk 10 [] onil h (by kernel_rfl) (fun h=>?_) (fun h=>?_)
  ·obtain⟨v1,y1,h⟩:=bm h
   replace h:=sj h;subst h
   exact x_end 7 [(1,.call [] [] (.sl true 4 v1.length ((ePl).f v1)) [])] [] (ocons (Tslices_Clone (Y:=Y) a2 _ y1) (ocons (len_row (L:=v1) ePl) onil)) (ocons (len_row (L:=[v1]) (ePls true)) onil) 
  ·replace h:=sj h;subst h
   exact x_end 5 [] [(true,1)] onil onil 
 ·obtain⟨v2,y2,h⟩:=bm h
  obtain⟨v3,y3,h⟩:=bm h
  obtain⟨v4,y4,h⟩:=bm h
  obtain⟨v5,y5,h⟩:=bm h
  obtain⟨v6,y6,h⟩:=bm h
  obtain⟨v7,y7,h⟩:=bm h
  obtain⟨v8,y8,h⟩:=bm h
  obtain⟨c9,h⟩:=chk_some h
  replace h:=sj h;subst h
  exact x_end 38 [(4,.val (.cptr ((eSol false).c v2++(eSol false).f ((a0.kids).drop (Int.toNat 0+1))))),(6,.call [] [] (.sl false 4 v3.length ((ePl).f v3)) []),(0,.call [] [] (.sl true 1 v4.length ((ePls true).f v4)) []),(6,.val (.cptr ((eSol false).c v5++(eSol false).f ((a0.kids).drop (Int.toNat 1+1))))),(6,.call [] [] (.agg [i64 v6.A,i64 v6.B,i64 v6.C,i64 v6.D]) []),(0,.call [] [] (.sl false 4 v7.length ((ePl).f v7)) []),(0,.call [] [] (.sl true 1 v8.length ((ePls true).f v8)) []),(0,.app true (List.length (v4++v8)) ((ePls true).f (v4++v8)))] [] (ocons (ix (eSol false) y2) (ocons (shSl (L:=v3) ePl ePl sPl (Timpl_with (Y:=Y) a2 a0.pl _ y3)) (ocons (hself (v2,a1,v3) ((eSol false).f ((a0.kids).drop (Int.toNat 0+1))) _ y4) (ocons (ix (eSol false) y5) (ocons (Timpl_flip (Y:=Y) a0.pl _ y6) (ocons (shSl (L:=v7) ePl ePl sPl (Timpl_with (Y:=Y) a2 v6 _ y7)) (ocons (hself (v5,a1,v7) ((eSol false).f ((a0.kids).drop (Int.toNat 1+1))) _ y8) (ocons (len_row' (L:=v4) (ePls true)) (ocons (app_one (L:=v4) (M:=v8) (ePls true) c9) (ocons (app_new (L:=v4) (M:=v8) (ePls true)) (ocons (app_m (L:=v4) (M:=v8) (ePls true) rfl) (ocons (len_row' (L:=v8) (ePls true)) onil)))))))))))) (ocons (len_row (L:=(v4++v8)) (ePls true)) onil) 
theorem Timpl_Solid_cells{Y}(n:Nat)(a0:Sol)(a1:Bool)(a2:(List Pl))(q0:List AV)(r:(List (List Pl)))(h:Dimpl_Solid_cells n a0 a1 a2=some r):Big Tryz.prog H Y (.call 62 [.cptr ([bl a0.inn,i64 a0.pl.A,i64 a0.pl.B,i64 a0.pl.C,i64 a0.pl.D,.sl false 6 a0.kids.length ((eSol false).f a0.kids)]++q0),bl a1,.sl false 4 a2.length ((ePl).f a2)] (lk []) (.sl true 1 r.length ((ePls true).f r)) (lk [])):=Timpl_Solid_cells_b n n (a0,a1,a2) r h q0
def Dimpl_Cells(n:Nat)(a0:Sol)(a1:Bool):Option (List (List Pl)) :=
 (Dimpl_SolidOk n a0).bind fun v0=>frk (!v0) (some []) ((Dimpl_Solid_cells n a0 a1 []).bind fun v1=>some v1)
theorem Timpl_Cells{Y}(n:Nat)(a0:Sol)(a1:Bool)(r:(List (List Pl)))(h:Dimpl_Cells n a0 a1=some r):Big Tryz.prog H Y (.call 19 [eF a0,bl a1] (lk []) (.sl true 1 r.length ((ePls true).f r)) (lk [])):=by
 unfold Dimpl_Cells at h
 refine x_call (fn:=Tryz.f19) (c:=bodyOf Tryz.f19) (bs0:=[]) Tryz.func19 (by kernel_rfl) (by kernel_rfl) ?_
 obtain⟨v0,y0,h⟩:=bm h
 refine x_frk 12 [(3,.call [] [] (bl v0) [])] (ocons (Timpl_SolidOk (Y:=Y) n a0 _ y0) onil) h (by kernel_rfl) (fun h=>?_) (fun h=>?_)
 ·replace h:=sj h;subst h
  exact x_end 4 [] [(true,1)] onil onil 
 ·obtain⟨v1,y1,h⟩:=bm h
  replace h:=sj h;subst h
  exact x_end 7 [(1,.call [(false,4)] [] (.sl true 1 v1.length ((ePls true).f v1)) [])] [] (ocons (Timpl_Solid_cells (Y:=Y) n a0 a1 [] [] _ y1) (ocons (show hasSh (.sl true 1 v1.length ((ePls true).f v1))=false by simp[hasSh,hasShL,nSh,nShI,nShB,nShP,nShT,nShN,nShPs]) onil)) (ocons (len_row (L:=v1) (ePls true)) onil) 
def Dimpl_planesOk_0(n:Nat)(t5:List Pl)(t6:Int)(rec0:Int→Option Bool)(a:Int):Option Bool :=
 match a with
 | t7=>frk (decide (t7<t6)) ((lget t5 t7).bind fun v0=>(Dimpl_PlaneOk n v0).bind fun v1=>frk (!v1) (some false) (rec0 (w64 (t7+1)))) (some true)
theorem Timpl_planesOk_0{Y}(n:Nat)(t5:List Pl)(t6:Int):∀(m:Nat) (a:Int) (r:Bool),loopN (Dimpl_planesOk_0 n t5 t6) m a=some r→Wk Tryz.prog H Y 64 [.code (cp [1,0,1,0] (bodyOf Tryz.f64)),.blk 0,.code (cp [1,1] (bodyOf Tryz.f64))] (FinX Tryz.prog Tryz.f64 [] (bl r) []) ⟨[(5,.sl false 4 t5.length ((ePl).f t5)),(6,i64 t6),(7,i64 a)],[]⟩:=by
 refine loopN_ind (fun _rec0 hrec0 a r h=>?_)
 obtain⟨t7,rfl⟩:∃x,x=a:=⟨a,rfl⟩
 unfold Dimpl_planesOk_0 at h
 refine x_frk 6 [] onil h (by kernel_rfl) (fun h=>?_) (fun h=>?_)
 ·obtain⟨v0,y0,h⟩:=bm h
  obtain⟨v1,y1,h⟩:=bm h
  refine x_frk 16 [(0,.val (.cptr (ePl.c v0++(ePl).f ((t5).drop (Int.toNat t7+1))))),(4,.call [] [] (bl v1) [])] (ocons (ix ePl y0) (ocons (Timpl_PlaneOk (Y:=Y) n v0 _ y1) onil)) h (by kernel_rfl) (fun h=>?_) (fun h=>?_)
  ·replace h:=sj h;subst h
   exact x_end 4 [] [] onil onil 
  ·exact x_to 7 [] onil (hrec0 (w64 (t7+1)) r h) 
 ·replace h:=sj h;subst h
  exact x_end 5 [] [] onil onil 
def Dimpl_planesOk(n:Nat)(a0:(List Pl)):Option Bool :=
 loopN (Dimpl_planesOk_0 n a0 (a0.length:Int)) n 0
theorem Timpl_planesOk{Y}(n:Nat)(a0:(List Pl))(r:Bool)(h:Dimpl_planesOk n a0=some r):Big Tryz.prog H Y (.call 64 [.sl false 4 a0.length ((ePl).f a0)] (lk []) (bl r) (lk [])):=by
 unfold Dimpl_planesOk at h
 refine x_call (fn:=Tryz.f64) (c:=bodyOf Tryz.f64) (bs0:=[]) Tryz.func64 (by kernel_rfl) (by kernel_rfl) ?_
 exact x_to 12 [] onil (Timpl_planesOk_0 n a0 (a0.length:Int) n 0 r h) 
def Dimpl_open_0(n:Nat)(t0:List Pl)(t5:List Pl)(t6:Int)(rec0:Int→Option Bool)(a:Int):Option Bool :=
 match a with
 | t7=>frk (decide (t7<t6)) ((lget t5 t7).bind fun v0=>(lsl t0 0 t7).bind fun v1=>(Dimpl_room n v1 v0).bind fun v2=>frk (!v2) (some false) (rec0 (w64 (t7+1)))) (some true)
theorem Timpl_open_0{Y}(n:Nat)(t0:List Pl)(t5:List Pl)(t6:Int):∀(m:Nat) (a:Int) (r:Bool),loopN (Dimpl_open_0 n t0 t5 t6) m a=some r→Wk Tryz.prog H Y 65 [.code (cp [1,0,1,0] (bodyOf Tryz.f65)),.blk 0,.code (cp [1,1] (bodyOf Tryz.f65))] (FinX Tryz.prog Tryz.f65 [] (bl r) []) ⟨[(0,.sl false 4 t0.length ((ePl).f t0)),(5,.sl false 4 t5.length ((ePl).f t5)),(6,i64 t6),(7,i64 a)],[]⟩:=by
 refine loopN_ind (fun _rec0 hrec0 a r h=>?_)
 obtain⟨t7,rfl⟩:∃x,x=a:=⟨a,rfl⟩
 unfold Dimpl_open_0 at h
 refine x_frk 6 [] onil h (by kernel_rfl) (fun h=>?_) (fun h=>?_)
 ·obtain⟨v0,y0,h⟩:=bm h
  obtain⟨v1,y1,h⟩:=bm h
  obtain⟨v2,y2,h⟩:=bm h
  refine x_frk 21 [(1,.val (.cptr (ePl.c v0++(ePl).f ((t5).drop (Int.toNat t7+1))))),(6,.val (.sl false 4 v1.length ((ePl).f v1))),(1,.call [] [] (bl v2) [])] (ocons (ix ePl y0) (ocons (slF ePl y1) (ocons (Timpl_room (Y:=Y) n v1 v0 _ y2) onil))) h (by kernel_rfl) (fun h=>?_) (fun h=>?_)
  ·replace h:=sj h;subst h
   exact x_end 4 [] [] onil onil 
  ·exact x_to 7 [] onil (hrec0 (w64 (t7+1)) r h) 
 ·replace h:=sj h;subst h
  exact x_end 5 [] [] onil onil 
def Dimpl_open(n:Nat)(a0:(List Pl)):Option Bool :=
 loopN (Dimpl_open_0 n a0 a0 (a0.length:Int)) n 0
theorem Timpl_open{Y}(n:Nat)(a0:(List Pl))(r:Bool)(h:Dimpl_open n a0=some r):Big Tryz.prog H Y (.call 65 [.sl false 4 a0.length ((ePl).f a0)] (lk []) (bl r) (lk [])):=by
 unfold Dimpl_open at h
 refine x_call (fn:=Tryz.f65) (c:=bodyOf Tryz.f65) (bs0:=[]) Tryz.func65 (by kernel_rfl) (by kernel_rfl) ?_
 exact x_to 12 [] onil (Timpl_open_0 n a0 a0 (a0.length:Int) n 0 r h) 
def Dimpl_Open(n:Nat)(a0:(List Pl)):Option Bool :=
 frk (decide ((a0.length:Int)≤24)) ((Dimpl_planesOk n a0).bind fun v0=>frk v0 ((Dimpl_open n a0).bind fun v1=>some v1) (some false)) (some false)
theorem Timpl_Open{Y}(n:Nat)(a0:(List Pl))(r:Bool)(h:Dimpl_Open n a0=some r):Big Tryz.prog H Y (.call 33 [.sl false 4 a0.length ((ePl).f a0)] (lk []) (bl r) (lk [])):=by
 unfold Dimpl_Open at h
 refine x_call (fn:=Tryz.f33) (c:=bodyOf Tryz.f33) (bs0:=[]) Tryz.func33 (by kernel_rfl) (by kernel_rfl) ?_
 refine x_frk 10 [] onil h (by kernel_rfl) (fun h=>?_) (fun h=>?_)
 ·obtain⟨v0,y0,h⟩:=bm h
  refine x_frk 4 [(1,.call [] [] (bl v0) [])] (ocons (Timpl_planesOk (Y:=Y) n a0 _ y0) onil) h (by kernel_rfl) (fun h=>?_) (fun h=>?_)
  ·obtain⟨v1,y1,h⟩:=bm h
   replace h:=sj h;subst h
   exact x_end 5 [(1,.call [] [] (bl v1) [])] [] (ocons (Timpl_open (Y:=Y) n a0 _ y1) onil) onil 
  ·replace h:=sj h;subst h
   exact x_end 5 [] [] onil onil 
 ·replace h:=sj h;subst h
  exact x_end 9 [] [] onil onil 
def Dimpl_Solid_depth_b(_n:Nat)(self:Sol→Option Int)(a:Sol):Option Int :=
 match a with
 | a0=>(Dimpl_Solid_isLeaf a0).bind fun v0=>frk v0 (some 0) ((lget a0.kids 0).bind fun v1=>(self v1).bind fun v2=>(lget a0.kids 1).bind fun v3=>(self v3).bind fun v4=>some (w64 (1+(maxN v2 [v4]))))
def Dimpl_Solid_depth(n:Nat)(a0:Sol):Option Int:=loopN (Dimpl_Solid_depth_b n) n a0
theorem Timpl_Solid_depth_b{Y}(n:Nat):∀(m:Nat) (a:Sol) (r:Int),loopN (Dimpl_Solid_depth_b n) m a=some r→∀(q0:List AV),Big Tryz.prog H Y (.call 88 [.cptr ([bl a.inn,i64 a.pl.A,i64 a.pl.B,i64 a.pl.C,i64 a.pl.D,.sl false 6 a.kids.length ((eSol false).f a.kids)]++q0)] (lk []) (i64 r) (lk [])):=by
 refine loopN_ind (fun self hs a r h=>?_)
 have hself:∀(a:Sol) (q0:List AV) (r:Int),self a=some r→Big Tryz.prog H Y (.call 88 [.cptr ([bl a.inn,i64 a.pl.A,i64 a.pl.B,i64 a.pl.C,i64 a.pl.D,.sl false 6 a.kids.length ((eSol false).f a.kids)]++q0)] (lk []) (i64 r) (lk [])):=fun a q0 r h=>hs a r h q0
 intro q0
 obtain⟨a0,rfl⟩:∃x,x=a:=⟨a,rfl⟩
 unfold Dimpl_Solid_depth_b at h
 refine x_call (fn:=Tryz.f88) (c:=bodyOf Tryz.f88) (bs0:=[]) Tryz.func88 (by kernel_rfl) (by kernel_rfl) ?_
 obtain⟨v0,y0,h⟩:=bm h
 refine x_frk 10 [(2,.call [] [] (bl v0) [])] (ocons (Timpl_Solid_isLeaf (Y:=Y) a0 q0 _ y0) onil) h (by kernel_rfl) (fun h=>?_) (fun h=>?_)
 ·replace h:=sj h;subst h
  exact x_end 4 [] [] onil onil 
 ·obtain⟨v1,y1,h⟩:=bm h
  obtain⟨v2,y2,h⟩:=bm h
  obtain⟨v3,y3,h⟩:=bm h
  obtain⟨v4,y4,h⟩:=bm h
  replace h:=sj h;subst h
  exact x_end 19 [(4,.val (.cptr ((eSol false).c v1++(eSol false).f ((a0.kids).drop (Int.toNat 0+1))))),(0,.call [] [] (i64 v2) []),(4,.val (.cptr ((eSol false).c v3++(eSol false).f ((a0.kids).drop (Int.toNat 1+1))))),(0,.call [] [] (i64 v4) []),(0,.val (.lit (.int .i64 (maxN v2 [v4]))))] [] (ocons (ix (eSol false) y1) (ocons (hself v1 ((eSol false).f ((a0.kids).drop (Int.toNat 0+1))) _ y2) (ocons (ix (eSol false) y3) (ocons (hself v3 ((eSol false).f ((a0.kids).drop (Int.toNat 1+1))) _ y4) (ocons (maxNok .i64 [v4] v2) onil))))) onil 
theorem Timpl_Solid_depth{Y}(n:Nat)(a0:Sol)(q0:List AV)(r:Int)(h:Dimpl_Solid_depth n a0=some r):Big Tryz.prog H Y (.call 88 [.cptr ([bl a0.inn,i64 a0.pl.A,i64 a0.pl.B,i64 a0.pl.C,i64 a0.pl.D,.sl false 6 a0.kids.length ((eSol false).f a0.kids)]++q0)] (lk []) (i64 r) (lk [])):=Timpl_Solid_depth_b n n a0 r h q0
def Dimpl_DepthOf(n:Nat)(a0:Sol):Option Int :=
 (Dimpl_SolidOk n a0).bind fun v0=>frk (!v0) (some 0) ((Dimpl_Solid_depth n a0).bind fun v1=>some v1)
theorem Timpl_DepthOf{Y}(n:Nat)(a0:Sol)(r:Int)(h:Dimpl_DepthOf n a0=some r):Big Tryz.prog H Y (.call 34 [eF a0] (lk []) (i64 r) (lk [])):=by
 unfold Dimpl_DepthOf at h
 refine x_call (fn:=Tryz.f34) (c:=bodyOf Tryz.f34) (bs0:=[]) Tryz.func34 (by kernel_rfl) (by kernel_rfl) ?_
 obtain⟨v0,y0,h⟩:=bm h
 refine x_frk 12 [(3,.call [] [] (bl v0) [])] (ocons (Timpl_SolidOk (Y:=Y) n a0 _ y0) onil) h (by kernel_rfl) (fun h=>?_) (fun h=>?_)
 ·replace h:=sj h;subst h
  exact x_end 4 [] [] onil onil 
 ·obtain⟨v1,y1,h⟩:=bm h
  replace h:=sj h;subst h
  exact x_end 6 [(0,.call [] [] (i64 v1) [])] [] (ocons (Timpl_Solid_depth (Y:=Y) n a0 [] _ y1) onil) onil 
def Dimpl_SpotOk(n:Nat)(a0:Spot):Option Bool :=
 (Dimpl_inRange a0.W 1 1000000000).bind fun v0=>frk (!v0) (some false) ((Dimpl_inRange a0.X (-1000000000) 1000000000).bind fun v1=>frk (!v1) (some false) ((Dimpl_inRange a0.Y (-1000000000) 1000000000).bind fun v2=>frk (!v2) (some false) ((Dimpl_inRange a0.Z (-1000000000) 1000000000).bind fun v3=>frk (!v3) (some false) ((Dimpl_divisor n [a0.X,a0.Y,a0.Z,a0.W]).bind fun v4=>some (v4==1)))))
theorem Timpl_SpotOk{Y}(n:Nat)(a0:Spot)(r:Bool)(h:Dimpl_SpotOk n a0=some r):Big Tryz.prog H Y (.call 89 [.agg [i64 a0.X,i64 a0.Y,i64 a0.Z,i64 a0.W]] (lk []) (bl r) (lk [])):=by
 unfold Dimpl_SpotOk at h
 refine x_call (fn:=Tryz.f89) (c:=bodyOf Tryz.f89) (bs0:=[]) Tryz.func89 (by kernel_rfl) (by kernel_rfl) ?_
 obtain⟨v0,y0,h⟩:=bm h
 refine x_frk 13 [(4,.call [] [] (bl v0) [])] (ocons (Timpl_inRange (Y:=Y) a0.W 1 1000000000 _ y0) onil) h (by kernel_rfl) (fun h=>?_) (fun h=>?_)
 ·replace h:=sj h;subst h
  exact x_end 4 [] [] onil onil 
 ·obtain⟨v1,y1,h⟩:=bm h
  refine x_frk 35 [(12,.call [] [] (bl v1) [])] (ocons (Timpl_inRange (Y:=Y) a0.X (-1000000000) 1000000000 _ y1) onil) h (by kernel_rfl) (fun h=>?_) (fun h=>?_)
  ·replace h:=sj h;subst h
   exact x_end 4 [] [] onil onil 
  ·obtain⟨v2,y2,h⟩:=bm h
   refine x_frk 28 [(6,.call [] [] (bl v2) [])] (ocons (Timpl_inRange (Y:=Y) a0.Y (-1000000000) 1000000000 _ y2) onil) h (by kernel_rfl) (fun h=>?_) (fun h=>?_)
   ·replace h:=sj h;subst h
    exact x_end 4 [] [] onil onil 
   ·obtain⟨v3,y3,h⟩:=bm h
    refine x_frk 28 [(6,.call [] [] (bl v3) [])] (ocons (Timpl_inRange (Y:=Y) a0.Z (-1000000000) 1000000000 _ y3) onil) h (by kernel_rfl) (fun h=>?_) (fun h=>?_)
    ·replace h:=sj h;subst h
     exact x_end 4 [] [] onil onil 
    ·obtain⟨v4,y4,h⟩:=bm h
     replace h:=sj h;subst h
     exact x_end 30 [(12,.call [] [(eInt).f [a0.X,a0.Y,a0.Z,a0.W]] (i64 v4) [])] [] (ocons (Timpl_divisor (Y:=Y) n [a0.X,a0.Y,a0.Z,a0.W] _ y4) (ocons (len_row (L:=[a0.X,a0.Y,a0.Z,a0.W]) eInt) (ocons (Enc.share eInt eInt sInt [a0.X,a0.Y,a0.Z,a0.W]) onil))) onil 
def Dimpl_sideAt(a0:Pl)(a1:Spot):Option Int :=
 (Dimpl_sign (w64 ((w64 ((w64 ((w64 (a0.A*a1.X))+(w64 (a0.B*a1.Y))))+(w64 (a0.C*a1.Z))))+(w64 (a0.D*a1.W))))).bind fun v0=>some v0
theorem Timpl_sideAt{Y}(a0:Pl)(a1:Spot)(r:Int)(h:Dimpl_sideAt a0 a1=some r):Big Tryz.prog H Y (.call 152 [.agg [i64 a0.A,i64 a0.B,i64 a0.C,i64 a0.D],.agg [i64 a1.X,i64 a1.Y,i64 a1.Z,i64 a1.W]] (lk []) (i64 r) (lk [])):=by
 unfold Dimpl_sideAt at h
 refine x_call (fn:=Tryz.f152) (c:=bodyOf Tryz.f152) (bs0:=[]) Tryz.func152 (by kernel_rfl) (by kernel_rfl) ?_
 obtain⟨v0,y0,h⟩:=bm h
 replace h:=sj h;subst h
 exact x_end 34 [(26,.call [] [] (i64 v0) [])] [] (ocons (Timpl_sign (Y:=Y) (w64 ((w64 ((w64 ((w64 (a0.A*a1.X))+(w64 (a0.B*a1.Y))))+(w64 (a0.C*a1.Z))))+(w64 (a0.D*a1.W)))) _ y0) onil) onil 
def Dimpl_inCell_0(_n:Nat)(t8:List Pl)(t9 ze zf zs zt:Int)(rec0:(Int×Int)→Option Int)(a:(Int×Int)):Option Int :=
 match a with
 | (t5,t10)=>frk (decide (t10<t9)) ((lget t8 t10).bind fun v0=>(Dimpl_sideAt v0 (Spot.mk ze zf zs zt)).bind fun v1=>rec0 (minN t5 [v1],w64 (t10+1))) (some t5)
theorem Timpl_inCell_0{Y}(n:Nat)(t8:List Pl)(t9 ze zf zs zt:Int):∀(m:Nat) (a:(Int×Int)) (r:Int),loopN (Dimpl_inCell_0 n t8 t9 ze zf zs zt) m a=some r→Wk Tryz.prog H Y 90 [.code (cp [1,1,0,1,0] (bodyOf Tryz.f90)),.blk 0,.code (cp [1,1,1] (bodyOf Tryz.f90))] (FinX Tryz.prog Tryz.f90 [] (i64 r) []) ⟨[(3,.ptr 3 0),(5,i64 a.1),(8,.sl false 4 t8.length ((ePl).f t8)),(9,i64 t9),(10,i64 a.2)],[(3,⟨true,0,[i64 ze,i64 zf,i64 zs,i64 zt]⟩)]⟩:=by
 refine loopN_ind (fun _rec0 hrec0 a r h=>?_)
 obtain⟨t5,t10⟩:=a
 unfold Dimpl_inCell_0 at h
 refine x_frk 6 [] onil h (by kernel_rfl) (fun h=>?_) (fun h=>?_)
 ·obtain⟨v0,y0,h⟩:=bm h
  obtain⟨v1,y1,h⟩:=bm h
  exact x_to 24 [(0,.val (.cptr (ePl.c v0++(ePl).f ((t8).drop (Int.toNat t10+1))))),(6,.call [] [] (i64 v1) []),(0,.val (.lit (.int .i64 (minN t5 [v1]))))] (ocons (ix ePl y0) (ocons (Timpl_sideAt (Y:=Y) v0 (Spot.mk ze zf zs zt) _ y1) (ocons (minNok .i64 [v1] t5) onil))) (hrec0 (minN t5 [v1],w64 (t10+1)) r h) 
 ·replace h:=sj h;subst h
  exact x_end 6 [] [] onil onil 
def Dimpl_inCell(n:Nat)(a0:(List Pl))(a1:Spot):Option Int :=
 loopN (Dimpl_inCell_0 n a0 (a0.length:Int) a1.X a1.Y a1.Z a1.W) n (1,0)
theorem Timpl_inCell{Y}(n:Nat)(a0:(List Pl))(a1:Spot)(r:Int)(h:Dimpl_inCell n a0 a1=some r):Big Tryz.prog H Y (.call 90 [.sl false 4 a0.length ((ePl).f a0),.agg [i64 a1.X,i64 a1.Y,i64 a1.Z,i64 a1.W]] (lk []) (i64 r) (lk [])):=by
 unfold Dimpl_inCell at h
 refine x_call (fn:=Tryz.f90) (c:=bodyOf Tryz.f90) (bs0:=[]) Tryz.func90 (by kernel_rfl) (by kernel_rfl) ?_
 exact x_to 17 [] onil (Timpl_inCell_0 n a0 (a0.length:Int) a1.X a1.Y a1.Z a1.W n (1,0) r h) 
def Dimpl_InCell_0(n:Nat)(t0:List Pl)(t12:Bool)(ze zf zs zt:Int):Option Int :=
 frk t12 (some (-1)) ((Dimpl_inCell n t0 (Spot.mk ze zf zs zt)).bind fun v2=>some v2)
theorem Timpl_InCell_0{Y}(n:Nat)(t0:List Pl)(t12:Bool)(ze zf zs zt r:Int)(h:Dimpl_InCell_0 n t0 t12 ze zf zs zt=some r):Wk Tryz.prog H Y 35 [.code (cp [1,0,1] (bodyOf Tryz.f35)),.code (cp [1,1] (bodyOf Tryz.f35))] (FinX Tryz.prog Tryz.f35 [] (i64 r) []) ⟨[(0,.sl false 4 t0.length ((ePl).f t0)),(3,.ptr 3 0),(12,bl t12)],[(3,⟨true,0,[i64 ze,i64 zf,i64 zs,i64 zt]⟩)]⟩:=by
 unfold Dimpl_InCell_0 at h
 refine x_frk 0 [] onil h (by kernel_rfl) (fun h=>?_) (fun h=>?_)
 ·replace h:=sj h;subst h
  exact x_end 4 [] [] onil onil 
 ·obtain⟨v2,y2,h⟩:=bm h
  replace h:=sj h;subst h
  exact x_end 8 [(2,.call [] [] (i64 v2) [])] [] (ocons (Timpl_inCell (Y:=Y) n t0 (Spot.mk ze zf zs zt) _ y2) onil) onil 
def Dimpl_InCell(n:Nat)(a0:(List Pl))(a1:Spot):Option Int :=
 (Dimpl_SpotOk n a1).bind fun v0=>frk (!v0) (some (-1)) ((Dimpl_Open n a0).bind fun v1=>Dimpl_InCell_0 n a0 (!v1) a1.X a1.Y a1.Z a1.W)
theorem Timpl_InCell{Y}(n:Nat)(a0:(List Pl))(a1:Spot)(r:Int)(h:Dimpl_InCell n a0 a1=some r):Big Tryz.prog H Y (.call 35 [.sl false 4 a0.length ((ePl).f a0),.agg [i64 a1.X,i64 a1.Y,i64 a1.Z,i64 a1.W]] (lk []) (i64 r) (lk [])):=by
 unfold Dimpl_InCell at h
 refine x_call (fn:=Tryz.f35) (c:=bodyOf Tryz.f35) (bs0:=[]) Tryz.func35 (by kernel_rfl) (by kernel_rfl) ?_
 obtain⟨v0,y0,h⟩:=bm h
 refine x_frk 12 [(3,.call [] [] (bl v0) [])] (ocons (Timpl_SpotOk (Y:=Y) n a1 _ y0) onil) h (by kernel_rfl) (fun h=>?_) (fun h=>?_)
 ·replace h:=sj h;subst h
  exact x_end 10 [] [] onil onil 
 ·obtain⟨v1,y1,h⟩:=bm h
  exact x_to 5 [(1,.call [] [] (bl v1) [])] (ocons (Timpl_Open (Y:=Y) n a0 _ y1) onil) (Timpl_InCell_0 n a0 (!v1) a1.X a1.Y a1.Z a1.W r h) 
def Dimpl_Solid_around_0(_n:Nat)(self:(Sol×Spot)→Option (Int×Int))(_t0_0:Bool)(_t0_1 _t0_2 _t0_3 _t0_4:Int)(t0_5:List Sol)(t7 t8:Int)(t36:Bool)(ze zf zs zt:Int):Option (Int×Int) :=
 frk t36 ((lget t0_5 1).bind fun v4=>(self (v4,(Spot.mk ze zf zs zt))).bind fun v5=>some (w64 (t7+v5.1),w64 (t8+v5.2))) (some (t7,t8))
theorem Timpl_Solid_around_0{Y}(n:Nat)(self:(Sol×Spot)→Option (Int×Int))(hself:∀(a:(Sol×Spot)) (q0:List AV) (r:(Int×Int)),self a=some r→Big Tryz.prog H Y (.call 91 [.cptr ([bl a.1.inn,i64 a.1.pl.A,i64 a.1.pl.B,i64 a.1.pl.C,i64 a.1.pl.D,.sl false 6 a.1.kids.length ((eSol false).f a.1.kids)]++q0),.agg [i64 a.2.X,i64 a.2.Y,i64 a.2.Z,i64 a.2.W]] (lk []) (.tup [i64 r.1,i64 r.2]) (lk [])))(t0_0:Bool)(t0_1 t0_2 t0_3 t0_4:Int)(t0_5:List Sol)(t0_r:List AV)(t7 t8:Int)(t36:Bool)(ze zf zs zt:Int)(q0:List AV)(r:(Int×Int))(h:Dimpl_Solid_around_0 n self t0_0 t0_1 t0_2 t0_3 t0_4 t0_5 t7 t8 t36 ze zf zs zt=some r):Wk Tryz.prog H Y 91 [.code (cp [1,1,1,1,1,0,1] (bodyOf Tryz.f91)),.code (cp [1,1,1,1,1,1] (bodyOf Tryz.f91))] (FinX Tryz.prog Tryz.f91 [] (.tup [i64 r.1,i64 r.2]) []) ⟨[(0,.cptr ([bl t0_0,i64 t0_1,i64 t0_2,i64 t0_3,i64 t0_4,.sl false 6 t0_5.length ((eSol false).f t0_5)]++t0_r)),(3,.ptr 3 0),(7,i64 t7),(8,i64 t8),(36,bl t36)],[(3,⟨true,0,[i64 ze,i64 zf,i64 zs,i64 zt]⟩)]⟩:=by
 unfold Dimpl_Solid_around_0 at h
 refine x_frk 0 [] onil h (by kernel_rfl) (fun h=>?_) (fun h=>?_)
 ·obtain⟨v4,y4,h⟩:=bm h
  obtain⟨v5,y5,h⟩:=bm h
  replace h:=sj h;subst h
  exact x_end 35 [(4,.val (.cptr ((eSol false).c v4++(eSol false).f ((t0_5).drop (Int.toNat 1+1))))),(1,.call [] [] (.tup [i64 v5.1,i64 v5.2]) [])] [] (ocons (ix (eSol false) y4) (ocons (hself (v4,(Spot.mk ze zf zs zt)) ((eSol false).f ((t0_5).drop (Int.toNat 1+1))) _ y5) onil)) onil 
 ·replace h:=sj h;subst h
  exact x_end 8 [] [] onil onil 
def Dimpl_Solid_around_b(n:Nat)(self:(Sol×Spot)→Option (Int×Int))(a:(Sol×Spot)):Option (Int×Int) :=
 match a with
 | (a0,a1)=>(Dimpl_Solid_isLeaf a0).bind fun v0=>frk v0 (frk a0.inn (some (1,0)) (some (0,1))) ((Dimpl_sideAt a0.pl a1).bind fun v1=>frk (decide (v1≥0)) ((lget a0.kids 0).bind fun v2=>(self (v2,a1)).bind fun v3=>Dimpl_Solid_around_0 n self a0.inn a0.pl.A a0.pl.B a0.pl.C a0.pl.D a0.kids v3.1 v3.2 (decide (v1≤0)) a1.X a1.Y a1.Z a1.W) (Dimpl_Solid_around_0 n self a0.inn a0.pl.A a0.pl.B a0.pl.C a0.pl.D a0.kids 0 0 (decide (v1≤0)) a1.X a1.Y a1.Z a1.W))
def Dimpl_Solid_around(n:Nat)(a0:Sol)(a1:Spot):Option (Int×Int):=loopN (Dimpl_Solid_around_b n) n (a0,a1)
theorem Timpl_Solid_around_b{Y}(n:Nat):∀(m:Nat) (a:(Sol×Spot)) (r:(Int×Int)),loopN (Dimpl_Solid_around_b n) m a=some r→∀(q0:List AV),Big Tryz.prog H Y (.call 91 [.cptr ([bl a.1.inn,i64 a.1.pl.A,i64 a.1.pl.B,i64 a.1.pl.C,i64 a.1.pl.D,.sl false 6 a.1.kids.length ((eSol false).f a.1.kids)]++q0),.agg [i64 a.2.X,i64 a.2.Y,i64 a.2.Z,i64 a.2.W]] (lk []) (.tup [i64 r.1,i64 r.2]) (lk [])):=by
 refine loopN_ind (fun self hs a r h=>?_)
 have hself:∀(a:(Sol×Spot)) (q0:List AV) (r:(Int×Int)),self a=some r→Big Tryz.prog H Y (.call 91 [.cptr ([bl a.1.inn,i64 a.1.pl.A,i64 a.1.pl.B,i64 a.1.pl.C,i64 a.1.pl.D,.sl false 6 a.1.kids.length ((eSol false).f a.1.kids)]++q0),.agg [i64 a.2.X,i64 a.2.Y,i64 a.2.Z,i64 a.2.W]] (lk []) (.tup [i64 r.1,i64 r.2]) (lk [])):=fun a q0 r h=>hs a r h q0
 intro q0
 obtain⟨a0,a1⟩:=a
 unfold Dimpl_Solid_around_b at h
 refine x_call (fn:=Tryz.f91) (c:=bodyOf Tryz.f91) (bs0:=[]) Tryz.func91 (by kernel_rfl) (by kernel_rfl) ?_
 obtain⟨v0,y0,h⟩:=bm h
 refine x_frk 12 [(4,.call [] [] (bl v0) [])] (ocons (Timpl_Solid_isLeaf (Y:=Y) a0 q0 _ y0) onil) h (by kernel_rfl) (fun h=>?_) (fun h=>?_)
 ·refine x_frk 8 [] onil h (by kernel_rfl) (fun h=>?_) (fun h=>?_)
  ·replace h:=sj h;subst h
   exact x_end 5 [] [] onil onil 
  ·replace h:=sj h;subst h
   exact x_end 6 [] [] onil onil 
 ·obtain⟨v1,y1,h⟩:=bm h
  refine x_frk 22 [(5,.call [] [] (i64 v1) [])] (ocons (Timpl_sideAt (Y:=Y) a0.pl a1 _ y1) onil) h (by kernel_rfl) (fun h=>?_) (fun h=>?_)
  ·obtain⟨v2,y2,h⟩:=bm h
   obtain⟨v3,y3,h⟩:=bm h
   exact x_to 20 [(4,.val (.cptr ((eSol false).c v2++(eSol false).f ((a0.kids).drop (Int.toNat 0+1))))),(1,.call [] [] (.tup [i64 v3.1,i64 v3.2]) [])] (ocons (ix (eSol false) y2) (ocons (hself (v2,a1) ((eSol false).f ((a0.kids).drop (Int.toNat 0+1))) _ y3) onil)) (Timpl_Solid_around_0 n self hself a0.inn a0.pl.A a0.pl.B a0.pl.C a0.pl.D a0.kids q0 v3.1 v3.2 (decide (v1≤0)) a1.X a1.Y a1.Z a1.W q0 r h) 
  ·exact x_to 7 [] onil (Timpl_Solid_around_0 n self hself a0.inn a0.pl.A a0.pl.B a0.pl.C a0.pl.D a0.kids q0 0 0 (decide (v1≤0)) a1.X a1.Y a1.Z a1.W q0 r h) 
theorem Timpl_Solid_around{Y}(n:Nat)(a0:Sol)(a1:Spot)(q0:List AV)(r:(Int×Int))(h:Dimpl_Solid_around n a0 a1=some r):Big Tryz.prog H Y (.call 91 [.cptr ([bl a0.inn,i64 a0.pl.A,i64 a0.pl.B,i64 a0.pl.C,i64 a0.pl.D,.sl false 6 a0.kids.length ((eSol false).f a0.kids)]++q0),.agg [i64 a1.X,i64 a1.Y,i64 a1.Z,i64 a1.W]] (lk []) (.tup [i64 r.1,i64 r.2]) (lk [])):=Timpl_Solid_around_b n n (a0,a1) r h q0
def Dimpl_Around_0(n:Nat)(t13 zb:Bool)(zm zn zo zan:Int)(zau:List Sol)(ze zf zs zt:Int):Option (Int×Int) :=
 frk t13 (some (0,0)) ((Dimpl_Solid_around n (Sol.mk zb (Pl.mk zm zn zo zan) zau) (Spot.mk ze zf zs zt)).bind fun v2=>some v2)
theorem Timpl_Around_0{Y}(n:Nat)(t13 zb:Bool)(zm zn zo zan:Int)(zau:List Sol)(ze zf zs zt:Int)(r:(Int×Int))(h:Dimpl_Around_0 n t13 zb zm zn zo zan zau ze zf zs zt=some r):Wk Tryz.prog H Y 36 [.code (cp [1,0,1] (bodyOf Tryz.f36)),.code (cp [1,1] (bodyOf Tryz.f36))] (FinX Tryz.prog Tryz.f36 [] (.tup [i64 r.1,i64 r.2]) []) ⟨[(2,.ptr 2 0),(3,.ptr 3 0),(13,bl t13)],[(2,⟨true,0,[bl zb,i64 zm,i64 zn,i64 zo,i64 zan,.sl false 6 zau.length ((eSol false).f zau)]⟩),(3,⟨true,0,[i64 ze,i64 zf,i64 zs,i64 zt]⟩)]⟩:=by
 unfold Dimpl_Around_0 at h
 refine x_frk 0 [] onil h (by kernel_rfl) (fun h=>?_) (fun h=>?_)
 ·replace h:=sj h;subst h
  exact x_end 5 [] [] onil onil 
 ·obtain⟨v2,y2,h⟩:=bm h
  replace h:=sj h;subst h
  exact x_end 10 [(1,.call [] [] (.tup [i64 v2.1,i64 v2.2]) [])] [] (ocons (Timpl_Solid_around (Y:=Y) n (Sol.mk zb (Pl.mk zm zn zo zan) zau) (Spot.mk ze zf zs zt) [] _ y2) onil) onil 
def Dimpl_Around(n:Nat)(a0:Sol)(a1:Spot):Option (Int×Int) :=
 (Dimpl_SpotOk n a1).bind fun v0=>frk (!v0) (some (0,0)) ((Dimpl_SolidOk n a0).bind fun v1=>Dimpl_Around_0 n (!v1) a0.inn a0.pl.A a0.pl.B a0.pl.C a0.pl.D a0.kids a1.X a1.Y a1.Z a1.W)
theorem Timpl_Around{Y}(n:Nat)(a0:Sol)(a1:Spot)(r:(Int×Int))(h:Dimpl_Around n a0 a1=some r):Big Tryz.prog H Y (.call 36 [eF a0,.agg [i64 a1.X,i64 a1.Y,i64 a1.Z,i64 a1.W]] (lk []) (.tup [i64 r.1,i64 r.2]) (lk [])):=by
 unfold Dimpl_Around at h
 refine x_call (fn:=Tryz.f36) (c:=bodyOf Tryz.f36) (bs0:=[]) Tryz.func36 (by kernel_rfl) (by kernel_rfl) ?_
 obtain⟨v0,y0,h⟩:=bm h
 refine x_frk 14 [(5,.call [] [] (bl v0) [])] (ocons (Timpl_SpotOk (Y:=Y) n a1 _ y0) onil) h (by kernel_rfl) (fun h=>?_) (fun h=>?_)
 ·replace h:=sj h;subst h
  exact x_end 11 [] [] onil onil 
 ·obtain⟨v1,y1,h⟩:=bm h
  exact x_to 5 [(1,.call [] [] (bl v1) [])] (ocons (Timpl_SolidOk (Y:=Y) n a0 _ y1) onil) (Timpl_Around_0 n (!v1) a0.inn a0.pl.A a0.pl.B a0.pl.C a0.pl.D a0.kids a1.X a1.Y a1.Z a1.W r h) 
def Dimpl_Solid_nodes_b(_n:Nat)(self:Sol→Option Int)(a:Sol):Option Int :=
 match a with
 | a0=>(Dimpl_Solid_isLeaf a0).bind fun v0=>frk v0 (some 0) ((lget a0.kids 0).bind fun v1=>(self v1).bind fun v2=>(lget a0.kids 1).bind fun v3=>(self v3).bind fun v4=>some (w64 ((w64 (1+v2))+v4)))
def Dimpl_Solid_nodes(n:Nat)(a0:Sol):Option Int:=loopN (Dimpl_Solid_nodes_b n) n a0
theorem Timpl_Solid_nodes_b{Y}(n:Nat):∀(m:Nat) (a:Sol) (r:Int),loopN (Dimpl_Solid_nodes_b n) m a=some r→∀(q0:List AV),Big Tryz.prog H Y (.call 87 [.cptr ([bl a.inn,i64 a.pl.A,i64 a.pl.B,i64 a.pl.C,i64 a.pl.D,.sl false 6 a.kids.length ((eSol false).f a.kids)]++q0)] (lk []) (i64 r) (lk [])):=by
 refine loopN_ind (fun self hs a r h=>?_)
 have hself:∀(a:Sol) (q0:List AV) (r:Int),self a=some r→Big Tryz.prog H Y (.call 87 [.cptr ([bl a.inn,i64 a.pl.A,i64 a.pl.B,i64 a.pl.C,i64 a.pl.D,.sl false 6 a.kids.length ((eSol false).f a.kids)]++q0)] (lk []) (i64 r) (lk [])):=fun a q0 r h=>hs a r h q0
 intro q0
 obtain⟨a0,rfl⟩:∃x,x=a:=⟨a,rfl⟩
 unfold Dimpl_Solid_nodes_b at h
 refine x_call (fn:=Tryz.f87) (c:=bodyOf Tryz.f87) (bs0:=[]) Tryz.func87 (by kernel_rfl) (by kernel_rfl) ?_
 obtain⟨v0,y0,h⟩:=bm h
 refine x_frk 10 [(2,.call [] [] (bl v0) [])] (ocons (Timpl_Solid_isLeaf (Y:=Y) a0 q0 _ y0) onil) h (by kernel_rfl) (fun h=>?_) (fun h=>?_)
 ·replace h:=sj h;subst h
  exact x_end 4 [] [] onil onil 
 ·obtain⟨v1,y1,h⟩:=bm h
  obtain⟨v2,y2,h⟩:=bm h
  obtain⟨v3,y3,h⟩:=bm h
  obtain⟨v4,y4,h⟩:=bm h
  replace h:=sj h;subst h
  exact x_end 19 [(4,.val (.cptr ((eSol false).c v1++(eSol false).f ((a0.kids).drop (Int.toNat 0+1))))),(0,.call [] [] (i64 v2) []),(5,.val (.cptr ((eSol false).c v3++(eSol false).f ((a0.kids).drop (Int.toNat 1+1))))),(0,.call [] [] (i64 v4) [])] [] (ocons (ix (eSol false) y1) (ocons (hself v1 ((eSol false).f ((a0.kids).drop (Int.toNat 0+1))) _ y2) (ocons (ix (eSol false) y3) (ocons (hself v3 ((eSol false).f ((a0.kids).drop (Int.toNat 1+1))) _ y4) onil)))) onil 
theorem Timpl_Solid_nodes{Y}(n:Nat)(a0:Sol)(q0:List AV)(r:Int)(h:Dimpl_Solid_nodes n a0=some r):Big Tryz.prog H Y (.call 87 [.cptr ([bl a0.inn,i64 a0.pl.A,i64 a0.pl.B,i64 a0.pl.C,i64 a0.pl.D,.sl false 6 a0.kids.length ((eSol false).f a0.kids)]++q0)] (lk []) (i64 r) (lk [])):=Timpl_Solid_nodes_b n n a0 r h q0
def Dimpl_NodesOf(n:Nat)(a0:Sol):Option Int :=
 (Dimpl_SolidOk n a0).bind fun v0=>frk (!v0) (some 0) ((Dimpl_Solid_nodes n a0).bind fun v1=>some v1)
theorem Timpl_NodesOf{Y}(n:Nat)(a0:Sol)(r:Int)(h:Dimpl_NodesOf n a0=some r):Big Tryz.prog H Y (.call 32 [eF a0] (lk []) (i64 r) (lk [])):=by
 unfold Dimpl_NodesOf at h
 refine x_call (fn:=Tryz.f32) (c:=bodyOf Tryz.f32) (bs0:=[]) Tryz.func32 (by kernel_rfl) (by kernel_rfl) ?_
 obtain⟨v0,y0,h⟩:=bm h
 refine x_frk 12 [(3,.call [] [] (bl v0) [])] (ocons (Timpl_SolidOk (Y:=Y) n a0 _ y0) onil) h (by kernel_rfl) (fun h=>?_) (fun h=>?_)
 ·replace h:=sj h;subst h
  exact x_end 4 [] [] onil onil 
 ·obtain⟨v1,y1,h⟩:=bm h
  replace h:=sj h;subst h
  exact x_end 6 [(0,.call [] [] (i64 v1) [])] [] (ocons (Timpl_Solid_nodes (Y:=Y) n a0 [] _ y1) onil) onil 
def Dslices_EqualFuncfimpl_SameTree_in_0(_n:Nat)(self:(Sol×Sol)→Option Bool)(t1 t15:List Sol)(t16:Int)(rec0:Int→Option Bool)(a:Int):Option Bool :=
 match a with
 | t17=>frk (decide (t17<t16)) ((lget t15 t17).bind fun v0=>(lget t1 t17).bind fun v1=>(self (v0,v1)).bind fun v2=>frk (!v2) (some false) (rec0 (w64 (t17+1)))) (some true)
theorem Tslices_EqualFuncfimpl_SameTree_in_0{Y}(n:Nat)(self:(Sol×Sol)→Option Bool)(hself:∀(a:(Sol×Sol)) (r:Bool),self a=some r→Big Tryz.prog H Y (.call 30 [eF a.1,eF a.2] (lk []) (bl r) (lk [])))(t1 t15:List Sol)(t16:Int):∀(m:Nat) (a:Int) (r:Bool),loopN (Dslices_EqualFuncfimpl_SameTree_in_0 n self t1 t15 t16) m a=some r→Wk Tryz.prog H Y 85 [.code (cp [1,1,0,1,0] (bodyOf Tryz.f85)),.blk 0,.code (cp [1,1,1] (bodyOf Tryz.f85))] (FinX Tryz.prog Tryz.f85 [] (bl r) []) ⟨[(1,.sl false 6 t1.length ((eSol false).f t1)),(2,.lit (.func (.func 30) #[] #[])),(15,.sl false 6 t15.length ((eSol false).f t15)),(16,i64 t16),(17,i64 a)],[]⟩:=by
 refine loopN_ind (fun _rec0 hrec0 a r h=>?_)
 obtain⟨t17,rfl⟩:∃x,x=a:=⟨a,rfl⟩
 unfold Dslices_EqualFuncfimpl_SameTree_in_0 at h
 refine x_frk 6 [] onil h (by kernel_rfl) (fun h=>?_) (fun h=>?_)
 ·obtain⟨v0,y0,h⟩:=bm h
  obtain⟨v1,y1,h⟩:=bm h
  obtain⟨v2,y2,h⟩:=bm h
  refine x_frk 29 [(1,.val (.cptr ((eSol false).c v0++(eSol false).f ((t15).drop (Int.toNat t17+1))))),(6,.val (.cptr ((eSol false).c v1++(eSol false).f ((t1).drop (Int.toNat t17+1))))),(6,.call [] [] (bl v2) [])] (ocons (ix (eSol false) y0) (ocons (ix (eSol false) y1) (ocons (hself (v0,v1) _ y2) onil))) h (by kernel_rfl) (fun h=>?_) (fun h=>?_)
  ·replace h:=sj h;subst h
   exact x_end 4 [] [] onil onil 
  ·exact x_to 7 [] onil (hrec0 (w64 (t17+1)) r h) 
 ·replace h:=sj h;subst h
  exact x_end 5 [] [] onil onil 
def Dslices_EqualFuncfimpl_SameTree_in(n:Nat)(self:(Sol×Sol)→Option Bool)(a0:(List Sol))(a1:(List Sol)):Option Bool :=
 frk ((a0.length:Int) != (a1.length:Int)) (some false) (loopN (Dslices_EqualFuncfimpl_SameTree_in_0 n self a1 a0 (a0.length:Int)) n 0)
theorem Tslices_EqualFuncfimpl_SameTree_in{Y}(n:Nat)(self:(Sol×Sol)→Option Bool)(hself:∀(a:(Sol×Sol)) (r:Bool),self a=some r→Big Tryz.prog H Y (.call 30 [eF a.1,eF a.2] (lk []) (bl r) (lk [])))(a0:(List Sol))(a1:(List Sol))(r:Bool)(h:Dslices_EqualFuncfimpl_SameTree_in n self a0 a1=some r):Big Tryz.prog H Y (.call 85 [.sl false 6 a0.length ((eSol false).f a0),.sl false 6 a1.length ((eSol false).f a1),.lit (.func (.func 30) #[] #[])] (lk []) (bl r) (lk [])):=by
 unfold Dslices_EqualFuncfimpl_SameTree_in at h
 refine x_call (fn:=Tryz.f85) (c:=bodyOf Tryz.f85) (bs0:=[]) Tryz.func85 (by kernel_rfl) (by kernel_rfl) ?_
 refine x_frk 13 [] onil h (by kernel_rfl) (fun h=>?_) (fun h=>?_)
 ·replace h:=sj h;subst h
  exact x_end 4 [] [] onil onil 
 ·exact x_to 9 [] onil (Tslices_EqualFuncfimpl_SameTree_in_0 n self hself a1 a0 (a0.length:Int) n 0 r h) 
def Dimpl_SameTree_b(n:Nat)(self:(Sol×Sol)→Option Bool)(a:(Sol×Sol)):Option Bool :=
 match a with
 | (a0,a1)=>frk (a0.inn==a1.inn) (frk (a0.pl.A==a1.pl.A&&(a0.pl.B==a1.pl.B&&(a0.pl.C==a1.pl.C&&(a0.pl.D==a1.pl.D&&true)))) ((Dslices_EqualFuncfimpl_SameTree_in n self a0.kids a1.kids).bind fun v0=>some v0) (some false)) (some false)
def Dimpl_SameTree(n:Nat)(a0:Sol)(a1:Sol):Option Bool:=loopN (Dimpl_SameTree_b n) n (a0,a1)
theorem Timpl_SameTree_b{Y}(n:Nat):∀(m:Nat) (a:(Sol×Sol)) (r:Bool),loopN (Dimpl_SameTree_b n) m a=some r→∀(_:Unit),Big Tryz.prog H Y (.call 30 [eF a.1,eF a.2] (lk []) (bl r) (lk [])):=by
 refine loopN_ind (fun self hs a r h=>?_)
 have hself:∀(a:(Sol×Sol)) (r:Bool),self a=some r→Big Tryz.prog H Y (.call 30 [eF a.1,eF a.2] (lk []) (bl r) (lk [])):=fun a r h=>hs a r h ()
 intro _
 obtain⟨a0,a1⟩:=a
 unfold Dimpl_SameTree_b at h
 refine x_call (fn:=Tryz.f30) (c:=bodyOf Tryz.f30) (bs0:=[]) Tryz.func30 (by kernel_rfl) (by kernel_rfl) ?_
 refine x_frk 14 [] onil h (by kernel_rfl) (fun h=>?_) (fun h=>?_)
 ·refine x_frk 7 [] onil h (by kernel_rfl) (fun h=>?_) (fun h=>?_)
  ·obtain⟨v0,y0,h⟩:=bm h
   replace h:=sj h;subst h
   exact x_end 8 [(4,.call [] [] (bl v0) [])] [] (ocons (Tslices_EqualFuncfimpl_SameTree_in (Y:=Y) n self hself a0.kids a1.kids _ y0) onil) onil 
  ·replace h:=sj h;subst h
   exact x_end 8 [] [] onil onil 
 ·replace h:=sj h;subst h
  exact x_end 15 [] [] onil onil 
theorem Timpl_SameTree{Y}(n:Nat)(a0:Sol)(a1:Sol)(r:Bool)(h:Dimpl_SameTree n a0 a1=some r):Big Tryz.prog H Y (.call 30 [eF a0,eF a1] (lk []) (bl r) (lk [])):=Timpl_SameTree_b n n (a0,a1) r h ()
def Dcmp_Or_0(_n:Nat)(t3:Int)(t6:List Int)(t7:Int)(rec0:Int→Option Int)(a:Int):Option Int :=
 match a with
 | t8=>frk (decide (t8<t7)) ((lget t6 t8).bind fun v0=>frk (v0 != t3) (some v0) (rec0 (w64 (t8+1)))) (some t3)
theorem Tcmp_Or_0{Y}(n:Nat)(t3:Int)(t6:List Int)(t7:Int):∀(m:Nat) (a r:Int),loopN (Dcmp_Or_0 n t3 t6 t7) m a=some r→Wk Tryz.prog H Y 168 [.code (cp [1,1,0,1,0] (bodyOf Tryz.f168)),.blk 0,.code (cp [1,1,1] (bodyOf Tryz.f168))] (FinX Tryz.prog Tryz.f168 [] (i64 r) []) ⟨[(3,i64 t3),(6,.sl false 1 t6.length ((eInt).f t6)),(7,i64 t7),(8,i64 a)],[]⟩:=by
 refine loopN_ind (fun _rec0 hrec0 a r h=>?_)
 obtain⟨t8,rfl⟩:∃x,x=a:=⟨a,rfl⟩
 unfold Dcmp_Or_0 at h
 refine x_frk 6 [] onil h (by kernel_rfl) (fun h=>?_) (fun h=>?_)
 ·obtain⟨v0,y0,h⟩:=bm h
  refine x_frk 15 [(0,.val (.cptr (eInt.c v0++(eInt).f ((t6).drop (Int.toNat t8+1)))))] (ocons (ix eInt y0) onil) h (by kernel_rfl) (fun h=>?_) (fun h=>?_)
  ·replace h:=sj h;subst h
   exact x_end 5 [] [] onil onil 
  ·exact x_to 7 [] onil (hrec0 (w64 (t8+1)) r h) 
 ·replace h:=sj h;subst h
  exact x_end 6 [] [] onil onil 
def Dcmp_Or(n:Nat)(a0:(List Int)):Option Int :=
 loopN (Dcmp_Or_0 n 0 a0 (a0.length:Int)) n 0
theorem Tcmp_Or{Y}(n:Nat)(a0:(List Int))(r:Int)(h:Dcmp_Or n a0=some r):Big Tryz.prog H Y (.call 168 [.sl false 1 a0.length ((eInt).f a0)] (lk []) (i64 r) (lk [])):=by
 unfold Dcmp_Or at h
 refine x_call (fn:=Tryz.f168) (c:=bodyOf Tryz.f168) (bs0:=[]) Tryz.func168 (by kernel_rfl) (by kernel_rfl) ?_
 exact x_to 16 [] onil (Tcmp_Or_0 n 0 a0 (a0.length:Int) n 0 r h) 
def Dimpl_CmpPlane(n:Nat)(a0:Pl)(a1:Pl):Option Int :=
 (Dcmp_Compare a0.A a1.A).bind fun v0=>(Dcmp_Compare a0.B a1.B).bind fun v1=>(Dcmp_Compare a0.C a1.C).bind fun v2=>(Dcmp_Compare a0.D a1.D).bind fun v3=>(Dcmp_Or n [v0,v1,v2,v3]).bind fun v4=>some v4
theorem Timpl_CmpPlane{Y}(n:Nat)(a0:Pl)(a1:Pl)(r:Int)(h:Dimpl_CmpPlane n a0 a1=some r):Big Tryz.prog H Y (.call 155 [.agg [i64 a0.A,i64 a0.B,i64 a0.C,i64 a0.D],.agg [i64 a1.A,i64 a1.B,i64 a1.C,i64 a1.D]] (lk []) (i64 r) (lk [])):=by
 unfold Dimpl_CmpPlane at h
 refine x_call (fn:=Tryz.f155) (c:=bodyOf Tryz.f155) (bs0:=[]) Tryz.func155 (by kernel_rfl) (by kernel_rfl) ?_
 obtain⟨v0,y0,h⟩:=bm h
 obtain⟨v1,y1,h⟩:=bm h
 obtain⟨v2,y2,h⟩:=bm h
 obtain⟨v3,y3,h⟩:=bm h
 obtain⟨v4,y4,h⟩:=bm h
 replace h:=sj h;subst h
 exact x_end 32 [(7,.call [] [] (i64 v0) []),(4,.call [] [] (i64 v1) []),(4,.call [] [] (i64 v2) []),(4,.call [] [] (i64 v3) []),(1,.call [] [(eInt).f [v0,v1,v2,v3]] (i64 v4) [])] [] (ocons (Tcmp_Compare (Y:=Y) a0.A a1.A _ y0) (ocons (Tcmp_Compare (Y:=Y) a0.B a1.B _ y1) (ocons (Tcmp_Compare (Y:=Y) a0.C a1.C _ y2) (ocons (Tcmp_Compare (Y:=Y) a0.D a1.D _ y3) (ocons (Tcmp_Or (Y:=Y) n [v0,v1,v2,v3] _ y4) (ocons (len_row (L:=[v0,v1,v2,v3]) eInt) (ocons (Enc.share eInt eInt sInt [v0,v1,v2,v3]) onil))))))) onil 
def Dimpl_greater(n:Nat)(a0:Pl):Option Pl :=
 (Dimpl_flip a0).bind fun v0=>(Dimpl_CmpPlane n v0 a0).bind fun v1=>frk (decide (v1>0)) (some v0) (some a0)
theorem Timpl_greater{Y}(n:Nat)(a0:Pl)(r:Pl)(h:Dimpl_greater n a0=some r):Big Tryz.prog H Y (.call 130 [.agg [i64 a0.A,i64 a0.B,i64 a0.C,i64 a0.D]] (lk []) (.agg [i64 r.A,i64 r.B,i64 r.C,i64 r.D]) (lk [])):=by
 unfold Dimpl_greater at h
 refine x_call (fn:=Tryz.f130) (c:=bodyOf Tryz.f130) (bs0:=[]) Tryz.func130 (by kernel_rfl) (by kernel_rfl) ?_
 obtain⟨v0,y0,h⟩:=bm h
 obtain⟨v1,y1,h⟩:=bm h
 refine x_frk 20 [(3,.call [] [] (.agg [i64 v0.A,i64 v0.B,i64 v0.C,i64 v0.D]) []),(4,.call [] [] (i64 v1) [])] (ocons (Timpl_flip (Y:=Y) a0 _ y0) (ocons (Timpl_CmpPlane (Y:=Y) n v0 a0 _ y1) onil)) h (by kernel_rfl) (fun h=>?_) (fun h=>?_)
 ·replace h:=sj h;subst h
  exact x_end 5 [] [] onil onil 
 ·replace h:=sj h;subst h
  exact x_end 6 [] [] onil onil 
def Dimpl_Solid_planes_b(n:Nat)(self:Sol→Option (List Pl))(a:Sol):Option (List Pl) :=
 match a with
 | a0=>(Dimpl_Solid_isLeaf a0).bind fun v0=>frk v0 (some []) ((lget a0.kids 0).bind fun v1=>(self v1).bind fun v2=>(Dimpl_greater n a0.pl).bind fun v3=>chk (apB 32 (v2.length+1)) ((lget a0.kids 1).bind fun v5=>(self v5).bind fun v6=>chk (apB 32 ((v2++[v3]).length+v6.length)) (some ((v2++[v3])++v6))))
def Dimpl_Solid_planes(n:Nat)(a0:Sol):Option (List Pl):=loopN (Dimpl_Solid_planes_b n) n a0
theorem Timpl_Solid_planes_b{Y}(n:Nat):∀(m:Nat) (a:Sol) (r:(List Pl)),loopN (Dimpl_Solid_planes_b n) m a=some r→∀(q0:List AV),Big Tryz.prog H Y (.call 153 [.cptr ([bl a.inn,i64 a.pl.A,i64 a.pl.B,i64 a.pl.C,i64 a.pl.D,.sl false 6 a.kids.length ((eSol false).f a.kids)]++q0)] (lk []) (.sl true 4 r.length ((ePl).f r)) (lk [])):=by
 refine loopN_ind (fun self hs a r h=>?_)
 have hself:∀(a:Sol) (q0:List AV) (r:(List Pl)),self a=some r→Big Tryz.prog H Y (.call 153 [.cptr ([bl a.inn,i64 a.pl.A,i64 a.pl.B,i64 a.pl.C,i64 a.pl.D,.sl false 6 a.kids.length ((eSol false).f a.kids)]++q0)] (lk []) (.sl true 4 r.length ((ePl).f r)) (lk [])):=fun a q0 r h=>hs a r h q0
 intro q0
 obtain⟨a0,rfl⟩:∃x,x=a:=⟨a,rfl⟩
 unfold Dimpl_Solid_planes_b at h
 refine x_call (fn:=Tryz.f153) (c:=bodyOf Tryz.f153) (bs0:=[]) Tryz.func153 (by kernel_rfl) (by kernel_rfl) ?_
 obtain⟨v0,y0,h⟩:=bm h
 refine x_frk 10 [(2,.call [] [] (bl v0) [])] (ocons (Timpl_Solid_isLeaf (Y:=Y) a0 q0 _ y0) onil) h (by kernel_rfl) (fun h=>?_) (fun h=>?_)
 ·replace h:=sj h;subst h
  exact x_end 4 [] [(true,4)] onil onil 
 ·obtain⟨v1,y1,h⟩:=bm h
  obtain⟨v2,y2,h⟩:=bm h
  obtain⟨v3,y3,h⟩:=bm h
  obtain⟨c4,h⟩:=chk_some h
  obtain⟨v5,y5,h⟩:=bm h
  obtain⟨v6,y6,h⟩:=bm h
  obtain⟨c7,h⟩:=chk_some h
  replace h:=sj h;subst h
  exact x_end 25 [(4,.val (.cptr ((eSol false).c v1++(eSol false).f ((a0.kids).drop (Int.toNat 0+1))))),(0,.call [] [] (.sl true 4 v2.length ((ePl).f v2)) []),(4,.call [] [] (.agg [i64 v3.A,i64 v3.B,i64 v3.C,i64 v3.D]) []),(1,.app false (List.length (v2++[v3])) ((ePl).f (v2++[v3]))),(4,.val (.cptr ((eSol false).c v5++(eSol false).f ((a0.kids).drop (Int.toNat 1+1))))),(0,.call [] [] (.sl false 4 v6.length ((ePl).f v6)) []),(0,.app false (List.length ((v2++[v3])++v6)) ((ePl).f ((v2++[v3])++v6)))] [] (ocons (ix (eSol false) y1) (ocons (hself v1 ((eSol false).f ((a0.kids).drop (Int.toNat 0+1))) _ y2) (ocons (Timpl_greater (Y:=Y) n a0.pl _ y3) (ocons (len_row' (L:=v2) ePl) (ocons (app_one (L:=v2) (M:=[v3]) ePl c4) (ocons (app_new (L:=v2) (M:=[v3]) ePl) (ocons (app_m (L:=v2) (M:=[v3]) ePl rfl) (ocons (len_row' (L:=[v3]) ePl) (ocons (Enc.noOwn ePl (fun _=>rfl) [v3]) (ocons (ix (eSol false) y5) (ocons (shSl (L:=v6) ePl ePl sPl (hself v5 ((eSol false).f ((a0.kids).drop (Int.toNat 1+1))) _ y6)) (ocons (len_row' (L:=(v2++[v3])) ePl) (ocons (app_one (L:=(v2++[v3])) (M:=v6) ePl c7) (ocons (app_new (L:=(v2++[v3])) (M:=v6) ePl) (ocons (app_m (L:=(v2++[v3])) (M:=v6) ePl rfl) (ocons (len_row' (L:=v6) ePl) onil)))))))))))))))) (ocons (len_row (L:=((v2++[v3])++v6)) ePl) onil) 
theorem Timpl_Solid_planes{Y}(n:Nat)(a0:Sol)(q0:List AV)(r:(List Pl))(h:Dimpl_Solid_planes n a0=some r):Big Tryz.prog H Y (.call 153 [.cptr ([bl a0.inn,i64 a0.pl.A,i64 a0.pl.B,i64 a0.pl.C,i64 a0.pl.D,.sl false 6 a0.kids.length ((eSol false).f a0.kids)]++q0)] (lk []) (.sl true 4 r.length ((ePl).f r)) (lk [])):=Timpl_Solid_planes_b n n a0 r h q0
theorem cmpD(a b:Int):Dcmp_Compare a b=some (cmpI a b):=by
 unfold Dcmp_Compare Dcmp_isNaN cmpI frk
 simp only[Option.bind_some,bne_self_eq_false]
 by_cases h1:a<b
 ·simp[h1]
 ·by_cases h2:a>b <;> simp[h1,h2]
theorem orD4(a b c d:Int):Dcmp_Or 9 [a,b,c,d]=some (or4 a b c d):=by
 unfold Dcmp_Or or4
 by_cases ha:a=0
 ·by_cases hb:b=0
  ·by_cases hc:c=0
   ·by_cases hd:d=0
    ·subst ha hb hc hd;rfl
    ·subst ha hb hc;simp[loopN,Dcmp_Or_0,frk,lget,w64,IntKind.wrap,IntKind.bits,IntKind.signed,hd]
   ·subst ha hb;simp[loopN,Dcmp_Or_0,frk,lget,w64,IntKind.wrap,IntKind.bits,IntKind.signed,hc]
  ·subst ha;simp[loopN,Dcmp_Or_0,frk,lget,w64,IntKind.wrap,IntKind.bits,IntKind.signed,hb]
 ·simp[loopN,Dcmp_Or_0,frk,lget,ha]
theorem CmpPlane_D(p q:Pl):Dimpl_CmpPlane 9 p q=some (cmpP p q):=by
 unfold Dimpl_CmpPlane
 simp only[cmpD,Option.bind_some,orD4]
 rfl
theorem srtPl_t{l l':List Pl}(h:DsrtPl l=some l'):l'.length=l.length∧TurnOk Tryz.prog 154 (fun u=>#[u,.func (.func 155) #[] #[]]) (.sl true 4 l.length (ePl.f l)) (.tuple #[]) (.sl true 4 l.length (ePl.f l')):=by
 unfold DsrtPl at h
 split at h
 ·rename_i hl
  replace h:=sj h;subst h
  refine⟨List.length_mergeSort _,?_⟩
  have:=sort_turn Tryz.sortPlane 4 (by decide) Tryz.isAgg32 Tryz.sizeOf32 vPl vPl_k vPl_pl cmpP swoP totP 155 (Go.Proofs.enters_of Tryz.func155 (by kernel_rfl) rfl) (cmp_of eqW mixW (by decide) vPl_pl fun x y=>Timpl_CmpPlane 9 x y _ (CmpPlane_D x y)) l hl
  rw[vPl_f,vPl_f] at this
  exact this
 ·cases h
theorem cutPl_t{l l':List Pl}(h:DcutPl l=some l'):CutOk Tryz.prog 157 156 (.sl true 4 l.length (ePl.f l)) (.sl true 4 l'.length (ePl.f l')):=by
 unfold DcutPl at h
 split at h
 ·rename_i hl
  replace h:=sj h;subst h
  have:=cut_turn Tryz.cutPlane (by decide) vPl vPl_k vPl_pl (fun x y w=>(eqPl (⟨by kernel_rfl,by kernel_rfl,by kernel_rfl,by kernel_rfl,by kernel_rfl⟩:EqS Tryz.prog 32) (by kernel_rfl) x y w).1) (fun x y w=>(eqPl (⟨by kernel_rfl,by kernel_rfl,by kernel_rfl,by kernel_rfl,by kernel_rfl⟩:EqS Tryz.prog 32) (by kernel_rfl) x y w).2.1) (fun op a b x y w=>(eqPl (⟨by kernel_rfl,by kernel_rfl,by kernel_rfl,by kernel_rfl,by kernel_rfl⟩:EqS Tryz.prog 32) (by kernel_rfl) x y w).2.2 op a b) ⟨0,0,0,0⟩ Tryz.zeroValue32 Tryz.clipPlane Tryz.cutNilPlane l (Nat.le_of_lt hl)
  rw[vPl_f,vPl_f] at this
  exact this
 ·cases h
def Dimpl_Solid_planesOf_1(_n:Nat)(l5:List Pl):Option (List Pl) :=
 (DcutPl l5).bind fun v2=>some v2
theorem Timpl_Solid_planesOf_1{Y}(n:Nat)(l5:List Pl)(_q0:List AV)(r:(List Pl))(h:Dimpl_Solid_planesOf_1 n l5=some r):Wk Tryz.prog H Y 93 [.code (cp [1,1,1,0] (bodyOf Tryz.f93)),.code (cp [1,1,1,1] (bodyOf Tryz.f93))] (FinX Tryz.prog Tryz.f93 [] (.sl true 4 r.length ((ePl).f r)) []) ⟨[(3,.msl 5 l5.length)],[(5,⟨false,4,(ePl).f l5⟩)]⟩:=by
 unfold Dimpl_Solid_planesOf_1 at h
 obtain⟨v2,y2,h⟩:=bm h
 refine x_cut (f:=157) (g:=156) (ta:=3) (d0:=8) (d1:=9) (d2:=10) (da:=2) (b:=5) (n:=l5.length) (z:=4) (st:=false) (cs:=ePl.f l5) (T:=.sl true 4 v2.length (ePl.f v2)) rfl (fun _ _ _ h=>h) (by kernel_rfl) (by kernel_rfl) (by kernel_rfl) (by simp[nlkLs,nlk,nlkL,nLk,nLkP]) (by decide) (Enc.len _ _) (cutPl_t y2) ?_
 replace h:=sj h;subst h
 exact x_end 0 [] [] onil onil 
def Dimpl_Solid_planesOf_0(n:Nat)(l5:List Pl):Option (List Pl) :=
 (DsrtPl l5).bind fun v1=>Dimpl_Solid_planesOf_1 n v1
theorem Timpl_Solid_planesOf_0{Y}(n:Nat)(l5:List Pl)(q0:List AV)(r:(List Pl))(h:Dimpl_Solid_planesOf_0 n l5=some r):Wk Tryz.prog H Y 93 [.code (cp [1,1,0] (bodyOf Tryz.f93)),.code (cp [1,1,1] (bodyOf Tryz.f93))] (FinX Tryz.prog Tryz.f93 [] (.sl true 4 r.length ((ePl).f r)) []) ⟨[(3,.msl 5 l5.length)],[(5,⟨false,4,(ePl).f l5⟩)]⟩:=by
 unfold Dimpl_Solid_planesOf_0 at h
 obtain⟨v1,y1,h⟩:=bm h
 obtain⟨hlv1,htv1⟩:=srtPl_t y1
 refine x_sort (f:=154) (ta:=3) (dl:=6) (dr:=7) (b:=5) (n:=l5.length) (z:=4) (g:=155) (st:=false) (cs:=ePl.f l5) (cs':=ePl.f v1) (rv:=.tuple #[]) rfl (fun _ _ _ h=>h) (by kernel_rfl) (by kernel_rfl) (by kernel_rfl) (by simp[nlkLs,nlk,nlkL,nLk,nLkP]) (by decide) (Enc.len _ _) (by rw[Enc.len,hlv1];rfl) (nLkP _) htv1 ?_
 exact x_to 2 [(0,.fix 3 (.msl 5 v1.length))] (ocons (congrArg (AV.msl 5) hlv1.symm) onil) (Timpl_Solid_planesOf_1 n v1 q0 r h) 
def Dimpl_Solid_planesOf(n:Nat)(a0:Sol):Option (List Pl) :=
 (Dimpl_Solid_planes n a0).bind fun v0=>Dimpl_Solid_planesOf_0 n v0
theorem Timpl_Solid_planesOf{Y}(n:Nat)(a0:Sol)(q0:List AV)(r:(List Pl))(h:Dimpl_Solid_planesOf n a0=some r):Big Tryz.prog H Y (.call 93 [.cptr ([bl a0.inn,i64 a0.pl.A,i64 a0.pl.B,i64 a0.pl.C,i64 a0.pl.D,.sl false 6 a0.kids.length ((eSol false).f a0.kids)]++q0)] (lk []) (.sl true 4 r.length ((ePl).f r)) (lk [])):=by
 unfold Dimpl_Solid_planesOf at h
 refine x_call (fn:=Tryz.f93) (c:=bodyOf Tryz.f93) (bs0:=[]) Tryz.func93 (by kernel_rfl) (by kernel_rfl) ?_
 obtain⟨v0,y0,h⟩:=bm h
 exact x_to 11 [(2,.call [] [] (.sl true 4 v0.length ((ePl).f v0)) [])] (ocons (Timpl_Solid_planes (Y:=Y) n a0 q0 _ y0) onil) (Timpl_Solid_planesOf_0 n v0 q0 r h) 
def Dimpl_PlanesOf(n:Nat)(a0:Sol):Option (List Pl) :=
 (Dimpl_SolidOk n a0).bind fun v0=>frk (!v0) (some []) ((Dimpl_Solid_planesOf n a0).bind fun v1=>some v1)
theorem Timpl_PlanesOf{Y}(n:Nat)(a0:Sol)(r:(List Pl))(h:Dimpl_PlanesOf n a0=some r):Big Tryz.prog H Y (.call 38 [eF a0] (lk []) (.sl true 4 r.length ((ePl).f r)) (lk [])):=by
 unfold Dimpl_PlanesOf at h
 refine x_call (fn:=Tryz.f38) (c:=bodyOf Tryz.f38) (bs0:=[]) Tryz.func38 (by kernel_rfl) (by kernel_rfl) ?_
 obtain⟨v0,y0,h⟩:=bm h
 refine x_frk 12 [(3,.call [] [] (bl v0) [])] (ocons (Timpl_SolidOk (Y:=Y) n a0 _ y0) onil) h (by kernel_rfl) (fun h=>?_) (fun h=>?_)
 ·replace h:=sj h;subst h
  exact x_end 4 [] [(true,4)] onil onil 
 ·obtain⟨v1,y1,h⟩:=bm h
  replace h:=sj h;subst h
  exact x_end 6 [(0,.call [] [] (.sl true 4 v1.length ((ePl).f v1)) [])] [] (ocons (Timpl_Solid_planesOf (Y:=Y) n a0 [] _ y1) (ocons (show hasSh (.sl true 4 v1.length ((ePl).f v1))=false by simp[hasSh,hasShL,nSh,nShI,nShB,nShP,nShT,nShN,nShPs]) onil)) (ocons (len_row (L:=v1) ePl) onil) 
def Dlaws_FnCells_0(n:Nat)(rec0:(Int×Int×List (List Pl))→Option Bool)(_ze:Bool)(_zf _zs _zt _zav:Int)(_zaw:List Sol)(za zu zv zw t8 t9:Int)(t49:Bool)(l27:List (List Pl)):Option Bool :=
 frk t49 (some false) ((lget l27 t9).bind fun v10=>(Dimpl_InCell n v10 (Spot.mk za zu zv zw)).bind fun v11=>frk (v11==1) (rec0 (w64 (t8+1),w64 (t9+1),l27)) (rec0 (t8,w64 (t9+1),l27)))
theorem Tlaws_FnCells_0{Y}(n:Nat)(rec0:(Int×Int×List (List Pl))→Option Bool)(ze:Bool)(zf zs zt zav:Int)(zaw:List Sol)(za zu zv zw:Int)(hrec0:∀(a:(Int×Int×List (List Pl))) (r:Bool),rec0 a=some r→Wk Tryz.prog H Y 6 [.code (cp [1,1,1,1,1,1,1,0,1,0] (bodyOf Tryz.f6)),.blk 0,.code (cp [1,1,1,1,1,1,1,1] (bodyOf Tryz.f6))] (FinX Tryz.prog Tryz.f6 [] (bl r) []) ⟨[(3,.ptr 3 0),(4,.ptr 4 0),(7,.msl 27 a.2.2.length),(8,i64 a.1),(9,i64 a.2.1)],[(3,⟨true,0,[bl ze,i64 zf,i64 zs,i64 zt,i64 zav,.sl true 6 zaw.length ((eSol true).f zaw)]⟩),(4,⟨true,0,[i64 za,i64 zu,i64 zv,i64 zw]⟩),(27,⟨true,1,(ePls true).f a.2.2⟩)]⟩)(t8 t9:Int)(t49:Bool)(l27:List (List Pl))(r:Bool)(h:Dlaws_FnCells_0 n rec0 ze zf zs zt zav zaw za zu zv zw t8 t9 t49 l27=some r):Wk Tryz.prog H Y 6 [.code (cp [1,1,1,1,1,1,1,0,1,0,0,1,0,0,0,1] (bodyOf Tryz.f6)),.code (cp [1,1,1,1,1,1,1,0,1,0,0,1,0,0,1] (bodyOf Tryz.f6)),.blk 1,.code (cp [1,1,1,1,1,1,1,0,1,0,0,1,1] (bodyOf Tryz.f6)),.lp (cp [1,1,1,1,1,1,1,0,1,0] (bodyOf Tryz.f6)),.blk 0,.code (cp [1,1,1,1,1,1,1,1] (bodyOf Tryz.f6))] (FinX Tryz.prog Tryz.f6 [] (bl r) []) ⟨[(3,.ptr 3 0),(4,.ptr 4 0),(7,.msl 27 l27.length),(8,i64 t8),(9,i64 t9),(49,bl t49)],[(3,⟨true,0,[bl ze,i64 zf,i64 zs,i64 zt,i64 zav,.sl true 6 zaw.length ((eSol true).f zaw)]⟩),(4,⟨true,0,[i64 za,i64 zu,i64 zv,i64 zw]⟩),(27,⟨true,1,(ePls true).f l27⟩)]⟩:=by
 unfold Dlaws_FnCells_0 at h
 refine x_frk 0 [] onil h (by kernel_rfl) (fun h=>?_) (fun h=>?_)
 ·replace h:=sj h;subst h
  exact x_end 4 [] [] onil onil 
 ·obtain⟨v10,y10,h⟩:=bm h
  obtain⟨v11,y11,h⟩:=bm h
  refine x_frk 12 [(2,.unit),(0,.val (.sl true 4 v10.length ((ePl).f v10))),(0,.fix 53 (.sl false 4 v10.length ((ePl).f v10))),(1,.call [] [] (i64 v11) [])] (ocons (inr y10) (ocons (ld1 (ePls true) y10 0 rfl) (ocons (congrArg (AV.sl false 4 v10.length) (Enc.share ePl ePl sPl v10)) (ocons (Timpl_InCell (Y:=Y) n v10 (Spot.mk za zu zv zw) _ y11) onil)))) h (by kernel_rfl) (fun h=>?_) (fun h=>?_)
  ·exact x_to 12 [] onil (hrec0 (w64 (t8+1),w64 (t9+1),l27) r h) 
  ·exact x_to 8 [] onil (hrec0 (t8,w64 (t9+1),l27) r h) 
def Dlaws_FnCells_1(n:Nat)(t8:Int)(ze:Bool)(zf zs zt zav:Int)(zaw:List Sol)(za zu zv zw:Int)(l27:List (List Pl)):Option Bool :=
 (Dimpl_Around n (Sol.mk ze (Pl.mk zf zs zt zav) zaw) (Spot.mk za zu zv zw)).bind fun v12=>(Dimpl_SolidOk n (Sol.mk ze (Pl.mk zf zs zt zav) zaw)).bind fun v13=>frk v13 ((Dimpl_NodesOf n (Sol.mk ze (Pl.mk zf zs zt zav) zaw)).bind fun v14=>frk ((l27.length:Int)==(w64 (v14+1))) (frk (decide (t8≤1)) (frk (decide ((w64 (v12.1+v12.2))≥1)) (frk (t8==0) ((Dimpl_SameTree n (Sol.mk ze (Pl.mk zf zs zt zav) zaw) (Sol.mk ze (Pl.mk zf zs zt zav) zaw)).bind fun v15=>frk v15 ((Dimpl_PlanesOf n (Sol.mk ze (Pl.mk zf zs zt zav) zaw)).bind fun v16=>(Dimpl_NodesOf n (Sol.mk ze (Pl.mk zf zs zt zav) zaw)).bind fun v17=>some (decide ((v16.length:Int)≤v17))) (some false)) (frk ((w64 (v12.1+v12.2))==1) ((Dimpl_SameTree n (Sol.mk ze (Pl.mk zf zs zt zav) zaw) (Sol.mk ze (Pl.mk zf zs zt zav) zaw)).bind fun v18=>frk v18 ((Dimpl_PlanesOf n (Sol.mk ze (Pl.mk zf zs zt zav) zaw)).bind fun v19=>(Dimpl_NodesOf n (Sol.mk ze (Pl.mk zf zs zt zav) zaw)).bind fun v20=>some (decide ((v19.length:Int)≤v20))) (some false)) (some false))) (some false)) (some false)) (some false)) (some false)
theorem Tlaws_FnCells_1{Y}(n:Nat)(t8:Int)(ze:Bool)(zf zs zt zav:Int)(zaw:List Sol)(za zu zv zw:Int)(l27:List (List Pl))(r:Bool)(h:Dlaws_FnCells_1 n t8 ze zf zs zt zav zaw za zu zv zw l27=some r):Wk Tryz.prog H Y 6 [.code (cp [1,1,1,1,1,1,1,1,0] (bodyOf Tryz.f6)),.code (cp [1,1,1,1,1,1,1,1,1] (bodyOf Tryz.f6))] (FinX Tryz.prog Tryz.f6 [] (bl r) []) ⟨[(3,.ptr 3 0),(4,.ptr 4 0),(7,.msl 27 l27.length),(8,i64 t8)],[(3,⟨true,0,[bl ze,i64 zf,i64 zs,i64 zt,i64 zav,.sl true 6 zaw.length ((eSol true).f zaw)]⟩),(4,⟨true,0,[i64 za,i64 zu,i64 zv,i64 zw]⟩),(27,⟨true,1,(ePls true).f l27⟩)]⟩:=by
 unfold Dlaws_FnCells_1 at h
 obtain⟨v12,y12,h⟩:=bm h
 obtain⟨v13,y13,h⟩:=bm h
 refine x_frk 15 [(0,.rows [(eSol false).f zaw]),(1,.call [] [] (.tup [i64 v12.1,i64 v12.2]) []),(5,.rows [(eSol false).f zaw]),(0,.call [] [] (bl v13) [])] (ocons (Enc.share (eSol true) (eSol false) (sSol true) zaw) (ocons (Timpl_Around (Y:=Y) n (Sol.mk ze (Pl.mk zf zs zt zav) zaw) (Spot.mk za zu zv zw) _ y12) (ocons (Enc.share (eSol true) (eSol false) (sSol true) zaw) (ocons (Timpl_SolidOk (Y:=Y) n (Sol.mk ze (Pl.mk zf zs zt zav) zaw) _ y13) onil)))) h (by kernel_rfl) (fun h=>?_) (fun h=>?_)
 ·obtain⟨v14,y14,h⟩:=bm h
  refine x_frk 8 [(2,.rows [(eSol false).f zaw]),(0,.call [] [] (i64 v14) [])] (ocons (Enc.share (eSol true) (eSol false) (sSol true) zaw) (ocons (Timpl_NodesOf (Y:=Y) n (Sol.mk ze (Pl.mk zf zs zt zav) zaw) _ y14) onil)) h (by kernel_rfl) (fun h=>?_) (fun h=>?_)
  ·refine x_frk 4 [] onil h (by kernel_rfl) (fun h=>?_) (fun h=>?_)
   ·refine x_frk 6 [] onil h (by kernel_rfl) (fun h=>?_) (fun h=>?_)
    ·refine x_frk 3 [] onil h (by kernel_rfl) (fun h=>?_) (fun h=>?_)
     ·obtain⟨v15,y15,h⟩:=bm h
      refine x_frk 12 [(7,.rows [(eSol false).f zaw]),(0,.rows [(eSol false).f zaw]),(0,.call [] [] (bl v15) [])] (ocons (Enc.share (eSol true) (eSol false) (sSol true) zaw) (ocons (Enc.share (eSol true) (eSol false) (sSol true) zaw) (ocons (Timpl_SameTree (Y:=Y) n (Sol.mk ze (Pl.mk zf zs zt zav) zaw) (Sol.mk ze (Pl.mk zf zs zt zav) zaw) _ y15) onil))) h (by kernel_rfl) (fun h=>?_) (fun h=>?_)
      ·obtain⟨v16,y16,h⟩:=bm h
       obtain⟨v17,y17,h⟩:=bm h
       replace h:=sj h;subst h
       exact x_end 9 [(0,.rows [(eSol false).f zaw]),(0,.call [] [] (.sl false 4 v16.length ((ePl).f v16)) []),(1,.rows [(eSol false).f zaw]),(0,.call [] [] (i64 v17) [])] [] (ocons (Enc.share (eSol true) (eSol false) (sSol true) zaw) (ocons (shSl (L:=v16) ePl ePl sPl (Timpl_PlanesOf (Y:=Y) n (Sol.mk ze (Pl.mk zf zs zt zav) zaw) _ y16)) (ocons (Enc.share (eSol true) (eSol false) (sSol true) zaw) (ocons (Timpl_NodesOf (Y:=Y) n (Sol.mk ze (Pl.mk zf zs zt zav) zaw) _ y17) onil)))) onil 
      ·replace h:=sj h;subst h
       exact x_end 9 [] [] onil onil 
     ·refine x_frk 7 [] onil h (by kernel_rfl) (fun h=>?_) (fun h=>?_)
      ·obtain⟨v18,y18,h⟩:=bm h
       refine x_frk 5 [(0,.rows [(eSol false).f zaw]),(0,.rows [(eSol false).f zaw]),(0,.call [] [] (bl v18) [])] (ocons (Enc.share (eSol true) (eSol false) (sSol true) zaw) (ocons (Enc.share (eSol true) (eSol false) (sSol true) zaw) (ocons (Timpl_SameTree (Y:=Y) n (Sol.mk ze (Pl.mk zf zs zt zav) zaw) (Sol.mk ze (Pl.mk zf zs zt zav) zaw) _ y18) onil))) h (by kernel_rfl) (fun h=>?_) (fun h=>?_)
       ·obtain⟨v19,y19,h⟩:=bm h
        obtain⟨v20,y20,h⟩:=bm h
        replace h:=sj h;subst h
        exact x_end 9 [(0,.rows [(eSol false).f zaw]),(0,.call [] [] (.sl false 4 v19.length ((ePl).f v19)) []),(1,.rows [(eSol false).f zaw]),(0,.call [] [] (i64 v20) [])] [] (ocons (Enc.share (eSol true) (eSol false) (sSol true) zaw) (ocons (shSl (L:=v19) ePl ePl sPl (Timpl_PlanesOf (Y:=Y) n (Sol.mk ze (Pl.mk zf zs zt zav) zaw) _ y19)) (ocons (Enc.share (eSol true) (eSol false) (sSol true) zaw) (ocons (Timpl_NodesOf (Y:=Y) n (Sol.mk ze (Pl.mk zf zs zt zav) zaw) _ y20) onil)))) onil 
       ·replace h:=sj h;subst h
        exact x_end 9 [] [] onil onil 
      ·replace h:=sj h;subst h
       exact x_end 14 [] [] onil onil 
    ·replace h:=sj h;subst h
     exact x_end 24 [] [] onil onil 
   ·replace h:=sj h;subst h
    exact x_end 30 [] [] onil onil 
  ·replace h:=sj h;subst h
   exact x_end 34 [] [] onil onil 
 ·replace h:=sj h;subst h
  exact x_end 42 [] [] onil onil 
def Dlaws_FnCells_2(n:Nat)(ze:Bool)(zf zs zt zav:Int)(zaw:List Sol)(za zu zv zw:Int)(rec0:(Int×Int×List (List Pl))→Option Bool)(a:(Int×Int×List (List Pl))):Option Bool :=
 match a with
 | (t8,t9,l27)=>frk (decide (t9<(l27.length:Int))) ((lget l27 t9).bind fun v6=>(Dimpl_Open n v6).bind fun v7=>frk (!v7) (some false) ((lget l27 t9).bind fun v8=>(Dimpl_DepthOf n (Sol.mk ze (Pl.mk zf zs zt zav) zaw)).bind fun v9=>Dlaws_FnCells_0 n rec0 ze zf zs zt zav zaw za zu zv zw t8 t9 (decide ((v8.length:Int)>v9)) l27)) (Dlaws_FnCells_1 n t8 ze zf zs zt zav zaw za zu zv zw l27)
theorem Tlaws_FnCells_2{Y}(n:Nat)(ze:Bool)(zf zs zt zav:Int)(zaw:List Sol)(za zu zv zw:Int):∀(m:Nat) (a:(Int×Int×List (List Pl))) (r:Bool),loopN (Dlaws_FnCells_2 n ze zf zs zt zav zaw za zu zv zw) m a=some r→Wk Tryz.prog H Y 6 [.code (cp [1,1,1,1,1,1,1,0,1,0] (bodyOf Tryz.f6)),.blk 0,.code (cp [1,1,1,1,1,1,1,1] (bodyOf Tryz.f6))] (FinX Tryz.prog Tryz.f6 [] (bl r) []) ⟨[(3,.ptr 3 0),(4,.ptr 4 0),(7,.msl 27 a.2.2.length),(8,i64 a.1),(9,i64 a.2.1)],[(3,⟨true,0,[bl ze,i64 zf,i64 zs,i64 zt,i64 zav,.sl true 6 zaw.length ((eSol true).f zaw)]⟩),(4,⟨true,0,[i64 za,i64 zu,i64 zv,i64 zw]⟩),(27,⟨true,1,(ePls true).f a.2.2⟩)]⟩:=by
 refine loopN_ind (fun rec0 hrec0 a r h=>?_)
 obtain⟨t8,t9,l27⟩:=a
 unfold Dlaws_FnCells_2 at h
 refine x_frk 9 [] onil h (by kernel_rfl) (fun h=>?_) (fun h=>?_)
 ·obtain⟨v6,y6,h⟩:=bm h
  obtain⟨v7,y7,h⟩:=bm h
  refine x_frk 14 [(2,.unit),(0,.val (.sl true 4 v6.length ((ePl).f v6))),(0,.fix 37 (.sl false 4 v6.length ((ePl).f v6))),(0,.call [] [] (bl v7) [])] (ocons (inr y6) (ocons (ld1 (ePls true) y6 0 rfl) (ocons (congrArg (AV.sl false 4 v6.length) (Enc.share ePl ePl sPl v6)) (ocons (Timpl_Open (Y:=Y) n v6 _ y7) onil)))) h (by kernel_rfl) (fun h=>?_) (fun h=>?_)
  ·replace h:=sj h;subst h
   exact x_end 15 [] [] onil onil 
  ·obtain⟨v8,y8,h⟩:=bm h
   obtain⟨v9,y9,h⟩:=bm h
   exact x_to 11 [(2,.unit),(0,.val (.sl true 4 v8.length ((ePl).f v8))),(0,.fix 44 (.sl false 4 v8.length ((ePl).f v8))),(1,.rows [(eSol false).f zaw]),(0,.call [] [] (i64 v9) [])] (ocons (inr y8) (ocons (ld1 (ePls true) y8 0 rfl) (ocons (congrArg (AV.sl false 4 v8.length) (Enc.share ePl ePl sPl v8)) (ocons (Enc.share (eSol true) (eSol false) (sSol true) zaw) (ocons (Timpl_DepthOf (Y:=Y) n (Sol.mk ze (Pl.mk zf zs zt zav) zaw) _ y9) onil))))) (Tlaws_FnCells_0 n rec0 ze zf zs zt zav zaw za zu zv zw hrec0 t8 t9 (decide ((v8.length:Int)>v9)) l27 r h) 
 ·exact x_to 2 [] onil (Tlaws_FnCells_1 n t8 ze zf zs zt zav zaw za zu zv zw l27 r h) 
def Dlaws_FnCells(n:Nat)(a0:(List Int)):Option Bool :=
 (Dlaws_big a0).bind fun v0=>frk v0 (some true) ((Dspec_DrawSolid n a0).bind fun v1=>(Dimpl_Cells n v1.1 true).bind fun v2=>(Dimpl_Cells n v1.1 false).bind fun v3=>chk (apB 24 (0+v2.length)) (chk (apB 24 (([]++v2).length+v3.length)) (loopN (Dlaws_FnCells_2 n v1.1.inn v1.1.pl.A v1.1.pl.B v1.1.pl.C v1.1.pl.D v1.1.kids v1.2.X v1.2.Y v1.2.Z v1.2.W) n (0,0,(([]++v2)++v3)))))
theorem Tlaws_FnCells{Y}(n:Nat)(a0:(List Int))(r:Bool)(h:Dlaws_FnCells n a0=some r):Big Tryz.prog H Y (.call 6 [.sl false 1 a0.length ((eU8).f a0)] (lk []) (bl r) (lk [])):=by
 unfold Dlaws_FnCells at h
 refine x_call (fn:=Tryz.f6) (c:=bodyOf Tryz.f6) (bs0:=[]) Tryz.func6 (by kernel_rfl) (by kernel_rfl) ?_
 obtain⟨v0,y0,h⟩:=bm h
 refine x_frk 10 [(2,.call [] [] (bl v0) [])] (ocons (Tlaws_big (Y:=Y) a0 _ y0) onil) h (by kernel_rfl) (fun h=>?_) (fun h=>?_)
 ·replace h:=sj h;subst h
  exact x_end 4 [] [] onil onil 
 ·obtain⟨v1,y1,h⟩:=bm h
  obtain⟨v2,y2,h⟩:=bm h
  obtain⟨v3,y3,h⟩:=bm h
  obtain⟨c4,h⟩:=chk_some h
  obtain⟨c5,h⟩:=chk_some h
  exact x_to 44 [(1,.call [] [] (.tup [eS v1.1,.agg [i64 v1.2.X,i64 v1.2.Y,i64 v1.2.Z,i64 v1.2.W]]) []),(7,.rows [(eSol false).f v1.1.kids]),(0,.call [] [] (.sl true 1 v2.length ((ePls true).f v2)) []),(1,.rows [(eSol false).f v1.1.kids]),(0,.call [] [] (.sl true 1 v3.length ((ePls true).f v3)) []),(3,.app true (List.length ([]++v2)) ((ePls true).f ([]++v2))),(1,.app true (List.length (([]++v2)++v3)) ((ePls true).f (([]++v2)++v3)))] (ocons (Tspec_DrawSolid (Y:=Y) n a0 _ y1) (ocons (Enc.share (eSol true) (eSol false) (sSol true) v1.1.kids) (ocons (Timpl_Cells (Y:=Y) n v1.1 true _ y2) (ocons (Enc.share (eSol true) (eSol false) (sSol true) v1.1.kids) (ocons (Timpl_Cells (Y:=Y) n v1.1 false _ y3) (ocons (len_row' (L:=[]) (ePls true)) (ocons (app_one (L:=[]) (M:=v2) (ePls true) c4) (ocons (app_new (L:=[]) (M:=v2) (ePls true)) (ocons (app_m (L:=[]) (M:=v2) (ePls true) rfl) (ocons (len_row' (L:=v2) (ePls true)) (ocons (len_row' (L:=([]++v2)) (ePls true)) (ocons (app_one (L:=([]++v2)) (M:=v3) (ePls true) c5) (ocons (app_new (L:=([]++v2)) (M:=v3) (ePls true)) (ocons (app_m (L:=([]++v2)) (M:=v3) (ePls true) rfl) (ocons (len_row' (L:=v3) (ePls true)) onil))))))))))))))) (Tlaws_FnCells_2 n v1.1.inn v1.1.pl.A v1.1.pl.B v1.1.pl.C v1.1.pl.D v1.1.kids v1.2.X v1.2.Y v1.2.Z v1.2.W n (0,0,(([]++v2)++v3)) r h) 
end Evl.T
