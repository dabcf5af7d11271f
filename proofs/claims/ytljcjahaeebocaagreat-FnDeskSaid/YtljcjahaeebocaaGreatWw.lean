
/- Walks. No condition. -/
import Derived.Test.YtljcjahaeebocaaGreatWx
namespace Evl.T
open Go Evl Go.Proofs
set_option maxRecDepth 100000
set_option maxHeartbeats 8000000
def Dp_l5Spot_0(_n:Nat)(t0 t1 t2 t3 t9 _zac _zad _zae _zar:Int):Option Spot :=
 (qt .i64 t0 t9).bind fun v3=>(qt .i64 t1 t9).bind fun v4=>(qt .i64 t2 t9).bind fun v5=>(qt .i64 t3 t9).bind fun v6=>some (Spot.mk v3 v4 v5 v6)
theorem Tp_l5Spot_0{Y}(n:Nat)(t0 t1 t2 t3 t9 zac zad zae zar:Int)(r:Spot)(h:Dp_l5Spot_0 n t0 t1 t2 t3 t9 zac zad zae zar=some r):WT Y 86 [.code (cp [1,1,1,0] B86),.code (cp [1,1,1,1] B86)] (FT Tryz.f86 [] (.agg [iN r.X,iN r.Y,iN r.Z,iN r.W]) []) ⟨[(0,iN t0),(1,iN t1),(2,iN t2),(3,iN t3),(8,.ptr 8 0),(9,iN t9)],[(8,⟨true,0,[iN zac,iN zad,iN zae,iN zar]⟩)]⟩:=by
 unfold Dp_l5Spot_0 at h
 obtain⟨v3,y3,h⟩:=bm h
 obtain⟨v4,y4,h⟩:=bm h
 obtain⟨v5,y5,h⟩:=bm h
 obtain⟨v6,y6,h⟩:=bm h
 obtain rfl:=sj h
 exact x_end 16 [(2,.val (iN v3)),(2,.val (iN v4)),(2,.val (iN v5)),(2,.val (iN v6))] [] (oC (qtOk y3) (oC (qtOk y4) (oC (qtOk y5) (oI (qtOk y6))))) oN 
def Dp_l5Spot(n:Nat)(a0 a1 a2 a3:Int):Option Spot :=
 (Dp_l3Gcd n a0 a1).bind fun v0=>(Dp_l3Gcd n a2 a3).bind fun v1=>(Dp_l3Gcd n v0 v1).bind fun v2=>frk (decide (a3<0)) (Dp_l5Spot_0 n a0 a1 a2 a3 (w64 (0-v2)) 0 0 0 0) (Dp_l5Spot_0 n a0 a1 a2 a3 v2 0 0 0 0)
theorem Tp_l5Spot{Y}(n:Nat)(a0 a1 a2 a3:Int)(r:Spot)(h:Dp_l5Spot n a0 a1 a2 a3=some r):BT Y (.call 86 [iN a0,iN a1,iN a2,iN a3] (lk []) (.agg [iN r.X,iN r.Y,iN r.Z,iN r.W]) (lk [])):=by
 unfold Dp_l5Spot at h
 refine x_call (fn:=Tryz.f86) (c:=B86) (bs0:=[]) Tryz.func86 (by kernel_rfl) (by kernel_rfl) ?_
 obtain⟨v0,y0,h⟩:=bm h
 obtain⟨v1,y1,h⟩:=bm h
 obtain⟨v2,y2,h⟩:=bm h
 refine x_frk 21 [(3,.call [] [] (iN v0) []),(2,.call [] [] (iN v1) []),(0,.call [] [] (iN v2) [])] (oC (Tp_l3Gcd (Y:=Y) n a0 a1 _ y0) (oC (Tp_l3Gcd (Y:=Y) n a2 a3 _ y1) (oI (Tp_l3Gcd (Y:=Y) n v0 v1 _ y2)))) h (fun h=>?_) (fun h=>?_)
 ·exact x_to 6 [] oN (Tp_l5Spot_0 n a0 a1 a2 a3 (w64 (0-v2)) 0 0 0 0 r h) 
 ·exact x_to 2 [] oN (Tp_l5Spot_0 n a0 a1 a2 a3 v2 0 0 0 0 r h) 
def Dp_l5Meet(n:Nat)(a0:Pl)(a1:Pl)(a2:Pl):Option (Spot×Bool) :=
 (Dp_l4Det3 a0 a1 a2).bind fun v0=>frk (v0==0) (some ((Spot.mk 0 0 0 0),false)) ((Dp_l4Det3 (Pl.mk (w64 (0-a0.D)) a0.B a0.C 0) (Pl.mk (w64 (0-a1.D)) a1.B a1.C 0) (Pl.mk (w64 (0-a2.D)) a2.B a2.C 0)).bind fun v1=>(Dp_l4Det3 (Pl.mk a0.A (w64 (0-a0.D)) a0.C 0) (Pl.mk a1.A (w64 (0-a1.D)) a1.C 0) (Pl.mk a2.A (w64 (0-a2.D)) a2.C 0)).bind fun v2=>(Dp_l4Det3 (Pl.mk a0.A a0.B (w64 (0-a0.D)) 0) (Pl.mk a1.A a1.B (w64 (0-a1.D)) 0) (Pl.mk a2.A a2.B (w64 (0-a2.D)) 0)).bind fun v3=>(Dp_l5Spot n v1 v2 v3 v0).bind fun v4=>some (v4,true))
theorem Tp_l5Meet{Y}(n:Nat)(a0:Pl)(a1:Pl)(a2:Pl)(r:(Spot×Bool))(h:Dp_l5Meet n a0 a1 a2=some r):BT Y (.call 101 [.agg [iN a0.A,iN a0.B,iN a0.C,iN a0.D],.agg [iN a1.A,iN a1.B,iN a1.C,iN a1.D],.agg [iN a2.A,iN a2.B,iN a2.C,iN a2.D]] (lk []) (.tup [.agg [iN r.1.X,iN r.1.Y,iN r.1.Z,iN r.1.W],bl r.2]) (lk [])):=by
 unfold Dp_l5Meet at h
 refine x_call (fn:=Tryz.f101) (c:=B101) (bs0:=[]) Tryz.func101 (by kernel_rfl) (by kernel_rfl) ?_
 obtain⟨v0,y0,h⟩:=bm h
 refine x_frk 22 [(8,.call [] [] (iN v0) [])] (oI (Tp_l4Det3 (Y:=Y) a0 a1 a2 _ y0)) h (fun h=>?_) (fun h=>?_)
 ·obtain rfl:=sj h
  exact x_end 6 [] [] oN oN 
 ·obtain⟨v1,y1,h⟩:=bm h
  obtain⟨v2,y2,h⟩:=bm h
  obtain⟨v3,y3,h⟩:=bm h
  obtain⟨v4,y4,h⟩:=bm h
  obtain rfl:=sj h
  exact x_end 141 [(33,.call [] [] (iN v1) []),(31,.call [] [] (iN v2) []),(33,.call [] [] (iN v3) []),(1,.call [] [] (.agg [iN v4.X,iN v4.Y,iN v4.Z,iN v4.W]) [])] [] (oC (Tp_l4Det3 (Y:=Y) (Pl.mk (w64 (0-a0.D)) a0.B a0.C 0) (Pl.mk (w64 (0-a1.D)) a1.B a1.C 0) (Pl.mk (w64 (0-a2.D)) a2.B a2.C 0) _ y1) (oC (Tp_l4Det3 (Y:=Y) (Pl.mk a0.A (w64 (0-a0.D)) a0.C 0) (Pl.mk a1.A (w64 (0-a1.D)) a1.C 0) (Pl.mk a2.A (w64 (0-a2.D)) a2.C 0) _ y2) (oC (Tp_l4Det3 (Y:=Y) (Pl.mk a0.A a0.B (w64 (0-a0.D)) 0) (Pl.mk a1.A a1.B (w64 (0-a1.D)) 0) (Pl.mk a2.A a2.B (w64 (0-a2.D)) 0) _ y3) (oI (Tp_l5Spot (Y:=Y) n v1 v2 v3 v0 _ y4))))) oN 
def Dp_l5Draw_0(n:Nat)(_zg _zh _zi _zj:Int)(zat:List Int)(zau zbo:Int):Option (Spot×((List Int)×Int×Int)) :=
 (Dp_l1Below (zat,zau,zbo) 21).bind fun v5=>(Dp_l1Below v5.2 21).bind fun v6=>(Dp_l1Below v6.2 21).bind fun v7=>(Dp_l1Int v7.2 [1,1,2,3,7]).bind fun v8=>(Dp_l5Spot n (w64 (v5.1-10)) (w64 (v6.1-10)) (w64 (v7.1-10)) v8.1).bind fun v9=>some (v9,v8.2)
theorem Tp_l5Draw_0{Y}(n:Nat)(zg zh zi zj:Int)(zat:List Int)(zau zbo:Int)(r:(Spot×((List Int)×Int×Int)))(h:Dp_l5Draw_0 n zg zh zi zj zat zau zbo=some r):WT Y 50 [.code (cp [1,1,0] B50),.code (cp [1,1,1] B50)] (FT Tryz.f50 [(1000,⟨true,0,[.bad,.bad,.bad]⟩)] (.agg [iN r.1.X,iN r.1.Y,iN r.1.Z,iN r.1.W]) [(1000,⟨true,0,[.sl false 1 r.2.1.length ((eU8).f r.2.1),iN r.2.2.1,iN r.2.2.2]⟩)]) ⟨[(0,.ptr 1000 0),(2,.ptr 2 0)],[(2,⟨true,0,[iN zg,iN zh,iN zi,iN zj]⟩),(1000,⟨true,0,[.sl false 1 zat.length ((eU8).f zat),iN zau,iN zbo]⟩)]⟩:=by
 unfold Dp_l5Draw_0 at h
 obtain⟨v5,y5,h⟩:=bm h
 obtain⟨v6,y6,h⟩:=bm h
 obtain⟨v7,y7,h⟩:=bm h
 obtain⟨v8,y8,h⟩:=bm h
 obtain⟨v9,y9,h⟩:=bm h
 obtain rfl:=sj h
 exact x_end 16 [(1,.call [] [] (iN v5.1) [(1000,⟨true,0,[.sl false 1 v5.2.1.length ((eU8).f v5.2.1),iN v5.2.2.1,iN v5.2.2.2]⟩)]),(2,.call [] [] (iN v6.1) [(1000,⟨true,0,[.sl false 1 v6.2.1.length ((eU8).f v6.2.1),iN v6.2.2.1,iN v6.2.2.2]⟩)]),(2,.call [] [] (iN v7.1) [(1000,⟨true,0,[.sl false 1 v7.2.1.length ((eU8).f v7.2.1),iN v7.2.2.1,iN v7.2.2.2]⟩)]),(3,.call [] [] (iN v8.1) [(1000,⟨true,0,[.sl false 1 v8.2.1.length ((eU8).f v8.2.1),iN v8.2.2.1,iN v8.2.2.2]⟩)]),(0,.call [] [] (.agg [iN v9.X,iN v9.Y,iN v9.Z,iN v9.W]) [])] [] (oC (Tp_l1Below (Y:=Y) (zat,zau,zbo) 21 _ y5) (oC (Tp_l1Below (Y:=Y) v5.2 21 _ y6) (oC (Tp_l1Below (Y:=Y) v6.2 21 _ y7) (oC (Big.wka (show WkT [.ptr 1000 0,.sl true 1 5 ((eInt).f [1,1,2,3,7])] [.ptr 1000 0,.sl false 1 5 ((eInt).f [1,1,2,3,7])] from ⟨wkSameU _,wkShareU (L:=[1,1,2,3,7]) eInt eInt sInt,trivial⟩) (Tp_l1Int (Y:=Y) v7.2 [1,1,2,3,7] _ y8)) (oC (len_row (L:=[1,1,2,3,7]) eInt) (oI (Tp_l5Spot (Y:=Y) n (w64 (v5.1-10)) (w64 (v6.1-10)) (w64 (v7.1-10)) v8.1 _ y9))))))) oN 
def Dp_l5Draw(n:Nat)(a0:((List Int)×Int×Int)):Option (Spot×((List Int)×Int×Int)) :=
 (Dp_l1Once a0 3).bind fun v0=>frk v0.1 ((Dp_l3Draw n v0.2).bind fun v1=>(Dp_l3Draw n v1.2).bind fun v2=>(Dp_l3Draw n v2.2).bind fun v3=>(Dp_l5Meet n v1.1 v2.1 v3.1).bind fun v4=>frk v4.2 (some (v4.1,v3.2)) (Dp_l5Draw_0 n 0 0 0 0 v3.2.1 v3.2.2.1 v3.2.2.2)) (Dp_l5Draw_0 n 0 0 0 0 v0.2.1 v0.2.2.1 v0.2.2.2)
theorem Tp_l5Draw{Y}(n:Nat)(a0:((List Int)×Int×Int))(r:(Spot×((List Int)×Int×Int)))(h:Dp_l5Draw n a0=some r):BT Y (.call 50 [.ptr 1000 0] (lk [(1000,⟨true,0,[.sl false 1 a0.1.length ((eU8).f a0.1),iN a0.2.1,iN a0.2.2]⟩)]) (.agg [iN r.1.X,iN r.1.Y,iN r.1.Z,iN r.1.W]) (lk [(1000,⟨true,0,[.sl false 1 r.2.1.length ((eU8).f r.2.1),iN r.2.2.1,iN r.2.2.2]⟩)])):=by
 unfold Dp_l5Draw at h
 refine x_call (fn:=Tryz.f50) (c:=B50) (bs0:=[(1000,⟨true,0,[.bad,.bad,.bad]⟩)]) Tryz.func50 (by kernel_rfl) (by kernel_rfl) ?_
 obtain⟨v0,y0,h⟩:=bm h
 refine x_frk 10 [(2,.call [] [] (bl v0.1) [(1000,⟨true,0,[.sl false 1 v0.2.1.length ((eU8).f v0.2.1),iN v0.2.2.1,iN v0.2.2.2]⟩)])] (oI (Tp_l1Once (Y:=Y) a0 3 _ y0)) h (fun h=>?_) (fun h=>?_)
 ·obtain⟨v1,y1,h⟩:=bm h
  obtain⟨v2,y2,h⟩:=bm h
  obtain⟨v3,y3,h⟩:=bm h
  obtain⟨v4,y4,h⟩:=bm h
  refine x_frk 20 [(1,.call [] [] (.agg [iN v1.1.A,iN v1.1.B,iN v1.1.C,iN v1.1.D]) [(1000,⟨true,0,[.sl false 1 v1.2.1.length ((eU8).f v1.2.1),iN v1.2.2.1,iN v1.2.2.2]⟩)]),(1,.call [] [] (.agg [iN v2.1.A,iN v2.1.B,iN v2.1.C,iN v2.1.D]) [(1000,⟨true,0,[.sl false 1 v2.2.1.length ((eU8).f v2.2.1),iN v2.2.2.1,iN v2.2.2.2]⟩)]),(1,.call [] [] (.agg [iN v3.1.A,iN v3.1.B,iN v3.1.C,iN v3.1.D]) [(1000,⟨true,0,[.sl false 1 v3.2.1.length ((eU8).f v3.2.1),iN v3.2.2.1,iN v3.2.2.2]⟩)]),(0,.call [] [] (.tup [.agg [iN v4.1.X,iN v4.1.Y,iN v4.1.Z,iN v4.1.W],bl v4.2]) [])] (oC (Tp_l3Draw (Y:=Y) n v0.2 _ y1) (oC (Tp_l3Draw (Y:=Y) n v1.2 _ y2) (oC (Tp_l3Draw (Y:=Y) n v2.2 _ y3) (oI (Tp_l5Meet (Y:=Y) n v1.1 v2.1 v3.1 _ y4))))) h (fun h=>?_) (fun h=>?_)
  ·obtain rfl:=sj h
   exact x_end 5 [] [] oN oN 
  ·exact x_to 2 [] oN (Tp_l5Draw_0 n 0 0 0 0 v3.2.1 v3.2.2.1 v3.2.2.2 r h) 
 ·exact x_to 2 [] oN (Tp_l5Draw_0 n 0 0 0 0 v0.2.1 v0.2.2.1 v0.2.2.2 r h) 
def Dp_DrawSolid_0(n:Nat)(_zg:Bool)(_zh _zi _zj _zk _zl _zm _zn _zo:Int)(zv:Bool)(zw zx zy zak:Int)(zal:List Sol)(zz:List Int)(zaa zab:Int):Option (Sol×Spot) :=
 (Dp_l5Draw n (zz,zaa,zab)).bind fun v6=>some ((Sol.mk zv (Pl.mk zw zx zy zak) zal),v6.1)
theorem Tp_DrawSolid_0{Y}(n:Nat)(zg:Bool)(zh zi zj zk zl zm zn zo:Int)(zv:Bool)(zw zx zy zak:Int)(zal:List Sol)(zz:List Int)(zaa zab:Int)(r:(Sol×Spot))(h:Dp_DrawSolid_0 n zg zh zi zj zk zl zm zn zo zv zw zx zy zak zal zz zaa zab=some r):WT Y 13 [.code (cp [1,1,1,1,0] B13),.code (cp [1,1,1,1,1] B13)] (FT Tryz.f13 [] (.tup [eS r.1,.agg [iN r.2.X,iN r.2.Y,iN r.2.Z,iN r.2.W]]) []) ⟨[(2,.ptr 2 0),(3,.ptr 3 0),(4,.ptr 7 0),(5,.ptr 5 0)],[(2,⟨true,0,[bl zg,iN zh,iN zi,iN zj,iN zk,.nil]⟩),(3,⟨true,0,[iN zl,iN zm,iN zn,iN zo]⟩),(5,⟨true,0,[bl zv,iN zw,iN zx,iN zy,iN zak,.sl true 6 zal.length ((eSol true).f zal)]⟩),(7,⟨true,0,[.sl false 1 zz.length ((eU8).f zz),iN zaa,iN zab]⟩)]⟩:=by
 unfold Dp_DrawSolid_0 at h
 obtain⟨v6,y6,h⟩:=bm h
 obtain rfl:=sj h
 exact x_end 7 [(2,.call [] [] (.agg [iN v6.1.X,iN v6.1.Y,iN v6.1.Z,iN v6.1.W]) [(1000,⟨true,0,[.sl false 1 v6.2.1.length ((eU8).f v6.2.1),iN v6.2.2.1,iN v6.2.2.2]⟩)])] [] (oI (Tp_l5Draw (Y:=Y) n (zz,zaa,zab) _ y6)) oN 
def Dp_DrawSolid(n:Nat)(a0:(List Int)):Option (Sol×Spot) :=
 (Dp_l1New n a0).bind fun v0=>(Dp_l1Below v0 5).bind fun v1=>(Dp_l8Grow n v1.2 [] (w64 (1+v1.1))).bind fun v2=>(Dp_l1Once v2.2 3).bind fun v3=>frk v3.1 ((Dp_l6Cell n v3.2 4).bind fun v4=>(Dp_Convex n v4.1).bind fun v5=>Dp_DrawSolid_0 n false 0 0 0 0 0 0 0 0 v5.1.inn v5.1.pl.A v5.1.pl.B v5.1.pl.C v5.1.pl.D v5.1.kids v4.2.1 v4.2.2.1 v4.2.2.2) (Dp_DrawSolid_0 n false 0 0 0 0 0 0 0 0 v2.1.inn v2.1.pl.A v2.1.pl.B v2.1.pl.C v2.1.pl.D v2.1.kids v3.2.1 v3.2.2.1 v3.2.2.2)
theorem Tp_DrawSolid{Y}(n:Nat)(a0:(List Int))(r:(Sol×Spot))(h:Dp_DrawSolid n a0=some r):BT Y (.call 13 [.sl false 1 a0.length ((eU8).f a0)] (lk []) (.tup [eS r.1,.agg [iN r.2.X,iN r.2.Y,iN r.2.Z,iN r.2.W]]) (lk [])):=by
 unfold Dp_DrawSolid at h
 refine x_call (fn:=Tryz.f13) (c:=B13) (bs0:=[]) Tryz.func13 (by kernel_rfl) (by kernel_rfl) ?_
 obtain⟨v0,y0,h⟩:=bm h
 obtain⟨v1,y1,h⟩:=bm h
 obtain⟨v2,y2,h⟩:=bm h
 obtain⟨v3,y3,h⟩:=bm h
 refine x_frk 28 [(3,.call [] [] (.nbx [.sl false 1 v0.1.length ((eU8).f v0.1),iN v0.2.1,iN v0.2.2]) []),(4,.call [] [] (iN v1.1) [(1000,⟨true,0,[.sl false 1 v1.2.1.length ((eU8).f v1.2.1),iN v1.2.2.1,iN v1.2.2.2]⟩)]),(1,.call [] [] (eS v2.1) [(1000,⟨true,0,[.sl false 1 v2.2.1.length ((eU8).f v2.2.1),iN v2.2.2.1,iN v2.2.2.2]⟩)]),(3,.call [] [] (bl v3.1) [(1000,⟨true,0,[.sl false 1 v3.2.1.length ((eU8).f v3.2.1),iN v3.2.2.1,iN v3.2.2.2]⟩)])] (oC (Tp_l1New (Y:=Y) n a0 _ y0) (oC (Tp_l1Below (Y:=Y) v0 5 _ y1) (oC (Big.wka (show WkT [.ptr 1000 0,.sl true 4 0 ((ePl).f []),iN (w64 (1+v1.1))] [.ptr 1000 0,.sl false 4 0 ((ePl).f []),iN (w64 (1+v1.1))] from ⟨wkSameU _,wkShareU (L:=[]) ePl ePl sPl,wkSameU _,trivial⟩) (Tp_l8Grow (Y:=Y) n v1.2 [] (w64 (1+v1.1)) _ y2)) (oC (len_row (L:=[]) ePl) (oI (Tp_l1Once (Y:=Y) v2.2 3 _ y3)))))) h (fun h=>?_) (fun h=>?_)
 ·obtain⟨v4,y4,h⟩:=bm h
  obtain⟨v5,y5,h⟩:=bm h
  exact x_to 10 [(1,.call [] [] (.sl false 4 v4.1.length ((ePl).f v4.1)) [(1000,⟨true,0,[.sl false 1 v4.2.1.length ((eU8).f v4.2.1),iN v4.2.2.1,iN v4.2.2.2]⟩)]),(0,.call [] [] (.tup [eS v5.1,iN v5.2]) [])] (oC (shSl (L:=v4.1) ePl ePl sPl (Tp_l6Cell (Y:=Y) n v3.2 4 _ y4)) (oI (Tp_Convex (Y:=Y) n v4.1 _ y5))) (Tp_DrawSolid_0 n false 0 0 0 0 0 0 0 0 v5.1.inn v5.1.pl.A v5.1.pl.B v5.1.pl.C v5.1.pl.D v5.1.kids v4.2.1 v4.2.2.1 v4.2.2.2 r h) 
 ·exact x_to 2 [] oN (Tp_DrawSolid_0 n false 0 0 0 0 0 0 0 0 v2.1.inn v2.1.pl.A v2.1.pl.B v2.1.pl.C v2.1.pl.D v2.1.kids v3.2.1 v3.2.2.1 v3.2.2.2 r h) 
def Di_inRange(a0 a1 a2:Int):Option Bool :=
 frk (decide (a0≥a1)) (some (decide (a0≤a2))) (some false)
theorem Ti_inRange{Y}(a0 a1 a2:Int)(r:Bool)(h:Di_inRange a0 a1 a2=some r):BT Y (.call 120 [iN a0,iN a1,iN a2] (lk []) (bl r) (lk [])):=by
 unfold Di_inRange at h
 refine x_call (fn:=Tryz.f120) (c:=B120) (bs0:=[]) Tryz.func120 (by kernel_rfl) (by kernel_rfl) ?_
 refine x_frk 10 [] oN h (fun h=>?_) (fun h=>?_)
 ·obtain rfl:=sj h
  exact x_end 6 [] [] oN oN 
 ·obtain rfl:=sj h
  exact x_end 6 [] [] oN oN 
def Di_isPlace(a0:Int):Option Bool :=
 (Di_inRange a0 0 7).bind fun v0=>some v0
theorem Ti_isPlace{Y}(a0:Int)(r:Bool)(h:Di_isPlace a0=some r):BT Y (.call 62 [iN a0] (lk []) (bl r) (lk [])):=by
 unfold Di_isPlace at h
 refine x_call (fn:=Tryz.f62) (c:=B62) (bs0:=[]) Tryz.func62 (by kernel_rfl) (by kernel_rfl) ?_
 obtain⟨v0,y0,h⟩:=bm h
 obtain rfl:=sj h
 exact x_end 10 [(2,.call [] [] (bl v0) [])] [] (oI (Ti_inRange (Y:=Y) a0 0 7 _ y0)) oN 
def Di_copySolid_0(_n:Nat)(self:Sol→Option Sol)(t12:List Sol)(t13:Int)(_zg:Bool)(_zh _zi _zj _zk:Int)(zl:Bool)(zm zn zo zp:Int)(rec0:(Int×List Sol)→Option Sol)(a:(Int×List Sol)):Option Sol :=
 match a with
 | (t14,l635)=>frk (decide (t14<t13)) ((lget t12 t14).bind fun v0=>(self v0).bind fun v1=>chk (apB 64 (l635.length+1)) (rec0 (w64 (t14+1),(l635++[v1])))) (some (Sol.mk zl (Pl.mk zm zn zo zp) l635))
theorem Ti_copySolid_0{Y}(n:Nat)(self:Sol→Option Sol)(hself:∀(a:Sol) (r:Sol),self a=some r→BT Y (.call 121 [eF a] (lk []) (eS r) (lk [])))(t12:List Sol)(t13:Int)(zg:Bool)(zh zi zj zk:Int)(zl:Bool)(zm zn zo zp:Int):∀(m:Nat) (a:(Int×List Sol)) (r:Sol),loopN (Di_copySolid_0 n self t12 t13 zg zh zi zj zk zl zm zn zo zp) m a=some r→WT Y 121 [.code (cp [1,1,0,1,0] B121),.blk 0,.code (cp [1,1,1] B121)] (FT Tryz.f121 [] (eS r) []) ⟨[(2,.ptr 2 0),(3,.ptr 3 0),(12,.sl false 6 t12.length ((eSol false).f t12)),(13,iN t13),(14,iN a.1)],[(2,⟨true,0,[bl zg,iN zh,iN zi,iN zj,iN zk,.nil]⟩),(3,⟨true,0,[bl zl,iN zm,iN zn,iN zo,iN zp,.msl 635 a.2.length]⟩),(635,⟨true,6,(eSol true).f a.2⟩)]⟩:=by
 refine loopN_ind (fun _rec0 hrec0 a r h=>?_)
 obtain⟨t14,l635⟩:=a
 unfold Di_copySolid_0 at h
 refine x_frk 6 [] oN h (fun h=>?_) (fun h=>?_)
 ·obtain⟨v0,y0,h⟩:=bm h
  obtain⟨v1,y1,h⟩:=bm h
  obtain⟨c2,h⟩:=chk_some h
  exact x_to 28 [(0,.val (.cptr ((eSol false).c v0++(eSol false).f ((t12).drop (Int.toNat t14+1))))),(6,.call [] [] (eS v1) []),(1,.fixb 22 ⟨true,6,(eSol true).f [v1]⟩),(0,.app true (List.length (l635++[v1])) ((eSol true).f (l635++[v1]))),(4,.ren 23 635)] (oC (ix (eSol false) y0) (oC (hself v0 _ y1) (oC (boxSol true true [v1]) (oC (len_row' (L:=l635) (eSol true)) (oC (app_one (L:=l635) (M:=[v1]) (eSol true) c2) (oC (app_new (L:=l635) (M:=[v1]) (eSol true)) (oC (app_m (L:=l635) (M:=[v1]) (eSol true) rfl) (oC (len_row' (L:=[v1]) (eSol true)) (oI (show 23<1000∧635<1000 by decide)))))))))) (hrec0 (w64 (t14+1),(l635++[v1])) r h) 
 ·obtain rfl:=sj h
  exact x_end 6 [] [] oN (oI (len_row (L:=l635) (eSol true))) 
def Di_copySolid_b(n:Nat)(self:Sol→Option Sol)(a:Sol):Option Sol :=
 match a with
 | a0=>loopN (Di_copySolid_0 n self a0.kids (a0.kids.length:Int) false 0 0 0 0 a0.inn a0.pl.A a0.pl.B a0.pl.C a0.pl.D) n (0,[])
def Di_copySolid(n:Nat)(a0:Sol):Option Sol:=loopN (Di_copySolid_b n) n a0
theorem Ti_copySolid_b{Y}(n:Nat):∀(m:Nat) (a:Sol) (r:Sol),loopN (Di_copySolid_b n) m a=some r→∀(_:Unit),BT Y (.call 121 [eF a] (lk []) (eS r) (lk [])):=by
 refine loopN_ind (fun self hs a r h=>?_)
 have hself:∀(a:Sol) (r:Sol),self a=some r→BT Y (.call 121 [eF a] (lk []) (eS r) (lk [])):=fun a r h=>hs a r h ()
 intro _
 obtain⟨a0,rfl⟩:∃x,x=a:=⟨a,rfl⟩
 unfold Di_copySolid_b at h
 refine x_call (fn:=Tryz.f121) (c:=B121) (bs0:=[]) Tryz.func121 (by kernel_rfl) (by kernel_rfl) ?_
 exact x_to 25 [(9,.virtc 3 ⟨true,0,[bl a0.inn,iN a0.pl.A,iN a0.pl.B,iN a0.pl.C,iN a0.pl.D,.nil]⟩ 5 635 6)] (oC (rflB ⟨true,0,[bl a0.inn,iN a0.pl.A,iN a0.pl.B,iN a0.pl.C,iN a0.pl.D,.nil]⟩) (oI (⟨rfl,rfl,by decide,by decide,by decide⟩:(⟨true,0,[bl a0.inn,iN a0.pl.A,iN a0.pl.B,iN a0.pl.C,iN a0.pl.D,.nil]⟩:Box).cs[5]?=some .nil∧(⟨true,0,[bl a0.inn,iN a0.pl.A,iN a0.pl.B,iN a0.pl.C,iN a0.pl.D,.nil]⟩:Box).sz=0∧3≠635∧635<1000∧6≠0))) (Ti_copySolid_0 n self hself a0.kids (a0.kids.length:Int) false 0 0 0 0 a0.inn a0.pl.A a0.pl.B a0.pl.C a0.pl.D n (0,[]) r h) 
theorem Ti_copySolid{Y}(n:Nat)(a0:Sol)(r:Sol)(h:Di_copySolid n a0=some r):BT Y (.call 121 [eF a0] (lk []) (eS r) (lk [])):=Ti_copySolid_b n n a0 r h ()
def Di_copyDesk(n:Nat)(a0:Dk8):Option Dk8 :=
 (Di_copySolid n a0.1.1).bind fun v0=>(Di_copySolid n a0.1.2.1).bind fun v1=>(Di_copySolid n a0.1.2.2.1).bind fun v2=>(Di_copySolid n a0.1.2.2.2.1).bind fun v3=>(Di_copySolid n a0.1.2.2.2.2.1).bind fun v4=>(Di_copySolid n a0.1.2.2.2.2.2.1).bind fun v5=>(Di_copySolid n a0.1.2.2.2.2.2.2.1).bind fun v6=>(Di_copySolid n a0.1.2.2.2.2.2.2.2).bind fun v7=>some ((v0,v1,v2,v3,v4,v5,v6,v7),a0.2)
theorem Ti_copyDesk{Y}(n:Nat)(a0:Dk8)(r:Dk8)(h:Di_copyDesk n a0=some r):BT Y (.call 63 [.agg (cT52 a0)] (lk []) (.agg (cT52o r)) (lk [])):=by
 unfold Di_copyDesk at h
 refine x_call (fn:=Tryz.f63) (c:=B63) (bs0:=[]) Tryz.func63 (by kernel_rfl) (by kernel_rfl) ?_
 obtain⟨v0,y0,h⟩:=bm h
 obtain⟨v1,y1,h⟩:=bm h
 obtain⟨v2,y2,h⟩:=bm h
 obtain⟨v3,y3,h⟩:=bm h
 obtain⟨v4,y4,h⟩:=bm h
 obtain⟨v5,y5,h⟩:=bm h
 obtain⟨v6,y6,h⟩:=bm h
 obtain⟨v7,y7,h⟩:=bm h
 obtain rfl:=sj h
 exact x_end 282 [(13,.call [] [] (eS v0) []),(13,.call [] [] (eS v1) []),(13,.call [] [] (eS v2) []),(13,.call [] [] (eS v3) []),(13,.call [] [] (eS v4) []),(13,.call [] [] (eS v5) []),(13,.call [] [] (eS v6) []),(13,.call [] [] (eS v7) [])] [] (oC (Ti_copySolid (Y:=Y) n a0.1.1 _ y0) (oC (Ti_copySolid (Y:=Y) n a0.1.2.1 _ y1) (oC (Ti_copySolid (Y:=Y) n a0.1.2.2.1 _ y2) (oC (Ti_copySolid (Y:=Y) n a0.1.2.2.2.1 _ y3) (oC (Ti_copySolid (Y:=Y) n a0.1.2.2.2.2.1 _ y4) (oC (Ti_copySolid (Y:=Y) n a0.1.2.2.2.2.2.1 _ y5) (oC (Ti_copySolid (Y:=Y) n a0.1.2.2.2.2.2.2.1 _ y6) (oI (Ti_copySolid (Y:=Y) n a0.1.2.2.2.2.2.2.2 _ y7))))))))) oN 
def Di_Solid_isLeaf(a0:Sol):Option Bool :=
 some ((a0.kids.length:Int)==0)
theorem Ti_Solid_isLeaf{Y}(a0:Sol)(q0:List AV)(r:Bool)(h:Di_Solid_isLeaf a0=some r):BT Y (.call 102 [.cptr ([bl a0.inn,iN a0.pl.A,iN a0.pl.B,iN a0.pl.C,iN a0.pl.D,.sl false 6 a0.kids.length ((eSol false).f a0.kids)]++q0)] (lk []) (bl r) (lk [])):=by
 unfold Di_Solid_isLeaf at h
 refine x_call (fn:=Tryz.f102) (c:=B102) (bs0:=[]) Tryz.func102 (by kernel_rfl) (by kernel_rfl) ?_
 obtain rfl:=sj h
 exact x_end 14 [] [] oN oN 
def Di_isCoef(a0:Int):Option Bool :=
 (Di_inRange a0 (-500) 500).bind fun v0=>some v0
theorem Ti_isCoef{Y}(a0:Int)(r:Bool)(h:Di_isCoef a0=some r):BT Y (.call 144 [iN a0] (lk []) (bl r) (lk [])):=by
 unfold Di_isCoef at h
 refine x_call (fn:=Tryz.f144) (c:=B144) (bs0:=[]) Tryz.func144 (by kernel_rfl) (by kernel_rfl) ?_
 obtain⟨v0,y0,h⟩:=bm h
 obtain rfl:=sj h
 exact x_end 10 [(2,.call [] [] (bl v0) [])] [] (oI (Ti_inRange (Y:=Y) a0 (-500) 500 _ y0)) oN 
def Di_divisor_0(_n:Nat)(rec0:(Int×Int)→Option Int)(_t6:List Int)(_t7 t8:Int)(rec1:(Int×Int)→Option Int)(a:(Int×Int)):Option Int :=
 match a with
 | (t3,t5)=>frk (t5 != 0) ((rm .i64 t3 t5).bind fun v1=>rec1 (t5,v1)) (rec0 (t3,w64 (t8+1)))
theorem Ti_divisor_0{Y}(n:Nat)(rec0:(Int×Int)→Option Int)(t6:List Int)(t7:Int)(hrec0:∀(a:(Int×Int)) (r:Int),rec0 a=some r→WT Y 145 [.code (cp [1,1,0,1,0] B145),.blk 0,.code (cp [1,1,1] B145)] (FT Tryz.f145 [] (iN r) []) ⟨[(3,iN a.1),(6,.sl false 1 t6.length ((eInt).f t6)),(7,iN t7),(8,iN a.2)],[]⟩)(t8:Int):∀(m:Nat) (a:(Int×Int)) (r:Int),loopN (Di_divisor_0 n rec0 t6 t7 t8) m a=some r→WT Y 145 [.code (cp [1,1,0,1,0,0,1,1,0,0,1,1,0] B145),.blk 2,.blk 1,.code (cp [1,1,0,1,0,0,1,1,1] B145),.lp (cp [1,1,0,1,0] B145),.blk 0,.code (cp [1,1,1] B145)] (FT Tryz.f145 [] (iN r) []) ⟨[(3,iN a.1),(5,iN a.2),(6,.sl false 1 t6.length ((eInt).f t6)),(7,iN t7),(8,iN t8)],[]⟩:=by
 refine loopN_ind (fun _rec1 hrec1 a r h=>?_)
 obtain⟨t3,t5⟩:=a
 unfold Di_divisor_0 at h
 refine x_frk 7 [] oN h (fun h=>?_) (fun h=>?_)
 ·obtain⟨v1,y1,h⟩:=bm h
  exact x_to 12 [(3,.val (iN v1))] (oI (rmOk y1)) (hrec1 (t5,v1) r h) 
 ·exact x_to 7 [] oN (hrec0 (t3,w64 (t8+1)) r h) 
def Di_divisor_1(n:Nat)(t6:List Int)(t7:Int)(rec0:(Int×Int)→Option Int)(a:(Int×Int)):Option Int :=
 match a with
 | (t3,t8)=>frk (decide (t8<t7)) ((lget t6 t8).bind fun v0=>loopN (Di_divisor_0 n rec0 t6 t7 t8) n (t3,maxN v0 [w64 (0-v0)])) (some t3)
theorem Ti_divisor_1{Y}(n:Nat)(t6:List Int)(t7:Int):∀(m:Nat) (a:(Int×Int)) (r:Int),loopN (Di_divisor_1 n t6 t7) m a=some r→WT Y 145 [.code (cp [1,1,0,1,0] B145),.blk 0,.code (cp [1,1,1] B145)] (FT Tryz.f145 [] (iN r) []) ⟨[(3,iN a.1),(6,.sl false 1 t6.length ((eInt).f t6)),(7,iN t7),(8,iN a.2)],[]⟩:=by
 refine loopN_ind (fun rec0 hrec0 a r h=>?_)
 obtain⟨t3,t8⟩:=a
 unfold Di_divisor_1 at h
 refine x_frk 6 [] oN h (fun h=>?_) (fun h=>?_)
 ·obtain⟨v0,y0,h⟩:=bm h
  exact x_to 18 [(0,.val (.cptr (eInt.c v0++(eInt).f ((t6).drop (Int.toNat t8+1))))),(5,.val (.lit (.int .i64 (maxN v0 [w64 (0-v0)]))))] (oC (ix eInt y0) (oI (maxNok .i64 [w64 (0-v0)] v0))) (Ti_divisor_0 n rec0 t6 t7 hrec0 t8 n (t3,maxN v0 [w64 (0-v0)]) r h) 
 ·obtain rfl:=sj h
  exact x_end 6 [] [] oN oN 
def Di_divisor(n:Nat)(a0:(List Int)):Option Int :=
 loopN (Di_divisor_1 n a0 (a0.length:Int)) n (0,0)
theorem Ti_divisor{Y}(n:Nat)(a0:(List Int))(r:Int)(h:Di_divisor n a0=some r):BT Y (.call 145 [.sl false 1 a0.length ((eInt).f a0)] (lk []) (iN r) (lk [])):=by
 unfold Di_divisor at h
 refine x_call (fn:=Tryz.f145) (c:=B145) (bs0:=[]) Tryz.func145 (by kernel_rfl) (by kernel_rfl) ?_
 exact x_to 16 [] oN (Ti_divisor_1 n a0 (a0.length:Int) n (0,0) r h) 
def Di_PlaneOk_0(n:Nat)(t24:Bool)(za zb zc zd:Int):Option Bool :=
 frk t24 (some false) (frk (za != 0) ((Di_divisor n [za,zb,zc,zd]).bind fun v4=>some (v4==1)) (frk (zb != 0) ((Di_divisor n [za,zb,zc,zd]).bind fun v5=>some (v5==1)) (frk (zc != 0) ((Di_divisor n [za,zb,zc,zd]).bind fun v6=>some (v6==1)) (some false))))
theorem Ti_PlaneOk_0{Y}(n:Nat)(t24:Bool)(za zb zc zd:Int)(r:Bool)(h:Di_PlaneOk_0 n t24 za zb zc zd=some r):WT Y 109 [.code (cp [1,0,1] B109),.code (cp [1,1] B109)] (FT Tryz.f109 [] (bl r) []) ⟨[(1,.ptr 1 0),(24,bl t24)],[(1,⟨true,0,[iN za,iN zb,iN zc,iN zd]⟩)]⟩:=by
 unfold Di_PlaneOk_0 at h
 refine x_frk 0 [] oN h (fun h=>?_) (fun h=>?_)
 ·obtain rfl:=sj h
  exact x_end 4 [] [] oN oN 
 ·refine x_frk 7 [] oN h (fun h=>?_) (fun h=>?_)
  ·obtain⟨v4,y4,h⟩:=bm h
   obtain rfl:=sj h
   exact x_end 24 [(19,.call [] [(eInt).f [za,zb,zc,zd]] (iN v4) [])] [] (oC (Ti_divisor (Y:=Y) n [za,zb,zc,zd] _ y4) (oC (len_row (L:=[za,zb,zc,zd]) eInt) (oI (Enc.share eInt eInt sInt [za,zb,zc,zd])))) oN 
  ·refine x_frk 5 [] oN h (fun h=>?_) (fun h=>?_)
   ·obtain⟨v5,y5,h⟩:=bm h
    obtain rfl:=sj h
    exact x_end 19 [(14,.call [] [(eInt).f [za,zb,zc,zd]] (iN v5) [])] [] (oC (Ti_divisor (Y:=Y) n [za,zb,zc,zd] _ y5) (oC (len_row (L:=[za,zb,zc,zd]) eInt) (oI (Enc.share eInt eInt sInt [za,zb,zc,zd])))) oN 
   ·refine x_frk 5 [] oN h (fun h=>?_) (fun h=>?_)
    ·obtain⟨v6,y6,h⟩:=bm h
     obtain rfl:=sj h
     exact x_end 14 [(9,.call [] [(eInt).f [za,zb,zc,zd]] (iN v6) [])] [] (oC (Ti_divisor (Y:=Y) n [za,zb,zc,zd] _ y6) (oC (len_row (L:=[za,zb,zc,zd]) eInt) (oI (Enc.share eInt eInt sInt [za,zb,zc,zd])))) oN 
    ·obtain rfl:=sj h
     exact x_end 14 [] [] oN oN 
def Di_PlaneOk(n:Nat)(a0:Pl):Option Bool :=
 (Di_isCoef a0.A).bind fun v0=>frk (!v0) (some false) ((Di_isCoef a0.B).bind fun v1=>frk (!v1) (some false) ((Di_isCoef a0.C).bind fun v2=>frk (!v2) (some false) ((Di_isCoef a0.D).bind fun v3=>Di_PlaneOk_0 n (!v3) a0.A a0.B a0.C a0.D)))
theorem Ti_PlaneOk{Y}(n:Nat)(a0:Pl)(r:Bool)(h:Di_PlaneOk n a0=some r):BT Y (.call 109 [.agg [iN a0.A,iN a0.B,iN a0.C,iN a0.D]] (lk []) (bl r) (lk [])):=by
 unfold Di_PlaneOk at h
 refine x_call (fn:=Tryz.f109) (c:=B109) (bs0:=[]) Tryz.func109 (by kernel_rfl) (by kernel_rfl) ?_
 obtain⟨v0,y0,h⟩:=bm h
 refine x_frk 13 [(4,.call [] [] (bl v0) [])] (oI (Ti_isCoef (Y:=Y) a0.A _ y0)) h (fun h=>?_) (fun h=>?_)
 ·obtain rfl:=sj h
  exact x_end 23 [] [] oN oN 
 ·obtain⟨v1,y1,h⟩:=bm h
  refine x_frk 6 [(2,.call [] [] (bl v1) [])] (oI (Ti_isCoef (Y:=Y) a0.B _ y1)) h (fun h=>?_) (fun h=>?_)
  ·obtain rfl:=sj h
   exact x_end 17 [] [] oN oN 
  ·obtain⟨v2,y2,h⟩:=bm h
   refine x_frk 6 [(2,.call [] [] (bl v2) [])] (oI (Ti_isCoef (Y:=Y) a0.C _ y2)) h (fun h=>?_) (fun h=>?_)
   ·obtain rfl:=sj h
    exact x_end 11 [] [] oN oN 
   ·obtain⟨v3,y3,h⟩:=bm h
    exact x_to 6 [(2,.call [] [] (bl v3) [])] (oI (Ti_isCoef (Y:=Y) a0.D _ y3)) (Ti_PlaneOk_0 n (!v3) a0.A a0.B a0.C a0.D r h) 
def Di_flip(a0:Pl):Option Pl :=
 some (Pl.mk (w64 (0-a0.A)) (w64 (0-a0.B)) (w64 (0-a0.C)) (w64 (0-a0.D)))
theorem Ti_flip{Y}(a0:Pl)(r:Pl)(h:Di_flip a0=some r):BT Y (.call 105 [.agg [iN a0.A,iN a0.B,iN a0.C,iN a0.D]] (lk []) (.agg [iN r.A,iN r.B,iN r.C,iN r.D]) (lk [])):=by
 unfold Di_flip at h
 refine x_call (fn:=Tryz.f105) (c:=B105) (bs0:=[]) Tryz.func105 (by kernel_rfl) (by kernel_rfl) ?_
 obtain rfl:=sj h
 exact x_end 22 [] [] oN oN 
def Di_normal(a0:Pl):Option (Int×Int×Int) :=
 some (a0.A,a0.B,a0.C)
theorem Ti_normal{Y}(a0:Pl)(r:(Int×Int×Int))(h:Di_normal a0=some r):BT Y (.call 170 [.agg [iN a0.A,iN a0.B,iN a0.C,iN a0.D]] (lk []) (.agg [iN r.1,iN r.2.1,iN r.2.2]) (lk [])):=by
 unfold Di_normal at h
 refine x_call (fn:=Tryz.f170) (c:=B170) (bs0:=[]) Tryz.func170 (by kernel_rfl) (by kernel_rfl) ?_
 obtain rfl:=sj h
 exact x_end 16 [] [] oN oN 
def Di_crossOf(a0:(Int×Int×Int))(a1:(Int×Int×Int)):Option (Int×Int×Int) :=
 some (w64 ((w64 (a0.2.1*a1.2.2))-(w64 (a0.2.2*a1.2.1))),w64 ((w64 (a0.2.2*a1.1))-(w64 (a0.1*a1.2.2))),w64 ((w64 (a0.1*a1.2.1))-(w64 (a0.2.1*a1.1))))
theorem Ti_crossOf{Y}(a0:(Int×Int×Int))(a1:(Int×Int×Int))(r:(Int×Int×Int))(h:Di_crossOf a0 a1=some r):BT Y (.call 172 [.agg [iN a0.1,iN a0.2.1,iN a0.2.2],.agg [iN a1.1,iN a1.2.1,iN a1.2.2]] (lk []) (.agg [iN r.1,iN r.2.1,iN r.2.2]) (lk [])):=by
 unfold Di_crossOf at h
 refine x_call (fn:=Tryz.f172) (c:=B172) (bs0:=[]) Tryz.func172 (by kernel_rfl) (by kernel_rfl) ?_
 obtain rfl:=sj h
 exact x_end 44 [] [] oN oN 
def Di_dot(a0:(Int×Int×Int))(a1:(Int×Int×Int)):Option Int :=
 some (w64 ((w64 ((w64 (a0.1*a1.1))+(w64 (a0.2.1*a1.2.1))))+(w64 (a0.2.2*a1.2.2))))
theorem Ti_dot{Y}(a0:(Int×Int×Int))(a1:(Int×Int×Int))(r:Int)(h:Di_dot a0 a1=some r):BT Y (.call 174 [.agg [iN a0.1,iN a0.2.1,iN a0.2.2],.agg [iN a1.1,iN a1.2.1,iN a1.2.2]] (lk []) (iN r) (lk [])):=by
 unfold Di_dot at h
 refine x_call (fn:=Tryz.f174) (c:=B174) (bs0:=[]) Tryz.func174 (by kernel_rfl) (by kernel_rfl) ?_
 obtain rfl:=sj h
 exact x_end 27 [] [] oN oN 
def Dcmp_isNaN(a0:Int):Option Bool :=
 some (a0 != a0)
theorem Tcmp_isNaN{Y}(a0:Int)(r:Bool)(h:Dcmp_isNaN a0=some r):BT Y (.call 188 [iN a0] (lk []) (bl r) (lk [])):=by
 unfold Dcmp_isNaN at h
 refine x_call (fn:=Tryz.f188) (c:=B188) (bs0:=[]) Tryz.func188 (by kernel_rfl) (by kernel_rfl) ?_
 obtain rfl:=sj h
 exact x_end 11 [] [] oN oN 
def Dcmp_Compare(a0 a1:Int):Option Int :=
 (Dcmp_isNaN a0).bind fun v0=>(Dcmp_isNaN a1).bind fun v1=>frk v0 (frk v1 (some 0) (some (-1))) (frk v1 (some 1) (frk (decide (a0<a1)) (some (-1)) (frk (decide (a0>a1)) (some 1) (some 0))))
theorem Tcmp_Compare{Y}(a0 a1 r:Int)(h:Dcmp_Compare a0 a1=some r):BT Y (.call 168 [iN a0,iN a1] (lk []) (iN r) (lk [])):=by
 unfold Dcmp_Compare at h
 refine x_call (fn:=Tryz.f168) (c:=B168) (bs0:=[]) Tryz.func168 (by kernel_rfl) (by kernel_rfl) ?_
 obtain⟨v0,y0,h⟩:=bm h
 obtain⟨v1,y1,h⟩:=bm h
 refine x_frk 21 [(2,.call [] [] (bl v0) []),(2,.call [] [] (bl v1) [])] (oC (Tcmp_isNaN (Y:=Y) a0 _ y0) (oI (Tcmp_isNaN (Y:=Y) a1 _ y1))) h (fun h=>?_) (fun h=>?_)
 ·refine x_frk 5 [] oN h (fun h=>?_) (fun h=>?_)
  ·obtain rfl:=sj h
   exact x_end 4 [] [] oN oN 
  ·obtain rfl:=sj h
   exact x_end 5 [] [] oN oN 
 ·refine x_frk 6 [] oN h (fun h=>?_) (fun h=>?_)
  ·obtain rfl:=sj h
   exact x_end 4 [] [] oN oN 
  ·refine x_frk 8 [] oN h (fun h=>?_) (fun h=>?_)
   ·obtain rfl:=sj h
    exact x_end 4 [] [] oN oN 
   ·refine x_frk 8 [] oN h (fun h=>?_) (fun h=>?_)
    ·obtain rfl:=sj h
     exact x_end 4 [] [] oN oN 
    ·obtain rfl:=sj h
     exact x_end 5 [] [] oN oN 
def Di_sign(a0:Int):Option Int :=
 (Dcmp_Compare a0 0).bind fun v0=>some v0
theorem Ti_sign{Y}(a0 r:Int)(h:Di_sign a0=some r):BT Y (.call 155 [iN a0] (lk []) (iN r) (lk [])):=by
 unfold Di_sign at h
 refine x_call (fn:=Tryz.f155) (c:=B155) (bs0:=[]) Tryz.func155 (by kernel_rfl) (by kernel_rfl) ?_
 obtain⟨v0,y0,h⟩:=bm h
 obtain rfl:=sj h
 exact x_end 10 [(2,.call [] [] (iN v0) [])] [] (oI (Tcmp_Compare (Y:=Y) a0 0 _ y0)) oN 
def Di_parallel(a0:Pl)(a1:Pl):Option Int :=
 (Di_normal a0).bind fun v0=>(Di_normal a1).bind fun v1=>(Di_crossOf v0 v1).bind fun v2=>frk (!(v2.1==0&&(v2.2.1==0&&(v2.2.2==0&&true)))) (some 0) ((Di_normal a0).bind fun v3=>(Di_normal a1).bind fun v4=>(Di_dot v3 v4).bind fun v5=>(Di_sign v5).bind fun v6=>some v6)
theorem Ti_parallel{Y}(a0:Pl)(a1:Pl)(r:Int)(h:Di_parallel a0 a1=some r):BT Y (.call 169 [.agg [iN a0.A,iN a0.B,iN a0.C,iN a0.D],.agg [iN a1.A,iN a1.B,iN a1.C,iN a1.D]] (lk []) (iN r) (lk [])):=by
 unfold Di_parallel at h
 refine x_call (fn:=Tryz.f169) (c:=B169) (bs0:=[]) Tryz.func169 (by kernel_rfl) (by kernel_rfl) ?_
 obtain⟨v0,y0,h⟩:=bm h
 obtain⟨v1,y1,h⟩:=bm h
 obtain⟨v2,y2,h⟩:=bm h
 refine x_frk 17 [(4,.call [] [] (.agg [iN v0.1,iN v0.2.1,iN v0.2.2]) []),(1,.call [] [] (.agg [iN v1.1,iN v1.2.1,iN v1.2.2]) []),(0,.call [] [] (.agg [iN v2.1,iN v2.2.1,iN v2.2.2]) [])] (oC (Ti_normal (Y:=Y) a0 _ y0) (oC (Ti_normal (Y:=Y) a1 _ y1) (oI (Ti_crossOf (Y:=Y) v0 v1 _ y2)))) h (fun h=>?_) (fun h=>?_)
 ·obtain rfl:=sj h
  exact x_end 4 [] [] oN oN 
 ·obtain⟨v3,y3,h⟩:=bm h
  obtain⟨v4,y4,h⟩:=bm h
  obtain⟨v5,y5,h⟩:=bm h
  obtain⟨v6,y6,h⟩:=bm h
  obtain rfl:=sj h
  exact x_end 11 [(1,.call [] [] (.agg [iN v3.1,iN v3.2.1,iN v3.2.2]) []),(1,.call [] [] (.agg [iN v4.1,iN v4.2.1,iN v4.2.2]) []),(0,.call [] [] (iN v5) []),(0,.call [] [] (iN v6) [])] [] (oC (Ti_normal (Y:=Y) a0 _ y3) (oC (Ti_normal (Y:=Y) a1 _ y4) (oC (Ti_dot (Y:=Y) v3 v4 _ y5) (oI (Ti_sign (Y:=Y) v5 _ y6))))) oN 
def Di_clash2(_n:Nat)(a0:Pl)(a1:Pl):Option Bool :=
 (Di_parallel a0 a1).bind fun v0=>frk (decide (v0≥0)) (some false) ((Di_normal a0).bind fun v1=>(Di_normal a1).bind fun v2=>frk (v1.1 != 0) (some (decide ((w64 ((w64 (a0.D*(maxN v2.1 [w64 (0-v2.1)])))+(w64 (a1.D*(maxN v1.1 [w64 (0-v1.1)])))))≤0))) (frk (v1.2.1 != 0) (some (decide ((w64 ((w64 (a0.D*(maxN v2.2.1 [w64 (0-v2.2.1)])))+(w64 (a1.D*(maxN v1.2.1 [w64 (0-v1.2.1)])))))≤0))) (frk (v1.2.2 != 0) (some (decide ((w64 ((w64 (a0.D*(maxN v2.2.2 [w64 (0-v2.2.2)])))+(w64 (a1.D*(maxN v1.2.2 [w64 (0-v1.2.2)])))))≤0))) (some false))))
theorem Ti_clash2{Y}(n:Nat)(a0:Pl)(a1:Pl)(r:Bool)(h:Di_clash2 n a0 a1=some r):BT Y (.call 146 [.agg [iN a0.A,iN a0.B,iN a0.C,iN a0.D],.agg [iN a1.A,iN a1.B,iN a1.C,iN a1.D]] (lk []) (bl r) (lk [])):=by
 unfold Di_clash2 at h
 refine x_call (fn:=Tryz.f146) (c:=B146) (bs0:=[]) Tryz.func146 (by kernel_rfl) (by kernel_rfl) ?_
 obtain⟨v0,y0,h⟩:=bm h
 refine x_frk 14 [(5,.call [] [] (iN v0) [])] (oI (Ti_parallel (Y:=Y) a0 a1 _ y0)) h (fun h=>?_) (fun h=>?_)
 ·obtain rfl:=sj h
  exact x_end 4 [] [] oN oN 
 ·obtain⟨v1,y1,h⟩:=bm h
  obtain⟨v2,y2,h⟩:=bm h
  refine x_frk 40 [(1,.call [] [] (.agg [iN v1.1,iN v1.2.1,iN v1.2.2]) []),(1,.call [] [] (.agg [iN v2.1,iN v2.2.1,iN v2.2.2]) [])] (oC (Ti_normal (Y:=Y) a0 _ y1) (oI (Ti_normal (Y:=Y) a1 _ y2))) h (fun h=>?_) (fun h=>?_)
  ·obtain rfl:=sj h
   exact x_end 28 [(9,.val (.lit (.int .i64 (maxN v2.1 [w64 (0-v2.1)])))),(10,.val (.lit (.int .i64 (maxN v1.1 [w64 (0-v1.1)]))))] [] (oC (maxNok .i64 [w64 (0-v2.1)] v2.1) (oI (maxNok .i64 [w64 (0-v1.1)] v1.1))) oN 
  ·refine x_frk 29 [] oN h (fun h=>?_) (fun h=>?_)
   ·obtain rfl:=sj h
    exact x_end 28 [(9,.val (.lit (.int .i64 (maxN v2.2.1 [w64 (0-v2.2.1)])))),(10,.val (.lit (.int .i64 (maxN v1.2.1 [w64 (0-v1.2.1)]))))] [] (oC (maxNok .i64 [w64 (0-v2.2.1)] v2.2.1) (oI (maxNok .i64 [w64 (0-v1.2.1)] v1.2.1))) oN 
   ·refine x_frk 29 [] oN h (fun h=>?_) (fun h=>?_)
    ·obtain rfl:=sj h
     exact x_end 28 [(9,.val (.lit (.int .i64 (maxN v2.2.2 [w64 (0-v2.2.2)])))),(10,.val (.lit (.int .i64 (maxN v1.2.2 [w64 (0-v1.2.2)]))))] [] (oC (maxNok .i64 [w64 (0-v2.2.2)] v2.2.2) (oI (maxNok .i64 [w64 (0-v1.2.2)] v1.2.2))) oN 
    ·obtain rfl:=sj h
     exact x_end 19 [] [] oN oN 
def Di_det(a0:(Int×Int×Int))(a1:(Int×Int×Int))(a2:(Int×Int×Int)):Option Int :=
 (Di_crossOf a1 a2).bind fun v0=>(Di_dot a0 v0).bind fun v1=>some v1
theorem Ti_det{Y}(a0:(Int×Int×Int))(a1:(Int×Int×Int))(a2:(Int×Int×Int))(r:Int)(h:Di_det a0 a1 a2=some r):BT Y (.call 171 [.agg [iN a0.1,iN a0.2.1,iN a0.2.2],.agg [iN a1.1,iN a1.2.1,iN a1.2.2],.agg [iN a2.1,iN a2.2.1,iN a2.2.2]] (lk []) (iN r) (lk [])):=by
 unfold Di_det at h
 refine x_call (fn:=Tryz.f171) (c:=B171) (bs0:=[]) Tryz.func171 (by kernel_rfl) (by kernel_rfl) ?_
 obtain⟨v0,y0,h⟩:=bm h
 obtain⟨v1,y1,h⟩:=bm h
 obtain rfl:=sj h
 exact x_end 16 [(7,.call [] [] (.agg [iN v0.1,iN v0.2.1,iN v0.2.2]) []),(0,.call [] [] (iN v1) [])] [] (oC (Ti_crossOf (Y:=Y) a1 a2 _ y0) (oI (Ti_dot (Y:=Y) a0 v0 _ y1))) oN 
def Di_weighs_0(_n:Nat)(rec0:(Int×Int)→Option Bool)(t1:List Int)(_t5:Int)(_t13:List Int)(_t14 t6 t7 t8 t15:Int)(t27:Bool):Option Bool :=
 frk t27 (some false) ((lget t1 t7).bind fun v4=>rec0 (w64 (t6+(w64 (t8*v4))),w64 (t15+1)))
theorem Ti_weighs_0{Y}(n:Nat)(rec0:(Int×Int)→Option Bool)(t1:List Int)(t5:Int)(t13:List Int)(t14:Int)(hrec0:∀(a:(Int×Int)) (r:Bool),rec0 a=some r→WT Y 173 [.code (cp [1,1,1,0,1,0] B173),.blk 0,.code (cp [1,1,1,1] B173)] (FT Tryz.f173 [] (bl r) []) ⟨[(1,.sl false 1 t1.length ((eInt).f t1)),(5,iN t5),(6,iN a.1),(13,.sl false 1 t13.length ((eInt).f t13)),(14,iN t14),(15,iN a.2)],[]⟩)(t6 t7 t8 t15:Int)(t27 r:Bool)(h:Di_weighs_0 n rec0 t1 t5 t13 t14 t6 t7 t8 t15 t27=some r):WT Y 173 [.code (cp [1,1,1,0,1,0,0,1,1,0,0,1,0,1] B173),.code (cp [1,1,1,0,1,0,0,1,1,0,0,1,1] B173),.blk 1,.code (cp [1,1,1,0,1,0,0,1,1,1] B173),.lp (cp [1,1,1,0,1,0] B173),.blk 0,.code (cp [1,1,1,1] B173)] (FT Tryz.f173 [] (bl r) []) ⟨[(1,.sl false 1 t1.length ((eInt).f t1)),(5,iN t5),(6,iN t6),(7,iN t7),(8,iN t8),(13,.sl false 1 t13.length ((eInt).f t13)),(14,iN t14),(15,iN t15),(27,bl t27)],[]⟩:=by
 unfold Di_weighs_0 at h
 refine x_frk 0 [] oN h (fun h=>?_) (fun h=>?_)
 ·obtain rfl:=sj h
  exact x_end 4 [] [] oN oN 
 ·obtain⟨v4,y4,h⟩:=bm h
  exact x_to 18 [(4,.val (.cptr (eInt.c v4++(eInt).f ((t1).drop (Int.toNat t7+1)))))] (oI (ix eInt y4)) (hrec0 (w64 (t6+(w64 (t8*v4))),w64 (t15+1)) r h) 
def Di_weighs_1(n:Nat)(t1:List Int)(t5:Int)(t13:List Int)(t14:Int)(rec0:(Int×Int)→Option Bool)(a:(Int×Int)):Option Bool :=
 match a with
 | (t6,t15)=>frk (decide (t15<t14)) ((lget t13 t15).bind fun v2=>frk (t5==0) (some false) ((Di_sign v2).bind fun v3=>Di_weighs_0 n rec0 t1 t5 t13 t14 t6 t15 v2 t15 (v3 != t5))) (some (decide ((w64 (t6*t5))≤0)))
theorem Ti_weighs_1{Y}(n:Nat)(t1:List Int)(t5:Int)(t13:List Int)(t14:Int):∀(m:Nat) (a:(Int×Int)) (r:Bool),loopN (Di_weighs_1 n t1 t5 t13 t14) m a=some r→WT Y 173 [.code (cp [1,1,1,0,1,0] B173),.blk 0,.code (cp [1,1,1,1] B173)] (FT Tryz.f173 [] (bl r) []) ⟨[(1,.sl false 1 t1.length ((eInt).f t1)),(5,iN t5),(6,iN a.1),(13,.sl false 1 t13.length ((eInt).f t13)),(14,iN t14),(15,iN a.2)],[]⟩:=by
 refine loopN_ind (fun rec0 hrec0 a r h=>?_)
 obtain⟨t6,t15⟩:=a
 unfold Di_weighs_1 at h
 refine x_frk 6 [] oN h (fun h=>?_) (fun h=>?_)
 ·obtain⟨v2,y2,h⟩:=bm h
  refine x_frk 17 [(1,.val (.cptr (eInt.c v2++(eInt).f ((t13).drop (Int.toNat t15+1)))))] (oI (ix eInt y2)) h (fun h=>?_) (fun h=>?_)
  ·obtain rfl:=sj h
   exact x_end 11 [] [] oN oN 
  ·obtain⟨v3,y3,h⟩:=bm h
   exact x_to 6 [(1,.call [] [] (iN v3) [])] (oI (Ti_sign (Y:=Y) v2 _ y3)) (Ti_weighs_0 n rec0 t1 t5 t13 t14 hrec0 t6 t15 v2 t15 (v3 != t5) r h) 
 ·obtain rfl:=sj h
  exact x_end 9 [] [] oN oN 
def Di_weighs(n:Nat)(a0:(List Int))(a1:(List Int)):Option Bool :=
 (lget a0 0).bind fun v0=>(Di_sign v0).bind fun v1=>loopN (Di_weighs_1 n a1 v1 a0 (a0.length:Int)) n (0,0)
theorem Ti_weighs{Y}(n:Nat)(a0:(List Int))(a1:(List Int))(r:Bool)(h:Di_weighs n a0 a1=some r):BT Y (.call 173 [.sl false 1 a0.length ((eInt).f a0),.sl false 1 a1.length ((eInt).f a1)] (lk []) (bl r) (lk [])):=by
 unfold Di_weighs at h
 refine x_call (fn:=Tryz.f173) (c:=B173) (bs0:=[]) Tryz.func173 (by kernel_rfl) (by kernel_rfl) ?_
 obtain⟨v0,y0,h⟩:=bm h
 obtain⟨v1,y1,h⟩:=bm h
 exact x_to 24 [(2,.val (.cptr (eInt.c v0++(eInt).f ((a0).drop (Int.toNat 0+1))))),(1,.call [] [] (iN v1) [])] (oC (ix eInt y0) (oI (Ti_sign (Y:=Y) v0 _ y1))) (Ti_weighs_1 n a1 v1 a0 (a0.length:Int) n (0,0) r h) 
def Di_clash3(n:Nat)(a0:Pl)(a1:Pl)(a2:Pl):Option Bool :=
 (Di_normal a0).bind fun v0=>(Di_normal a1).bind fun v1=>(Di_normal a2).bind fun v2=>(Di_det v0 v1 v2).bind fun v3=>frk (v3 != 0) (some false) ((Di_crossOf v0 v1).bind fun v4=>(Di_crossOf v1 v2).bind fun v5=>(Di_dot v5 v4).bind fun v6=>(Di_crossOf v2 v0).bind fun v7=>(Di_dot v7 v4).bind fun v8=>(Di_dot v4 v4).bind fun v9=>(Di_weighs n [v6,v8,v9] [a0.D,a1.D,a2.D]).bind fun v10=>some v10)
theorem Ti_clash3{Y}(n:Nat)(a0:Pl)(a1:Pl)(a2:Pl)(r:Bool)(h:Di_clash3 n a0 a1 a2=some r):BT Y (.call 147 [.agg [iN a0.A,iN a0.B,iN a0.C,iN a0.D],.agg [iN a1.A,iN a1.B,iN a1.C,iN a1.D],.agg [iN a2.A,iN a2.B,iN a2.C,iN a2.D]] (lk []) (bl r) (lk [])):=by
 unfold Di_clash3 at h
 refine x_call (fn:=Tryz.f147) (c:=B147) (bs0:=[]) Tryz.func147 (by kernel_rfl) (by kernel_rfl) ?_
 obtain⟨v0,y0,h⟩:=bm h
 obtain⟨v1,y1,h⟩:=bm h
 obtain⟨v2,y2,h⟩:=bm h
 obtain⟨v3,y3,h⟩:=bm h
 refine x_frk 31 [(5,.call [] [] (.agg [iN v0.1,iN v0.2.1,iN v0.2.2]) []),(1,.call [] [] (.agg [iN v1.1,iN v1.2.1,iN v1.2.2]) []),(1,.call [] [] (.agg [iN v2.1,iN v2.2.1,iN v2.2.2]) []),(9,.call [] [] (iN v3) [])] (oC (Ti_normal (Y:=Y) a0 _ y0) (oC (Ti_normal (Y:=Y) a1 _ y1) (oC (Ti_normal (Y:=Y) a2 _ y2) (oI (Ti_det (Y:=Y) v0 v1 v2 _ y3))))) h (fun h=>?_) (fun h=>?_)
 ·obtain rfl:=sj h
  exact x_end 4 [] [] oN oN 
 ·obtain⟨v4,y4,h⟩:=bm h
  obtain⟨v5,y5,h⟩:=bm h
  obtain⟨v6,y6,h⟩:=bm h
  obtain⟨v7,y7,h⟩:=bm h
  obtain⟨v8,y8,h⟩:=bm h
  obtain⟨v9,y9,h⟩:=bm h
  obtain⟨v10,y10,h⟩:=bm h
  obtain rfl:=sj h
  exact x_end 35 [(2,.call [] [] (.agg [iN v4.1,iN v4.2.1,iN v4.2.2]) []),(4,.call [] [] (.agg [iN v5.1,iN v5.2.1,iN v5.2.2]) []),(1,.call [] [] (iN v6) []),(2,.call [] [] (.agg [iN v7.1,iN v7.2.1,iN v7.2.2]) []),(1,.call [] [] (iN v8) []),(2,.call [] [] (iN v9) []),(8,.call [] [(eInt).f [a0.D,a1.D,a2.D],(eInt).f [v6,v8,v9]] (bl v10) [])] [] (oC (Ti_crossOf (Y:=Y) v0 v1 _ y4) (oC (Ti_crossOf (Y:=Y) v1 v2 _ y5) (oC (Ti_dot (Y:=Y) v5 v4 _ y6) (oC (Ti_crossOf (Y:=Y) v2 v0 _ y7) (oC (Ti_dot (Y:=Y) v7 v4 _ y8) (oC (Ti_dot (Y:=Y) v4 v4 _ y9) (oC (Ti_weighs (Y:=Y) n [v6,v8,v9] [a0.D,a1.D,a2.D] _ y10) (oC (len_row (L:=[v6,v8,v9]) eInt) (oC (Enc.share eInt eInt sInt [v6,v8,v9]) (oC (len_row (L:=[a0.D,a1.D,a2.D]) eInt) (oI (Enc.share eInt eInt sInt [a0.D,a1.D,a2.D])))))))))))) oN 
def Di_det3(a0:Pl)(a1:Pl)(a2:Pl):Option Int :=
 (Di_normal a0).bind fun v0=>(Di_normal a1).bind fun v1=>(Di_normal a2).bind fun v2=>(Di_det v0 v1 v2).bind fun v3=>some v3
theorem Ti_det3{Y}(a0:Pl)(a1:Pl)(a2:Pl)(r:Int)(h:Di_det3 a0 a1 a2=some r):BT Y (.call 175 [.agg [iN a0.A,iN a0.B,iN a0.C,iN a0.D],.agg [iN a1.A,iN a1.B,iN a1.C,iN a1.D],.agg [iN a2.A,iN a2.B,iN a2.C,iN a2.D]] (lk []) (iN r) (lk [])):=by
 unfold Di_det3 at h
 refine x_call (fn:=Tryz.f175) (c:=B175) (bs0:=[]) Tryz.func175 (by kernel_rfl) (by kernel_rfl) ?_
 obtain⟨v0,y0,h⟩:=bm h
 obtain⟨v1,y1,h⟩:=bm h
 obtain⟨v2,y2,h⟩:=bm h
 obtain⟨v3,y3,h⟩:=bm h
 obtain rfl:=sj h
 exact x_end 18 [(5,.call [] [] (.agg [iN v0.1,iN v0.2.1,iN v0.2.2]) []),(1,.call [] [] (.agg [iN v1.1,iN v1.2.1,iN v1.2.2]) []),(1,.call [] [] (.agg [iN v2.1,iN v2.2.1,iN v2.2.2]) []),(0,.call [] [] (iN v3) [])] [] (oC (Ti_normal (Y:=Y) a0 _ y0) (oC (Ti_normal (Y:=Y) a1 _ y1) (oC (Ti_normal (Y:=Y) a2 _ y2) (oI (Ti_det (Y:=Y) v0 v1 v2 _ y3))))) oN 
def Di_clash4(n:Nat)(a0:Pl)(a1:Pl)(a2:Pl)(a3:Pl):Option Bool :=
 (Di_det3 a1 a2 a3).bind fun v0=>(Di_det3 a0 a2 a3).bind fun v1=>(Di_det3 a0 a1 a3).bind fun v2=>(Di_det3 a0 a1 a2).bind fun v3=>(Di_weighs n [v0,w64 (0-v1),v2,w64 (0-v3)] [a0.D,a1.D,a2.D,a3.D]).bind fun v4=>some v4
theorem Ti_clash4{Y}(n:Nat)(a0:Pl)(a1:Pl)(a2:Pl)(a3:Pl)(r:Bool)(h:Di_clash4 n a0 a1 a2 a3=some r):BT Y (.call 148 [.agg [iN a0.A,iN a0.B,iN a0.C,iN a0.D],.agg [iN a1.A,iN a1.B,iN a1.C,iN a1.D],.agg [iN a2.A,iN a2.B,iN a2.C,iN a2.D],.agg [iN a3.A,iN a3.B,iN a3.C,iN a3.D]] (lk []) (bl r) (lk [])):=by
 unfold Di_clash4 at h
 refine x_call (fn:=Tryz.f148) (c:=B148) (bs0:=[]) Tryz.func148 (by kernel_rfl) (by kernel_rfl) ?_
 obtain⟨v0,y0,h⟩:=bm h
 obtain⟨v1,y1,h⟩:=bm h
 obtain⟨v2,y2,h⟩:=bm h
 obtain⟨v3,y3,h⟩:=bm h
 obtain⟨v4,y4,h⟩:=bm h
 obtain rfl:=sj h
 exact x_end 46 [(8,.call [] [] (iN v0) []),(3,.call [] [] (iN v1) []),(4,.call [] [] (iN v2) []),(3,.call [] [] (iN v3) []),(13,.call [] [(eInt).f [a0.D,a1.D,a2.D,a3.D],(eInt).f [v0,w64 (0-v1),v2,w64 (0-v3)]] (bl v4) [])] [] (oC (Ti_det3 (Y:=Y) a1 a2 a3 _ y0) (oC (Ti_det3 (Y:=Y) a0 a2 a3 _ y1) (oC (Ti_det3 (Y:=Y) a0 a1 a3 _ y2) (oC (Ti_det3 (Y:=Y) a0 a1 a2 _ y3) (oC (Ti_weighs (Y:=Y) n [v0,w64 (0-v1),v2,w64 (0-v3)] [a0.D,a1.D,a2.D,a3.D] _ y4) (oC (len_row (L:=[v0,w64 (0-v1),v2,w64 (0-v3)]) eInt) (oC (Enc.share eInt eInt sInt [v0,w64 (0-v1),v2,w64 (0-v3)]) (oC (len_row (L:=[a0.D,a1.D,a2.D,a3.D]) eInt) (oI (Enc.share eInt eInt sInt [a0.D,a1.D,a2.D,a3.D])))))))))) oN 
def Di_room_0(n:Nat)(rec1:Int→Option Bool)(_rec0:Int→Option Bool)(_t13:Int)(_t23:List Pl)(_t24 zam zan zao zap:Int)(_t0:List Pl)(_t11:List Pl)(_t12 zl zm zn zo t25:Int)(t36:List Pl)(t37 zac zad zae zar:Int)(rec2:Int→Option Bool)(a:Int):Option Bool :=
 match a with
 | t38=>frk (decide (t38<t37)) ((lget t36 t38).bind fun v6=>(Di_clash4 n v6 (Pl.mk zac zad zae zar) (Pl.mk zam zan zao zap) (Pl.mk zl zm zn zo)).bind fun v7=>frk v7 (some false) (rec2 (w64 (t38+1)))) (rec1 (w64 (t25+1)))
theorem Ti_room_0{Y}(n:Nat)(rec1:Int→Option Bool)(rec0:Int→Option Bool)(t13:Int)(t23:List Pl)(t24 zam zan zao zap:Int)(t0:List Pl)(t11:List Pl)(t12 zl zm zn zo:Int)(hrec1:∀(a:Int) (r:Bool),rec1 a=some r→WT Y 110 [.code (cp [1,0,1,0,0,1,1,0,0,1,1,1,0] B110),.blk 2,.blk 1,.code (cp [1,0,1,0,0,1,1,1] B110),.lp (cp [1,0,1,0] B110),.blk 0,.code (cp [1,1] B110)] (FT Tryz.f110 [] (bl r) []) ⟨[(0,.sl false 4 t0.length ((ePl).f t0)),(3,.ptr 3 0),(6,.ptr 6 0),(11,.sl false 4 t11.length ((ePl).f t11)),(12,iN t12),(13,iN t13),(23,.sl false 4 t23.length ((ePl).f t23)),(24,iN t24),(25,iN a)],[(3,⟨true,0,[iN zl,iN zm,iN zn,iN zo]⟩),(6,⟨true,0,[iN zam,iN zan,iN zao,iN zap]⟩)]⟩)(_hrec0:∀(a:Int) (r:Bool),rec0 a=some r→WT Y 110 [.code (cp [1,0,1,0] B110),.blk 0,.code (cp [1,1] B110)] (FT Tryz.f110 [] (bl r) []) ⟨[(0,.sl false 4 t0.length ((ePl).f t0)),(3,.ptr 3 0),(11,.sl false 4 t11.length ((ePl).f t11)),(12,iN t12),(13,iN a)],[(3,⟨true,0,[iN zl,iN zm,iN zn,iN zo]⟩)]⟩)(t25:Int)(t36:List Pl)(t37 zac zad zae zar:Int):∀(m:Nat) (a:Int) (r:Bool),loopN (Di_room_0 n rec1 rec0 t13 t23 t24 zam zan zao zap t0 t11 t12 zl zm zn zo t25 t36 t37 zac zad zae zar) m a=some r→WT Y 110 [.code (cp [1,0,1,0,0,1,1,0,0,1,1,1,0,0,1,1,0,0,1,1,1,0] B110),.blk 4,.blk 3,.code (cp [1,0,1,0,0,1,1,0,0,1,1,1,0,0,1,1,1] B110),.lp (cp [1,0,1,0,0,1,1,0,0,1,1,1,0] B110),.blk 2,.blk 1,.code (cp [1,0,1,0,0,1,1,1] B110),.lp (cp [1,0,1,0] B110),.blk 0,.code (cp [1,1] B110)] (FT Tryz.f110 [] (bl r) []) ⟨[(0,.sl false 4 t0.length ((ePl).f t0)),(3,.ptr 3 0),(6,.ptr 6 0),(8,.ptr 8 0),(11,.sl false 4 t11.length ((ePl).f t11)),(12,iN t12),(13,iN t13),(23,.sl false 4 t23.length ((ePl).f t23)),(24,iN t24),(25,iN t25),(36,.sl false 4 t36.length ((ePl).f t36)),(37,iN t37),(38,iN a)],[(3,⟨true,0,[iN zl,iN zm,iN zn,iN zo]⟩),(6,⟨true,0,[iN zam,iN zan,iN zao,iN zap]⟩),(8,⟨true,0,[iN zac,iN zad,iN zae,iN zar]⟩)]⟩:=by
 refine loopN_ind (fun _rec2 hrec2 a r h=>?_)
 obtain⟨t38,rfl⟩:∃x,x=a:=⟨a,rfl⟩
 unfold Di_room_0 at h
 refine x_frk 6 [] oN h (fun h=>?_) (fun h=>?_)
 ·obtain⟨v6,y6,h⟩:=bm h
  obtain⟨v7,y7,h⟩:=bm h
  refine x_frk 18 [(0,.val (.cptr (ePl.c v6++(ePl).f ((t36).drop (Int.toNat t38+1))))),(7,.call [] [] (bl v7) [])] (oC (ix ePl y6) (oI (Ti_clash4 (Y:=Y) n v6 (Pl.mk zac zad zae zar) (Pl.mk zam zan zao zap) (Pl.mk zl zm zn zo) _ y7))) h (fun h=>?_) (fun h=>?_)
  ·obtain rfl:=sj h
   exact x_end 4 [] [] oN oN 
  ·exact x_to 7 [] oN (hrec2 (w64 (t38+1)) r h) 
 ·exact x_to 7 [] oN (hrec1 (w64 (t25+1)) r h) 
def Di_room_1(n:Nat)(rec0:Int→Option Bool)(t0:List Pl)(t11:List Pl)(t12 zl zm zn zo t13:Int)(t23:List Pl)(t24 zam zan zao zap:Int)(rec1:Int→Option Bool)(a:Int):Option Bool :=
 match a with
 | t25=>frk (decide (t25<t24)) ((lget t23 t25).bind fun v3=>(Di_clash3 n v3 (Pl.mk zam zan zao zap) (Pl.mk zl zm zn zo)).bind fun v4=>frk v4 (some false) ((lsl t0 0 t25).bind fun v5=>loopN (Di_room_0 n rec1 rec0 t13 t23 t24 zam zan zao zap t0 t11 t12 zl zm zn zo t25 v5 (v5.length:Int) v3.A v3.B v3.C v3.D) n 0)) (rec0 (w64 (t13+1)))
theorem Ti_room_1{Y}(n:Nat)(rec0:Int→Option Bool)(t0:List Pl)(t11:List Pl)(t12 zl zm zn zo:Int)(hrec0:∀(a:Int) (r:Bool),rec0 a=some r→WT Y 110 [.code (cp [1,0,1,0] B110),.blk 0,.code (cp [1,1] B110)] (FT Tryz.f110 [] (bl r) []) ⟨[(0,.sl false 4 t0.length ((ePl).f t0)),(3,.ptr 3 0),(11,.sl false 4 t11.length ((ePl).f t11)),(12,iN t12),(13,iN a)],[(3,⟨true,0,[iN zl,iN zm,iN zn,iN zo]⟩)]⟩)(t13:Int)(t23:List Pl)(t24 zam zan zao zap:Int):∀(m:Nat) (a:Int) (r:Bool),loopN (Di_room_1 n rec0 t0 t11 t12 zl zm zn zo t13 t23 t24 zam zan zao zap) m a=some r→WT Y 110 [.code (cp [1,0,1,0,0,1,1,0,0,1,1,1,0] B110),.blk 2,.blk 1,.code (cp [1,0,1,0,0,1,1,1] B110),.lp (cp [1,0,1,0] B110),.blk 0,.code (cp [1,1] B110)] (FT Tryz.f110 [] (bl r) []) ⟨[(0,.sl false 4 t0.length ((ePl).f t0)),(3,.ptr 3 0),(6,.ptr 6 0),(11,.sl false 4 t11.length ((ePl).f t11)),(12,iN t12),(13,iN t13),(23,.sl false 4 t23.length ((ePl).f t23)),(24,iN t24),(25,iN a)],[(3,⟨true,0,[iN zl,iN zm,iN zn,iN zo]⟩),(6,⟨true,0,[iN zam,iN zan,iN zao,iN zap]⟩)]⟩:=by
 refine loopN_ind (fun rec1 hrec1 a r h=>?_)
 obtain⟨t25,rfl⟩:∃x,x=a:=⟨a,rfl⟩
 unfold Di_room_1 at h
 refine x_frk 6 [] oN h (fun h=>?_) (fun h=>?_)
 ·obtain⟨v3,y3,h⟩:=bm h
  obtain⟨v4,y4,h⟩:=bm h
  refine x_frk 20 [(1,.val (.cptr (ePl.c v3++(ePl).f ((t23).drop (Int.toNat t25+1))))),(7,.call [] [] (bl v4) [])] (oC (ix ePl y3) (oI (Ti_clash3 (Y:=Y) n v3 (Pl.mk zam zan zao zap) (Pl.mk zl zm zn zo) _ y4))) h (fun h=>?_) (fun h=>?_)
  ·obtain rfl:=sj h
   exact x_end 4 [] [] oN oN 
  ·obtain⟨v5,y5,h⟩:=bm h
   exact x_to 10 [(2,.val (.sl false 4 v5.length ((ePl).f v5)))] (oI (slF ePl y5)) (Ti_room_0 n rec1 rec0 t13 t23 t24 zam zan zao zap t0 t11 t12 zl zm zn zo hrec1 hrec0 t25 v5 (v5.length:Int) v3.A v3.B v3.C v3.D n 0 r h) 
 ·exact x_to 7 [] oN (hrec0 (w64 (t13+1)) r h) 
def Di_room_2(n:Nat)(t0:List Pl)(t11:List Pl)(t12 zl zm zn zo:Int)(rec0:Int→Option Bool)(a:Int):Option Bool :=
 match a with
 | t13=>frk (decide (t13<t12)) ((lget t11 t13).bind fun v0=>(Di_clash2 n v0 (Pl.mk zl zm zn zo)).bind fun v1=>frk v1 (some false) ((lsl t0 0 t13).bind fun v2=>loopN (Di_room_1 n rec0 t0 t11 t12 zl zm zn zo t13 v2 (v2.length:Int) v0.A v0.B v0.C v0.D) n 0)) (some true)
theorem Ti_room_2{Y}(n:Nat)(t0:List Pl)(t11:List Pl)(t12 zl zm zn zo:Int):∀(m:Nat) (a:Int) (r:Bool),loopN (Di_room_2 n t0 t11 t12 zl zm zn zo) m a=some r→WT Y 110 [.code (cp [1,0,1,0] B110),.blk 0,.code (cp [1,1] B110)] (FT Tryz.f110 [] (bl r) []) ⟨[(0,.sl false 4 t0.length ((ePl).f t0)),(3,.ptr 3 0),(11,.sl false 4 t11.length ((ePl).f t11)),(12,iN t12),(13,iN a)],[(3,⟨true,0,[iN zl,iN zm,iN zn,iN zo]⟩)]⟩:=by
 refine loopN_ind (fun rec0 hrec0 a r h=>?_)
 obtain⟨t13,rfl⟩:∃x,x=a:=⟨a,rfl⟩
 unfold Di_room_2 at h
 refine x_frk 6 [] oN h (fun h=>?_) (fun h=>?_)
 ·obtain⟨v0,y0,h⟩:=bm h
  obtain⟨v1,y1,h⟩:=bm h
  refine x_frk 19 [(1,.val (.cptr (ePl.c v0++(ePl).f ((t11).drop (Int.toNat t13+1))))),(6,.call [] [] (bl v1) [])] (oC (ix ePl y0) (oI (Ti_clash2 (Y:=Y) n v0 (Pl.mk zl zm zn zo) _ y1))) h (fun h=>?_) (fun h=>?_)
  ·obtain rfl:=sj h
   exact x_end 4 [] [] oN oN 
  ·obtain⟨v2,y2,h⟩:=bm h
   exact x_to 10 [(2,.val (.sl false 4 v2.length ((ePl).f v2)))] (oI (slF ePl y2)) (Ti_room_1 n rec0 t0 t11 t12 zl zm zn zo hrec0 t13 v2 (v2.length:Int) v0.A v0.B v0.C v0.D n 0 r h) 
 ·obtain rfl:=sj h
  exact x_end 5 [] [] oN oN 
def Di_room(n:Nat)(a0:(List Pl))(a1:Pl):Option Bool :=
 loopN (Di_room_2 n a0 a0 (a0.length:Int) a1.A a1.B a1.C a1.D) n 0
theorem Ti_room{Y}(n:Nat)(a0:(List Pl))(a1:Pl)(r:Bool)(h:Di_room n a0 a1=some r):BT Y (.call 110 [.sl false 4 a0.length ((ePl).f a0),.agg [iN a1.A,iN a1.B,iN a1.C,iN a1.D]] (lk []) (bl r) (lk [])):=by
 unfold Di_room at h
 refine x_call (fn:=Tryz.f110) (c:=B110) (bs0:=[]) Tryz.func110 (by kernel_rfl) (by kernel_rfl) ?_
 exact x_to 13 [] oN (Ti_room_2 n a0 a0 (a0.length:Int) a1.A a1.B a1.C a1.D n 0 r h) 
def Di_with(a0:(List Pl))(a1:Pl):Option (List Pl) :=
 chk (apB 32 (0+a0.length)) (chk (apB 32 (([]++a0).length+1)) (some (([]++a0)++[a1])))
theorem Ti_with{Y}(a0:(List Pl))(a1:Pl)(r:(List Pl))(h:Di_with a0 a1=some r):BT Y (.call 104 [.sl false 4 a0.length ((ePl).f a0),.agg [iN a1.A,iN a1.B,iN a1.C,iN a1.D]] (lk []) (.sl true 4 r.length ((ePl).f r)) (lk [])):=by
 unfold Di_with at h
 refine x_call (fn:=Tryz.f104) (c:=B104) (bs0:=[]) Tryz.func104 (by kernel_rfl) (by kernel_rfl) ?_
 obtain⟨c0,h⟩:=chk_some h
 obtain⟨c1,h⟩:=chk_some h
 obtain rfl:=sj h
 exact x_end 15 [(4,.app false (List.length ([]++a0)) ((ePl).f ([]++a0))),(2,.app false (List.length (([]++a0)++[a1])) ((ePl).f (([]++a0)++[a1])))] [] (oC (len_row' (L:=[]) ePl) (oC (app_one (L:=[]) (M:=a0) ePl c0) (oC (app_new (L:=[]) (M:=a0) ePl) (oC (app_m (L:=[]) (M:=a0) ePl rfl) (oC (len_row' (L:=a0) ePl) (oC (len_row' (L:=([]++a0)) ePl) (oC (app_one (L:=([]++a0)) (M:=[a1]) ePl c1) (oC (app_new (L:=([]++a0)) (M:=[a1]) ePl) (oC (app_m (L:=([]++a0)) (M:=[a1]) ePl rfl) (oC (len_row' (L:=[a1]) ePl) (oI (Enc.noOwn ePl (fun _=>rfl) [a1])))))))))))) (oI (len_row (L:=(([]++a0)++[a1])) ePl)) 
def Di_checker_right_1(_n:Nat)(self:(Int×Sol×(List Pl))→Option (Bool×Int))(t2:List Pl)(t59 _zr:Bool)(zs zt zu zai:Int)(zaj:List Sol)(zz zaa zab zdg zat:Int):Option (Bool×Int) :=
 frk t59 (some (false,zat)) ((lget zaj 0).bind fun v5=>(Di_with t2 (Pl.mk zs zt zu zai)).bind fun v6=>(self (zat,v5,v6)).bind fun v7=>frk v7.1 ((lget zaj 1).bind fun v8=>(Di_with t2 (Pl.mk zz zaa zab zdg)).bind fun v9=>(self (v7.2,v8,v9)).bind fun v10=>some v10) (some (false,v7.2)))
theorem Ti_checker_right_1{Y}(n:Nat)(self:(Int×Sol×(List Pl))→Option (Bool×Int))(hself:∀(a:(Int×Sol×(List Pl))) (r:(Bool×Int)),self a=some r→BT Y (.call 81 [.ptr 1000 0,eF a.2.1,.sl false 4 a.2.2.length ((ePl).f a.2.2)] (lk [(1000,⟨true,0,[iN a.1]⟩)]) (bl r.1) (lk [(1000,⟨true,0,[iN r.2]⟩)])))(t2:List Pl)(t59 zr:Bool)(zs zt zu zai:Int)(zaj:List Sol)(zz zaa zab zdg zat:Int)(r:(Bool×Int))(h:Di_checker_right_1 n self t2 t59 zr zs zt zu zai zaj zz zaa zab zdg zat=some r):WT Y 81 [.code (cp [1,1,1,1,1,0,1] B81),.code (cp [1,1,1,1,1,1] B81)] (FT Tryz.f81 [(1000,⟨true,0,[.bad]⟩)] (bl r.1) [(1000,⟨true,0,[iN r.2]⟩)]) ⟨[(0,.ptr 1000 0),(2,.sl false 4 t2.length ((ePl).f t2)),(4,.ptr 4 0),(7,.ptr 7 0),(59,bl t59)],[(4,⟨true,0,[bl zr,iN zs,iN zt,iN zu,iN zai,.sl false 6 zaj.length ((eSol false).f zaj)]⟩),(7,⟨true,0,[iN zz,iN zaa,iN zab,iN zdg]⟩),(1000,⟨true,0,[iN zat]⟩)]⟩:=by
 unfold Di_checker_right_1 at h
 refine x_frk 0 [] oN h (fun h=>?_) (fun h=>?_)
 ·obtain rfl:=sj h
  exact x_end 4 [] [] oN oN 
 ·obtain⟨v5,y5,h⟩:=bm h
  obtain⟨v6,y6,h⟩:=bm h
  obtain⟨v7,y7,h⟩:=bm h
  refine x_frk 14 [(3,.val (.cptr ((eSol false).c v5++(eSol false).f ((zaj).drop (Int.toNat 0+1))))),(4,.call [] [] (.sl false 4 v6.length ((ePl).f v6)) []),(0,.call [] [] (bl v7.1) [(1000,⟨true,0,[iN v7.2]⟩)])] (oC (ix (eSol false) y5) (oC (shSl (L:=v6) ePl ePl sPl (Ti_with (Y:=Y) t2 (Pl.mk zs zt zu zai) _ y6)) (oI (hself (zat,v5,v6) _ y7)))) h (fun h=>?_) (fun h=>?_)
  ·obtain⟨v8,y8,h⟩:=bm h
   obtain⟨v9,y9,h⟩:=bm h
   obtain⟨v10,y10,h⟩:=bm h
   obtain rfl:=sj h
   exact x_end 12 [(3,.val (.cptr ((eSol false).c v8++(eSol false).f ((zaj).drop (Int.toNat 1+1))))),(3,.call [] [] (.sl false 4 v9.length ((ePl).f v9)) []),(0,.call [] [] (bl v10.1) [(1000,⟨true,0,[iN v10.2]⟩)])] [] (oC (ix (eSol false) y8) (oC (shSl (L:=v9) ePl ePl sPl (Ti_with (Y:=Y) t2 (Pl.mk zz zaa zab zdg) _ y9)) (oI (hself (v7.2,v8,v9) _ y10)))) oN 
  ·obtain rfl:=sj h
   exact x_end 12 [] [] oN oN 
def Di_checker_right_0(n:Nat)(self:(Int×Sol×(List Pl))→Option (Bool×Int))(t2:List Pl)(t45 zr:Bool)(zs zt zu zai:Int)(zaj:List Sol)(zat:Int):Option (Bool×Int) :=
 frk t45 (some (false,zat)) ((Di_flip (Pl.mk zs zt zu zai)).bind fun v2=>(Di_room n t2 (Pl.mk zs zt zu zai)).bind fun v3=>frk (!v3) (some (false,zat)) ((Di_room n t2 v2).bind fun v4=>Di_checker_right_1 n self t2 (!v4) zr zs zt zu zai zaj v2.A v2.B v2.C v2.D zat))
theorem Ti_checker_right_0{Y}(n:Nat)(self:(Int×Sol×(List Pl))→Option (Bool×Int))(hself:∀(a:(Int×Sol×(List Pl))) (r:(Bool×Int)),self a=some r→BT Y (.call 81 [.ptr 1000 0,eF a.2.1,.sl false 4 a.2.2.length ((ePl).f a.2.2)] (lk [(1000,⟨true,0,[iN a.1]⟩)]) (bl r.1) (lk [(1000,⟨true,0,[iN r.2]⟩)])))(t2:List Pl)(t45 zr:Bool)(zs zt zu zai:Int)(zaj:List Sol)(zat:Int)(r:(Bool×Int))(h:Di_checker_right_0 n self t2 t45 zr zs zt zu zai zaj zat=some r):WT Y 81 [.code (cp [1,1,1,0,1] B81),.code (cp [1,1,1,1] B81)] (FT Tryz.f81 [(1000,⟨true,0,[.bad]⟩)] (bl r.1) [(1000,⟨true,0,[iN r.2]⟩)]) ⟨[(0,.ptr 1000 0),(2,.sl false 4 t2.length ((ePl).f t2)),(4,.ptr 4 0),(45,bl t45)],[(4,⟨true,0,[bl zr,iN zs,iN zt,iN zu,iN zai,.sl false 6 zaj.length ((eSol false).f zaj)]⟩),(1000,⟨true,0,[iN zat]⟩)]⟩:=by
 unfold Di_checker_right_0 at h
 refine x_frk 0 [] oN h (fun h=>?_) (fun h=>?_)
 ·obtain rfl:=sj h
  exact x_end 4 [] [] oN oN 
 ·obtain⟨v2,y2,h⟩:=bm h
  obtain⟨v3,y3,h⟩:=bm h
  refine x_frk 18 [(2,.call [] [] (.agg [iN v2.A,iN v2.B,iN v2.C,iN v2.D]) []),(5,.call [] [] (bl v3) [])] (oC (Ti_flip (Y:=Y) (Pl.mk zs zt zu zai) _ y2) (oI (Ti_room (Y:=Y) n t2 (Pl.mk zs zt zu zai) _ y3))) h (fun h=>?_) (fun h=>?_)
  ·obtain rfl:=sj h
   exact x_end 11 [] [] oN oN 
  ·obtain⟨v4,y4,h⟩:=bm h
   exact x_to 6 [(2,.call [] [] (bl v4) [])] (oI (Ti_room (Y:=Y) n t2 v2 _ y4)) (Ti_checker_right_1 n self hself t2 (!v4) zr zs zt zu zai zaj v2.A v2.B v2.C v2.D zat r h) 
def Di_checker_right_b(n:Nat)(self:(Int×Sol×(List Pl))→Option (Bool×Int))(a:(Int×Sol×(List Pl))):Option (Bool×Int) :=
 match a with
 | (a0,a1,a2)=>(Di_Solid_isLeaf a1).bind fun v0=>frk v0 (some ((a1.pl.A==0&&(a1.pl.B==0&&(a1.pl.C==0&&(a1.pl.D==0&&true)))),a0)) (frk a1.inn (some (false,w64 (a0+1))) (frk ((a1.kids.length:Int) != 2) (some (false,w64 (a0+1))) (frk (decide ((w64 (a0+1))>300)) (some (false,w64 (a0+1))) (frk (decide ((a2.length:Int)≥24)) (some (false,w64 (a0+1))) ((Di_PlaneOk n a1.pl).bind fun v1=>Di_checker_right_0 n self a2 (!v1) a1.inn a1.pl.A a1.pl.B a1.pl.C a1.pl.D a1.kids (w64 (a0+1)))))))
def Di_checker_right(n:Nat)(a0:Int)(a1:Sol)(a2:(List Pl)):Option (Bool×Int):=loopN (Di_checker_right_b n) n (a0,a1,a2)
theorem Ti_checker_right_b{Y}(n:Nat):∀(m:Nat) (a:(Int×Sol×(List Pl))) (r:(Bool×Int)),loopN (Di_checker_right_b n) m a=some r→∀(_:Unit),BT Y (.call 81 [.ptr 1000 0,eF a.2.1,.sl false 4 a.2.2.length ((ePl).f a.2.2)] (lk [(1000,⟨true,0,[iN a.1]⟩)]) (bl r.1) (lk [(1000,⟨true,0,[iN r.2]⟩)])):=by
 refine loopN_ind (fun self hs a r h=>?_)
 have hself:∀(a:(Int×Sol×(List Pl))) (r:(Bool×Int)),self a=some r→BT Y (.call 81 [.ptr 1000 0,eF a.2.1,.sl false 4 a.2.2.length ((ePl).f a.2.2)] (lk [(1000,⟨true,0,[iN a.1]⟩)]) (bl r.1) (lk [(1000,⟨true,0,[iN r.2]⟩)])):=fun a r h=>hs a r h ()
 intro _
 obtain⟨a0,a1,a2⟩:=a
 unfold Di_checker_right_b at h
 refine x_call (fn:=Tryz.f81) (c:=B81) (bs0:=[(1000,⟨true,0,[.bad]⟩)]) Tryz.func81 (by kernel_rfl) (by kernel_rfl) ?_
 obtain⟨v0,y0,h⟩:=bm h
 refine x_frk 10 [(2,.call [] [] (bl v0) [])] (oI (Ti_Solid_isLeaf (Y:=Y) a1 [] _ y0)) h (fun h=>?_) (fun h=>?_)
 ·obtain rfl:=sj h
  exact x_end 8 [] [] oN oN 
 ·refine x_frk 18 [] oN h (fun h=>?_) (fun h=>?_)
  ·obtain rfl:=sj h
   exact x_end 29 [] [] oN oN 
  ·refine x_frk 6 [] oN h (fun h=>?_) (fun h=>?_)
   ·obtain rfl:=sj h
    exact x_end 23 [] [] oN oN 
   ·refine x_frk 7 [] oN h (fun h=>?_) (fun h=>?_)
    ·obtain rfl:=sj h
     exact x_end 16 [] [] oN oN 
    ·refine x_frk 5 [] oN h (fun h=>?_) (fun h=>?_)
     ·obtain rfl:=sj h
      exact x_end 11 [] [] oN oN 
     ·obtain⟨v1,y1,h⟩:=bm h
      exact x_to 6 [(2,.call [] [] (bl v1) [])] (oI (Ti_PlaneOk (Y:=Y) n a1.pl _ y1)) (Ti_checker_right_0 n self hself a2 (!v1) a1.inn a1.pl.A a1.pl.B a1.pl.C a1.pl.D a1.kids (w64 (a0+1)) r h) 
theorem Ti_checker_right{Y}(n:Nat)(a0:Int)(a1:Sol)(a2:(List Pl))(r:(Bool×Int))(h:Di_checker_right n a0 a1 a2=some r):BT Y (.call 81 [.ptr 1000 0,eF a1,.sl false 4 a2.length ((ePl).f a2)] (lk [(1000,⟨true,0,[iN a0]⟩)]) (bl r.1) (lk [(1000,⟨true,0,[iN r.2]⟩)])):=Ti_checker_right_b n n (a0,a1,a2) r h ()
def Di_SolidOk(n:Nat)(a0:Sol):Option Bool :=
 (Di_checker_right n 0 a0 []).bind fun v0=>some v0.1
theorem Ti_SolidOk{Y}(n:Nat)(a0:Sol)(r:Bool)(h:Di_SolidOk n a0=some r):BT Y (.call 36 [eF a0] (lk []) (bl r) (lk [])):=by
 unfold Di_SolidOk at h
 refine x_call (fn:=Tryz.f36) (c:=B36) (bs0:=[]) Tryz.func36 (by kernel_rfl) (by kernel_rfl) ?_
 obtain⟨v0,y0,h⟩:=bm h
 obtain rfl:=sj h
 exact x_end 15 [(4,.call [(false,4)] [] (bl v0.1) [(1000,⟨true,0,[iN v0.2]⟩)])] [] (oI (Ti_checker_right (Y:=Y) n 0 a0 [] _ y0)) oN 
def Dslices_EqualFuncfimpl_SameTree_in_0(_n:Nat)(self:(Sol×Sol)→Option Bool)(t1 t15:List Sol)(t16:Int)(rec0:Int→Option Bool)(a:Int):Option Bool :=
 match a with
 | t17=>frk (decide (t17<t16)) ((lget t15 t17).bind fun v0=>(lget t1 t17).bind fun v1=>(self (v0,v1)).bind fun v2=>frk (!v2) (some false) (rec0 (w64 (t17+1)))) (some true)
theorem Tslices_EqualFuncfimpl_SameTree_in_0{Y}(n:Nat)(self:(Sol×Sol)→Option Bool)(hself:∀(a:(Sol×Sol)) (r:Bool),self a=some r→BT Y (.call 29 [eF a.1,eF a.2] (lk []) (bl r) (lk [])))(t1 t15:List Sol)(t16:Int):∀(m:Nat) (a:Int) (r:Bool),loopN (Dslices_EqualFuncfimpl_SameTree_in_0 n self t1 t15 t16) m a=some r→WT Y 75 [.code (cp [1,1,0,1,0] B75),.blk 0,.code (cp [1,1,1] B75)] (FT Tryz.f75 [] (bl r) []) ⟨[(1,.sl false 6 t1.length ((eSol false).f t1)),(2,.lit (.func (.func 29) #[] #[])),(15,.sl false 6 t15.length ((eSol false).f t15)),(16,iN t16),(17,iN a)],[]⟩:=by
 refine loopN_ind (fun _rec0 hrec0 a r h=>?_)
 obtain⟨t17,rfl⟩:∃x,x=a:=⟨a,rfl⟩
 unfold Dslices_EqualFuncfimpl_SameTree_in_0 at h
 refine x_frk 6 [] oN h (fun h=>?_) (fun h=>?_)
 ·obtain⟨v0,y0,h⟩:=bm h
  obtain⟨v1,y1,h⟩:=bm h
  obtain⟨v2,y2,h⟩:=bm h
  refine x_frk 29 [(1,.val (.cptr ((eSol false).c v0++(eSol false).f ((t15).drop (Int.toNat t17+1))))),(6,.val (.cptr ((eSol false).c v1++(eSol false).f ((t1).drop (Int.toNat t17+1))))),(6,.call [] [] (bl v2) [])] (oC (ix (eSol false) y0) (oC (ix (eSol false) y1) (oI (hself (v0,v1) _ y2)))) h (fun h=>?_) (fun h=>?_)
  ·obtain rfl:=sj h
   exact x_end 4 [] [] oN oN 
  ·exact x_to 7 [] oN (hrec0 (w64 (t17+1)) r h) 
 ·obtain rfl:=sj h
  exact x_end 5 [] [] oN oN 
def Dslices_EqualFuncfimpl_SameTree_in(n:Nat)(self:(Sol×Sol)→Option Bool)(a0:(List Sol))(a1:(List Sol)):Option Bool :=
 frk ((a0.length:Int) != (a1.length:Int)) (some false) (loopN (Dslices_EqualFuncfimpl_SameTree_in_0 n self a1 a0 (a0.length:Int)) n 0)
theorem Tslices_EqualFuncfimpl_SameTree_in{Y}(n:Nat)(self:(Sol×Sol)→Option Bool)(hself:∀(a:(Sol×Sol)) (r:Bool),self a=some r→BT Y (.call 29 [eF a.1,eF a.2] (lk []) (bl r) (lk [])))(a0:(List Sol))(a1:(List Sol))(r:Bool)(h:Dslices_EqualFuncfimpl_SameTree_in n self a0 a1=some r):BT Y (.call 75 [.sl false 6 a0.length ((eSol false).f a0),.sl false 6 a1.length ((eSol false).f a1),.lit (.func (.func 29) #[] #[])] (lk []) (bl r) (lk [])):=by
 unfold Dslices_EqualFuncfimpl_SameTree_in at h
 refine x_call (fn:=Tryz.f75) (c:=B75) (bs0:=[]) Tryz.func75 (by kernel_rfl) (by kernel_rfl) ?_
 refine x_frk 13 [] oN h (fun h=>?_) (fun h=>?_)
 ·obtain rfl:=sj h
  exact x_end 4 [] [] oN oN 
 ·exact x_to 9 [] oN (Tslices_EqualFuncfimpl_SameTree_in_0 n self hself a1 a0 (a0.length:Int) n 0 r h) 
def Di_SameTree_b(n:Nat)(self:(Sol×Sol)→Option Bool)(a:(Sol×Sol)):Option Bool :=
 match a with
 | (a0,a1)=>frk (a0.inn==a1.inn) (frk (a0.pl.A==a1.pl.A&&(a0.pl.B==a1.pl.B&&(a0.pl.C==a1.pl.C&&(a0.pl.D==a1.pl.D&&true)))) ((Dslices_EqualFuncfimpl_SameTree_in n self a0.kids a1.kids).bind fun v0=>some v0) (some false)) (some false)
def Di_SameTree(n:Nat)(a0:Sol)(a1:Sol):Option Bool:=loopN (Di_SameTree_b n) n (a0,a1)
theorem Ti_SameTree_b{Y}(n:Nat):∀(m:Nat) (a:(Sol×Sol)) (r:Bool),loopN (Di_SameTree_b n) m a=some r→∀(_:Unit),BT Y (.call 29 [eF a.1,eF a.2] (lk []) (bl r) (lk [])):=by
 refine loopN_ind (fun self hs a r h=>?_)
 have hself:∀(a:(Sol×Sol)) (r:Bool),self a=some r→BT Y (.call 29 [eF a.1,eF a.2] (lk []) (bl r) (lk [])):=fun a r h=>hs a r h ()
 intro _
 obtain⟨a0,a1⟩:=a
 unfold Di_SameTree_b at h
 refine x_call (fn:=Tryz.f29) (c:=B29) (bs0:=[]) Tryz.func29 (by kernel_rfl) (by kernel_rfl) ?_
 refine x_frk 14 [] oN h (fun h=>?_) (fun h=>?_)
 ·refine x_frk 7 [] oN h (fun h=>?_) (fun h=>?_)
  ·obtain⟨v0,y0,h⟩:=bm h
   obtain rfl:=sj h
   exact x_end 8 [(4,.call [] [] (bl v0) [])] [] (oI (Tslices_EqualFuncfimpl_SameTree_in (Y:=Y) n self hself a0.kids a1.kids _ y0)) oN 
  ·obtain rfl:=sj h
   exact x_end 8 [] [] oN oN 
 ·obtain rfl:=sj h
  exact x_end 15 [] [] oN oN 
theorem Ti_SameTree{Y}(n:Nat)(a0:Sol)(a1:Sol)(r:Bool)(h:Di_SameTree n a0 a1=some r):BT Y (.call 29 [eF a0,eF a1] (lk []) (bl r) (lk [])):=Ti_SameTree_b n n (a0,a1) r h ()
def Di_Solid_nodes_b(_n:Nat)(self:Sol→Option Int)(a:Sol):Option Int :=
 match a with
 | a0=>(Di_Solid_isLeaf a0).bind fun v0=>frk v0 (some 0) ((lget a0.kids 0).bind fun v1=>(self v1).bind fun v2=>(lget a0.kids 1).bind fun v3=>(self v3).bind fun v4=>some (w64 ((w64 (1+v2))+v4)))
def Di_Solid_nodes(n:Nat)(a0:Sol):Option Int:=loopN (Di_Solid_nodes_b n) n a0
theorem Ti_Solid_nodes_b{Y}(n:Nat):∀(m:Nat) (a:Sol) (r:Int),loopN (Di_Solid_nodes_b n) m a=some r→∀(q0:List AV),BT Y (.call 77 [.cptr ([bl a.inn,iN a.pl.A,iN a.pl.B,iN a.pl.C,iN a.pl.D,.sl false 6 a.kids.length ((eSol false).f a.kids)]++q0)] (lk []) (iN r) (lk [])):=by
 refine loopN_ind (fun self hs a r h=>?_)
 have hself:∀(a:Sol) (q0:List AV) (r:Int),self a=some r→BT Y (.call 77 [.cptr ([bl a.inn,iN a.pl.A,iN a.pl.B,iN a.pl.C,iN a.pl.D,.sl false 6 a.kids.length ((eSol false).f a.kids)]++q0)] (lk []) (iN r) (lk [])):=fun a q0 r h=>hs a r h q0
 intro q0
 obtain⟨a0,rfl⟩:∃x,x=a:=⟨a,rfl⟩
 unfold Di_Solid_nodes_b at h
 refine x_call (fn:=Tryz.f77) (c:=B77) (bs0:=[]) Tryz.func77 (by kernel_rfl) (by kernel_rfl) ?_
 obtain⟨v0,y0,h⟩:=bm h
 refine x_frk 10 [(2,.call [] [] (bl v0) [])] (oI (Ti_Solid_isLeaf (Y:=Y) a0 q0 _ y0)) h (fun h=>?_) (fun h=>?_)
 ·obtain rfl:=sj h
  exact x_end 4 [] [] oN oN 
 ·obtain⟨v1,y1,h⟩:=bm h
  obtain⟨v2,y2,h⟩:=bm h
  obtain⟨v3,y3,h⟩:=bm h
  obtain⟨v4,y4,h⟩:=bm h
  obtain rfl:=sj h
  exact x_end 19 [(4,.val (.cptr ((eSol false).c v1++(eSol false).f ((a0.kids).drop (Int.toNat 0+1))))),(0,.call [] [] (iN v2) []),(5,.val (.cptr ((eSol false).c v3++(eSol false).f ((a0.kids).drop (Int.toNat 1+1))))),(0,.call [] [] (iN v4) [])] [] (oC (ix (eSol false) y1) (oC (hself v1 ((eSol false).f ((a0.kids).drop (Int.toNat 0+1))) _ y2) (oC (ix (eSol false) y3) (oI (hself v3 ((eSol false).f ((a0.kids).drop (Int.toNat 1+1))) _ y4))))) oN 
theorem Ti_Solid_nodes{Y}(n:Nat)(a0:Sol)(q0:List AV)(r:Int)(h:Di_Solid_nodes n a0=some r):BT Y (.call 77 [.cptr ([bl a0.inn,iN a0.pl.A,iN a0.pl.B,iN a0.pl.C,iN a0.pl.D,.sl false 6 a0.kids.length ((eSol false).f a0.kids)]++q0)] (lk []) (iN r) (lk [])):=Ti_Solid_nodes_b n n a0 r h q0
def Di_Desk_held(n:Nat)(a0:Dk8):Option Int :=
 (Di_Solid_nodes n a0.1.1).bind fun v0=>(Di_Solid_nodes n a0.1.2.1).bind fun v1=>(Di_Solid_nodes n a0.1.2.2.1).bind fun v2=>(Di_Solid_nodes n a0.1.2.2.2.1).bind fun v3=>(Di_Solid_nodes n a0.1.2.2.2.2.1).bind fun v4=>(Di_Solid_nodes n a0.1.2.2.2.2.2.1).bind fun v5=>(Di_Solid_nodes n a0.1.2.2.2.2.2.2.1).bind fun v6=>(Di_Solid_nodes n a0.1.2.2.2.2.2.2.2).bind fun v7=>some (w64 ((w64 ((w64 ((w64 ((w64 ((w64 ((w64 ((w64 (0+v0))+v1))+v2))+v3))+v4))+v5))+v6))+v7))
theorem Ti_Desk_held{Y}(n:Nat)(a0:Dk8)(q0:List AV)(r:Int)(h:Di_Desk_held n a0=some r):BT Y (.call 69 [.cptr ([bl a0.1.1.inn,iN a0.1.1.pl.A,iN a0.1.1.pl.B,iN a0.1.1.pl.C,iN a0.1.1.pl.D,.sl false 6 a0.1.1.kids.length ((eSol false).f a0.1.1.kids),bl a0.1.2.1.inn,iN a0.1.2.1.pl.A,iN a0.1.2.1.pl.B,iN a0.1.2.1.pl.C,iN a0.1.2.1.pl.D,.sl false 6 a0.1.2.1.kids.length ((eSol false).f a0.1.2.1.kids),bl a0.1.2.2.1.inn,iN a0.1.2.2.1.pl.A,iN a0.1.2.2.1.pl.B,iN a0.1.2.2.1.pl.C,iN a0.1.2.2.1.pl.D,.sl false 6 a0.1.2.2.1.kids.length ((eSol false).f a0.1.2.2.1.kids),bl a0.1.2.2.2.1.inn,iN a0.1.2.2.2.1.pl.A,iN a0.1.2.2.2.1.pl.B,iN a0.1.2.2.2.1.pl.C,iN a0.1.2.2.2.1.pl.D,.sl false 6 a0.1.2.2.2.1.kids.length ((eSol false).f a0.1.2.2.2.1.kids),bl a0.1.2.2.2.2.1.inn,iN a0.1.2.2.2.2.1.pl.A,iN a0.1.2.2.2.2.1.pl.B,iN a0.1.2.2.2.2.1.pl.C,iN a0.1.2.2.2.2.1.pl.D,.sl false 6 a0.1.2.2.2.2.1.kids.length ((eSol false).f a0.1.2.2.2.2.1.kids),bl a0.1.2.2.2.2.2.1.inn,iN a0.1.2.2.2.2.2.1.pl.A,iN a0.1.2.2.2.2.2.1.pl.B,iN a0.1.2.2.2.2.2.1.pl.C,iN a0.1.2.2.2.2.2.1.pl.D,.sl false 6 a0.1.2.2.2.2.2.1.kids.length ((eSol false).f a0.1.2.2.2.2.2.1.kids),bl a0.1.2.2.2.2.2.2.1.inn,iN a0.1.2.2.2.2.2.2.1.pl.A,iN a0.1.2.2.2.2.2.2.1.pl.B,iN a0.1.2.2.2.2.2.2.1.pl.C,iN a0.1.2.2.2.2.2.2.1.pl.D,.sl false 6 a0.1.2.2.2.2.2.2.1.kids.length ((eSol false).f a0.1.2.2.2.2.2.2.1.kids),bl a0.1.2.2.2.2.2.2.2.inn,iN a0.1.2.2.2.2.2.2.2.pl.A,iN a0.1.2.2.2.2.2.2.2.pl.B,iN a0.1.2.2.2.2.2.2.2.pl.C,iN a0.1.2.2.2.2.2.2.2.pl.D,.sl false 6 a0.1.2.2.2.2.2.2.2.kids.length ((eSol false).f a0.1.2.2.2.2.2.2.2.kids),bl a0.2.1,bl a0.2.2.1,bl a0.2.2.2.1,bl a0.2.2.2.2.1,bl a0.2.2.2.2.2.1,bl a0.2.2.2.2.2.2.1,bl a0.2.2.2.2.2.2.2.1,bl a0.2.2.2.2.2.2.2.2]++q0)] (lk []) (iN r) (lk [])):=by
 unfold Di_Desk_held at h
 refine x_call (fn:=Tryz.f69) (c:=B69) (bs0:=[]) Tryz.func69 (by kernel_rfl) (by kernel_rfl) ?_
 obtain⟨v0,y0,h⟩:=bm h
 obtain⟨v1,y1,h⟩:=bm h
 obtain⟨v2,y2,h⟩:=bm h
 obtain⟨v3,y3,h⟩:=bm h
 obtain⟨v4,y4,h⟩:=bm h
 obtain⟨v5,y5,h⟩:=bm h
 obtain⟨v6,y6,h⟩:=bm h
 obtain⟨v7,y7,h⟩:=bm h
 obtain rfl:=sj h
 exact x_end 283 [(12,.call [] [] (iN v0) []),(13,.call [] [] (iN v1) []),(13,.call [] [] (iN v2) []),(13,.call [] [] (iN v3) []),(13,.call [] [] (iN v4) []),(13,.call [] [] (iN v5) []),(13,.call [] [] (iN v6) []),(13,.call [] [] (iN v7) [])] [] (oC (Ti_Solid_nodes (Y:=Y) n a0.1.1 ([bl a0.1.2.1.inn,iN a0.1.2.1.pl.A,iN a0.1.2.1.pl.B,iN a0.1.2.1.pl.C,iN a0.1.2.1.pl.D,.sl false 6 a0.1.2.1.kids.length ((eSol false).f a0.1.2.1.kids),bl a0.1.2.2.1.inn,iN a0.1.2.2.1.pl.A,iN a0.1.2.2.1.pl.B,iN a0.1.2.2.1.pl.C,iN a0.1.2.2.1.pl.D,.sl false 6 a0.1.2.2.1.kids.length ((eSol false).f a0.1.2.2.1.kids),bl a0.1.2.2.2.1.inn,iN a0.1.2.2.2.1.pl.A,iN a0.1.2.2.2.1.pl.B,iN a0.1.2.2.2.1.pl.C,iN a0.1.2.2.2.1.pl.D,.sl false 6 a0.1.2.2.2.1.kids.length ((eSol false).f a0.1.2.2.2.1.kids),bl a0.1.2.2.2.2.1.inn,iN a0.1.2.2.2.2.1.pl.A,iN a0.1.2.2.2.2.1.pl.B,iN a0.1.2.2.2.2.1.pl.C,iN a0.1.2.2.2.2.1.pl.D,.sl false 6 a0.1.2.2.2.2.1.kids.length ((eSol false).f a0.1.2.2.2.2.1.kids),bl a0.1.2.2.2.2.2.1.inn,iN a0.1.2.2.2.2.2.1.pl.A,iN a0.1.2.2.2.2.2.1.pl.B,iN a0.1.2.2.2.2.2.1.pl.C,iN a0.1.2.2.2.2.2.1.pl.D,.sl false 6 a0.1.2.2.2.2.2.1.kids.length ((eSol false).f a0.1.2.2.2.2.2.1.kids),bl a0.1.2.2.2.2.2.2.1.inn,iN a0.1.2.2.2.2.2.2.1.pl.A,iN a0.1.2.2.2.2.2.2.1.pl.B,iN a0.1.2.2.2.2.2.2.1.pl.C,iN a0.1.2.2.2.2.2.2.1.pl.D,.sl false 6 a0.1.2.2.2.2.2.2.1.kids.length ((eSol false).f a0.1.2.2.2.2.2.2.1.kids),bl a0.1.2.2.2.2.2.2.2.inn,iN a0.1.2.2.2.2.2.2.2.pl.A,iN a0.1.2.2.2.2.2.2.2.pl.B,iN a0.1.2.2.2.2.2.2.2.pl.C,iN a0.1.2.2.2.2.2.2.2.pl.D,.sl false 6 a0.1.2.2.2.2.2.2.2.kids.length ((eSol false).f a0.1.2.2.2.2.2.2.2.kids),bl a0.2.1,bl a0.2.2.1,bl a0.2.2.2.1,bl a0.2.2.2.2.1,bl a0.2.2.2.2.2.1,bl a0.2.2.2.2.2.2.1,bl a0.2.2.2.2.2.2.2.1,bl a0.2.2.2.2.2.2.2.2]++q0) _ y0) (oC (Ti_Solid_nodes (Y:=Y) n a0.1.2.1 ([bl a0.1.2.2.1.inn,iN a0.1.2.2.1.pl.A,iN a0.1.2.2.1.pl.B,iN a0.1.2.2.1.pl.C,iN a0.1.2.2.1.pl.D,.sl false 6 a0.1.2.2.1.kids.length ((eSol false).f a0.1.2.2.1.kids),bl a0.1.2.2.2.1.inn,iN a0.1.2.2.2.1.pl.A,iN a0.1.2.2.2.1.pl.B,iN a0.1.2.2.2.1.pl.C,iN a0.1.2.2.2.1.pl.D,.sl false 6 a0.1.2.2.2.1.kids.length ((eSol false).f a0.1.2.2.2.1.kids),bl a0.1.2.2.2.2.1.inn,iN a0.1.2.2.2.2.1.pl.A,iN a0.1.2.2.2.2.1.pl.B,iN a0.1.2.2.2.2.1.pl.C,iN a0.1.2.2.2.2.1.pl.D,.sl false 6 a0.1.2.2.2.2.1.kids.length ((eSol false).f a0.1.2.2.2.2.1.kids),bl a0.1.2.2.2.2.2.1.inn,iN a0.1.2.2.2.2.2.1.pl.A,iN a0.1.2.2.2.2.2.1.pl.B,iN a0.1.2.2.2.2.2.1.pl.C,iN a0.1.2.2.2.2.2.1.pl.D,.sl false 6 a0.1.2.2.2.2.2.1.kids.length ((eSol false).f a0.1.2.2.2.2.2.1.kids),bl a0.1.2.2.2.2.2.2.1.inn,iN a0.1.2.2.2.2.2.2.1.pl.A,iN a0.1.2.2.2.2.2.2.1.pl.B,iN a0.1.2.2.2.2.2.2.1.pl.C,iN a0.1.2.2.2.2.2.2.1.pl.D,.sl false 6 a0.1.2.2.2.2.2.2.1.kids.length ((eSol false).f a0.1.2.2.2.2.2.2.1.kids),bl a0.1.2.2.2.2.2.2.2.inn,iN a0.1.2.2.2.2.2.2.2.pl.A,iN a0.1.2.2.2.2.2.2.2.pl.B,iN a0.1.2.2.2.2.2.2.2.pl.C,iN a0.1.2.2.2.2.2.2.2.pl.D,.sl false 6 a0.1.2.2.2.2.2.2.2.kids.length ((eSol false).f a0.1.2.2.2.2.2.2.2.kids),bl a0.2.1,bl a0.2.2.1,bl a0.2.2.2.1,bl a0.2.2.2.2.1,bl a0.2.2.2.2.2.1,bl a0.2.2.2.2.2.2.1,bl a0.2.2.2.2.2.2.2.1,bl a0.2.2.2.2.2.2.2.2]++q0) _ y1) (oC (Ti_Solid_nodes (Y:=Y) n a0.1.2.2.1 ([bl a0.1.2.2.2.1.inn,iN a0.1.2.2.2.1.pl.A,iN a0.1.2.2.2.1.pl.B,iN a0.1.2.2.2.1.pl.C,iN a0.1.2.2.2.1.pl.D,.sl false 6 a0.1.2.2.2.1.kids.length ((eSol false).f a0.1.2.2.2.1.kids),bl a0.1.2.2.2.2.1.inn,iN a0.1.2.2.2.2.1.pl.A,iN a0.1.2.2.2.2.1.pl.B,iN a0.1.2.2.2.2.1.pl.C,iN a0.1.2.2.2.2.1.pl.D,.sl false 6 a0.1.2.2.2.2.1.kids.length ((eSol false).f a0.1.2.2.2.2.1.kids),bl a0.1.2.2.2.2.2.1.inn,iN a0.1.2.2.2.2.2.1.pl.A,iN a0.1.2.2.2.2.2.1.pl.B,iN a0.1.2.2.2.2.2.1.pl.C,iN a0.1.2.2.2.2.2.1.pl.D,.sl false 6 a0.1.2.2.2.2.2.1.kids.length ((eSol false).f a0.1.2.2.2.2.2.1.kids),bl a0.1.2.2.2.2.2.2.1.inn,iN a0.1.2.2.2.2.2.2.1.pl.A,iN a0.1.2.2.2.2.2.2.1.pl.B,iN a0.1.2.2.2.2.2.2.1.pl.C,iN a0.1.2.2.2.2.2.2.1.pl.D,.sl false 6 a0.1.2.2.2.2.2.2.1.kids.length ((eSol false).f a0.1.2.2.2.2.2.2.1.kids),bl a0.1.2.2.2.2.2.2.2.inn,iN a0.1.2.2.2.2.2.2.2.pl.A,iN a0.1.2.2.2.2.2.2.2.pl.B,iN a0.1.2.2.2.2.2.2.2.pl.C,iN a0.1.2.2.2.2.2.2.2.pl.D,.sl false 6 a0.1.2.2.2.2.2.2.2.kids.length ((eSol false).f a0.1.2.2.2.2.2.2.2.kids),bl a0.2.1,bl a0.2.2.1,bl a0.2.2.2.1,bl a0.2.2.2.2.1,bl a0.2.2.2.2.2.1,bl a0.2.2.2.2.2.2.1,bl a0.2.2.2.2.2.2.2.1,bl a0.2.2.2.2.2.2.2.2]++q0) _ y2) (oC (Ti_Solid_nodes (Y:=Y) n a0.1.2.2.2.1 ([bl a0.1.2.2.2.2.1.inn,iN a0.1.2.2.2.2.1.pl.A,iN a0.1.2.2.2.2.1.pl.B,iN a0.1.2.2.2.2.1.pl.C,iN a0.1.2.2.2.2.1.pl.D,.sl false 6 a0.1.2.2.2.2.1.kids.length ((eSol false).f a0.1.2.2.2.2.1.kids),bl a0.1.2.2.2.2.2.1.inn,iN a0.1.2.2.2.2.2.1.pl.A,iN a0.1.2.2.2.2.2.1.pl.B,iN a0.1.2.2.2.2.2.1.pl.C,iN a0.1.2.2.2.2.2.1.pl.D,.sl false 6 a0.1.2.2.2.2.2.1.kids.length ((eSol false).f a0.1.2.2.2.2.2.1.kids),bl a0.1.2.2.2.2.2.2.1.inn,iN a0.1.2.2.2.2.2.2.1.pl.A,iN a0.1.2.2.2.2.2.2.1.pl.B,iN a0.1.2.2.2.2.2.2.1.pl.C,iN a0.1.2.2.2.2.2.2.1.pl.D,.sl false 6 a0.1.2.2.2.2.2.2.1.kids.length ((eSol false).f a0.1.2.2.2.2.2.2.1.kids),bl a0.1.2.2.2.2.2.2.2.inn,iN a0.1.2.2.2.2.2.2.2.pl.A,iN a0.1.2.2.2.2.2.2.2.pl.B,iN a0.1.2.2.2.2.2.2.2.pl.C,iN a0.1.2.2.2.2.2.2.2.pl.D,.sl false 6 a0.1.2.2.2.2.2.2.2.kids.length ((eSol false).f a0.1.2.2.2.2.2.2.2.kids),bl a0.2.1,bl a0.2.2.1,bl a0.2.2.2.1,bl a0.2.2.2.2.1,bl a0.2.2.2.2.2.1,bl a0.2.2.2.2.2.2.1,bl a0.2.2.2.2.2.2.2.1,bl a0.2.2.2.2.2.2.2.2]++q0) _ y3) (oC (Ti_Solid_nodes (Y:=Y) n a0.1.2.2.2.2.1 ([bl a0.1.2.2.2.2.2.1.inn,iN a0.1.2.2.2.2.2.1.pl.A,iN a0.1.2.2.2.2.2.1.pl.B,iN a0.1.2.2.2.2.2.1.pl.C,iN a0.1.2.2.2.2.2.1.pl.D,.sl false 6 a0.1.2.2.2.2.2.1.kids.length ((eSol false).f a0.1.2.2.2.2.2.1.kids),bl a0.1.2.2.2.2.2.2.1.inn,iN a0.1.2.2.2.2.2.2.1.pl.A,iN a0.1.2.2.2.2.2.2.1.pl.B,iN a0.1.2.2.2.2.2.2.1.pl.C,iN a0.1.2.2.2.2.2.2.1.pl.D,.sl false 6 a0.1.2.2.2.2.2.2.1.kids.length ((eSol false).f a0.1.2.2.2.2.2.2.1.kids),bl a0.1.2.2.2.2.2.2.2.inn,iN a0.1.2.2.2.2.2.2.2.pl.A,iN a0.1.2.2.2.2.2.2.2.pl.B,iN a0.1.2.2.2.2.2.2.2.pl.C,iN a0.1.2.2.2.2.2.2.2.pl.D,.sl false 6 a0.1.2.2.2.2.2.2.2.kids.length ((eSol false).f a0.1.2.2.2.2.2.2.2.kids),bl a0.2.1,bl a0.2.2.1,bl a0.2.2.2.1,bl a0.2.2.2.2.1,bl a0.2.2.2.2.2.1,bl a0.2.2.2.2.2.2.1,bl a0.2.2.2.2.2.2.2.1,bl a0.2.2.2.2.2.2.2.2]++q0) _ y4) (oC (Ti_Solid_nodes (Y:=Y) n a0.1.2.2.2.2.2.1 ([bl a0.1.2.2.2.2.2.2.1.inn,iN a0.1.2.2.2.2.2.2.1.pl.A,iN a0.1.2.2.2.2.2.2.1.pl.B,iN a0.1.2.2.2.2.2.2.1.pl.C,iN a0.1.2.2.2.2.2.2.1.pl.D,.sl false 6 a0.1.2.2.2.2.2.2.1.kids.length ((eSol false).f a0.1.2.2.2.2.2.2.1.kids),bl a0.1.2.2.2.2.2.2.2.inn,iN a0.1.2.2.2.2.2.2.2.pl.A,iN a0.1.2.2.2.2.2.2.2.pl.B,iN a0.1.2.2.2.2.2.2.2.pl.C,iN a0.1.2.2.2.2.2.2.2.pl.D,.sl false 6 a0.1.2.2.2.2.2.2.2.kids.length ((eSol false).f a0.1.2.2.2.2.2.2.2.kids),bl a0.2.1,bl a0.2.2.1,bl a0.2.2.2.1,bl a0.2.2.2.2.1,bl a0.2.2.2.2.2.1,bl a0.2.2.2.2.2.2.1,bl a0.2.2.2.2.2.2.2.1,bl a0.2.2.2.2.2.2.2.2]++q0) _ y5) (oC (Ti_Solid_nodes (Y:=Y) n a0.1.2.2.2.2.2.2.1 ([bl a0.1.2.2.2.2.2.2.2.inn,iN a0.1.2.2.2.2.2.2.2.pl.A,iN a0.1.2.2.2.2.2.2.2.pl.B,iN a0.1.2.2.2.2.2.2.2.pl.C,iN a0.1.2.2.2.2.2.2.2.pl.D,.sl false 6 a0.1.2.2.2.2.2.2.2.kids.length ((eSol false).f a0.1.2.2.2.2.2.2.2.kids),bl a0.2.1,bl a0.2.2.1,bl a0.2.2.2.1,bl a0.2.2.2.2.1,bl a0.2.2.2.2.2.1,bl a0.2.2.2.2.2.2.1,bl a0.2.2.2.2.2.2.2.1,bl a0.2.2.2.2.2.2.2.2]++q0) _ y6) (oI (Ti_Solid_nodes (Y:=Y) n a0.1.2.2.2.2.2.2.2 ([bl a0.2.1,bl a0.2.2.1,bl a0.2.2.2.1,bl a0.2.2.2.2.1,bl a0.2.2.2.2.2.1,bl a0.2.2.2.2.2.2.1,bl a0.2.2.2.2.2.2.2.1,bl a0.2.2.2.2.2.2.2.2]++q0) _ y7))))))))) oN 
def Di_DeskOk_7(n:Nat)(a0:Dk8)(t26:Bool):Option Bool :=
 frk t26 (some false) ((Di_Desk_held n a0).bind fun v16=>some (decide (v16≤900)))
theorem Ti_DeskOk_7{Y}(n:Nat)(a0:Dk8)(t26 r:Bool)(h:Di_DeskOk_7 n a0 t26=some r):WT Y 24 [.code (cp [1,0,1,0,0,1,1,0,0,1,1] B24),.blk 1,.code (cp [1,0,1,0,0,1,1,1] B24),.lp (cp [1,0,1,0] B24),.blk 0,.code (cp [1,1] B24)] (FT Tryz.f24 [] (bl r) []) ⟨[(1,.ptr 1 0),(6,.agg [bl a0.1.1.inn,iN a0.1.1.pl.A,iN a0.1.1.pl.B,iN a0.1.1.pl.C,iN a0.1.1.pl.D,.sl false 6 a0.1.1.kids.length ((eSol false).f a0.1.1.kids),bl a0.1.2.1.inn,iN a0.1.2.1.pl.A,iN a0.1.2.1.pl.B,iN a0.1.2.1.pl.C,iN a0.1.2.1.pl.D,.sl false 6 a0.1.2.1.kids.length ((eSol false).f a0.1.2.1.kids),bl a0.1.2.2.1.inn,iN a0.1.2.2.1.pl.A,iN a0.1.2.2.1.pl.B,iN a0.1.2.2.1.pl.C,iN a0.1.2.2.1.pl.D,.sl false 6 a0.1.2.2.1.kids.length ((eSol false).f a0.1.2.2.1.kids),bl a0.1.2.2.2.1.inn,iN a0.1.2.2.2.1.pl.A,iN a0.1.2.2.2.1.pl.B,iN a0.1.2.2.2.1.pl.C,iN a0.1.2.2.2.1.pl.D,.sl false 6 a0.1.2.2.2.1.kids.length ((eSol false).f a0.1.2.2.2.1.kids),bl a0.1.2.2.2.2.1.inn,iN a0.1.2.2.2.2.1.pl.A,iN a0.1.2.2.2.2.1.pl.B,iN a0.1.2.2.2.2.1.pl.C,iN a0.1.2.2.2.2.1.pl.D,.sl false 6 a0.1.2.2.2.2.1.kids.length ((eSol false).f a0.1.2.2.2.2.1.kids),bl a0.1.2.2.2.2.2.1.inn,iN a0.1.2.2.2.2.2.1.pl.A,iN a0.1.2.2.2.2.2.1.pl.B,iN a0.1.2.2.2.2.2.1.pl.C,iN a0.1.2.2.2.2.2.1.pl.D,.sl false 6 a0.1.2.2.2.2.2.1.kids.length ((eSol false).f a0.1.2.2.2.2.2.1.kids),bl a0.1.2.2.2.2.2.2.1.inn,iN a0.1.2.2.2.2.2.2.1.pl.A,iN a0.1.2.2.2.2.2.2.1.pl.B,iN a0.1.2.2.2.2.2.2.1.pl.C,iN a0.1.2.2.2.2.2.2.1.pl.D,.sl false 6 a0.1.2.2.2.2.2.2.1.kids.length ((eSol false).f a0.1.2.2.2.2.2.2.1.kids),bl a0.1.2.2.2.2.2.2.2.inn,iN a0.1.2.2.2.2.2.2.2.pl.A,iN a0.1.2.2.2.2.2.2.2.pl.B,iN a0.1.2.2.2.2.2.2.2.pl.C,iN a0.1.2.2.2.2.2.2.2.pl.D,.sl false 6 a0.1.2.2.2.2.2.2.2.kids.length ((eSol false).f a0.1.2.2.2.2.2.2.2.kids)]),(7,iN 7),(26,bl t26)],[(1,⟨true,0,(cT52 a0)⟩)]⟩:=by
 unfold Di_DeskOk_7 at h
 refine x_frk 0 [] oN h (fun h=>?_) (fun h=>?_)
 ·obtain rfl:=sj h
  exact x_end 4 [] [] oN oN 
 ·obtain⟨v16,y16,h⟩:=bm h
  obtain rfl:=sj h
  exact x_end 21 [(3,.call [] [] (iN v16) [])] [] (oI (Ti_Desk_held (Y:=Y) n a0 [] _ y16)) oN 
def Di_DeskOk_8(n:Nat)(a0:Dk8):Option Bool :=
 (Di_Desk_held n a0).bind fun v17=>some (decide (v17≤900))
theorem Ti_DeskOk_8{Y}(n:Nat)(a0:Dk8)(r:Bool)(h:Di_DeskOk_8 n a0=some r):WT Y 24 [.code (cp [1,0,1,0] B24),.blk 0,.code (cp [1,1] B24)] (FT Tryz.f24 [] (bl r) []) ⟨[(1,.ptr 1 0),(6,.agg [bl a0.1.1.inn,iN a0.1.1.pl.A,iN a0.1.1.pl.B,iN a0.1.1.pl.C,iN a0.1.1.pl.D,.sl false 6 a0.1.1.kids.length ((eSol false).f a0.1.1.kids),bl a0.1.2.1.inn,iN a0.1.2.1.pl.A,iN a0.1.2.1.pl.B,iN a0.1.2.1.pl.C,iN a0.1.2.1.pl.D,.sl false 6 a0.1.2.1.kids.length ((eSol false).f a0.1.2.1.kids),bl a0.1.2.2.1.inn,iN a0.1.2.2.1.pl.A,iN a0.1.2.2.1.pl.B,iN a0.1.2.2.1.pl.C,iN a0.1.2.2.1.pl.D,.sl false 6 a0.1.2.2.1.kids.length ((eSol false).f a0.1.2.2.1.kids),bl a0.1.2.2.2.1.inn,iN a0.1.2.2.2.1.pl.A,iN a0.1.2.2.2.1.pl.B,iN a0.1.2.2.2.1.pl.C,iN a0.1.2.2.2.1.pl.D,.sl false 6 a0.1.2.2.2.1.kids.length ((eSol false).f a0.1.2.2.2.1.kids),bl a0.1.2.2.2.2.1.inn,iN a0.1.2.2.2.2.1.pl.A,iN a0.1.2.2.2.2.1.pl.B,iN a0.1.2.2.2.2.1.pl.C,iN a0.1.2.2.2.2.1.pl.D,.sl false 6 a0.1.2.2.2.2.1.kids.length ((eSol false).f a0.1.2.2.2.2.1.kids),bl a0.1.2.2.2.2.2.1.inn,iN a0.1.2.2.2.2.2.1.pl.A,iN a0.1.2.2.2.2.2.1.pl.B,iN a0.1.2.2.2.2.2.1.pl.C,iN a0.1.2.2.2.2.2.1.pl.D,.sl false 6 a0.1.2.2.2.2.2.1.kids.length ((eSol false).f a0.1.2.2.2.2.2.1.kids),bl a0.1.2.2.2.2.2.2.1.inn,iN a0.1.2.2.2.2.2.2.1.pl.A,iN a0.1.2.2.2.2.2.2.1.pl.B,iN a0.1.2.2.2.2.2.2.1.pl.C,iN a0.1.2.2.2.2.2.2.1.pl.D,.sl false 6 a0.1.2.2.2.2.2.2.1.kids.length ((eSol false).f a0.1.2.2.2.2.2.2.1.kids),bl a0.1.2.2.2.2.2.2.2.inn,iN a0.1.2.2.2.2.2.2.2.pl.A,iN a0.1.2.2.2.2.2.2.2.pl.B,iN a0.1.2.2.2.2.2.2.2.pl.C,iN a0.1.2.2.2.2.2.2.2.pl.D,.sl false 6 a0.1.2.2.2.2.2.2.2.kids.length ((eSol false).f a0.1.2.2.2.2.2.2.2.kids)]),(7,iN 8)],[(1,⟨true,0,(cT52 a0)⟩)]⟩:=by
 unfold Di_DeskOk_8 at h
 obtain⟨v17,y17,h⟩:=bm h
 obtain rfl:=sj h
 exact x_end 14 [(1,.call [] [] (iN v17) [])] [] (oI (Ti_Desk_held (Y:=Y) n a0 [] _ y17)) oN 
def Di_DeskOk_6(n:Nat)(a0:Dk8)(t26:Bool):Option Bool :=
 frk t26 (some false) ((Di_SolidOk n a0.1.2.2.2.2.2.2.2).bind fun v14=>frk (!v14) (some false) (frk (!a0.2.2.2.2.2.2.2.2) ((Di_SameTree n a0.1.2.2.2.2.2.2.2 (Sol.mk false (Pl.mk 0 0 0 0) [])).bind fun v15=>Di_DeskOk_7 n a0 (!v15)) (Di_DeskOk_8 n a0)))
theorem Ti_DeskOk_6{Y}(n:Nat)(a0:Dk8)(t26 r:Bool)(h:Di_DeskOk_6 n a0 t26=some r):WT Y 24 [.code (cp [1,0,1,0,0,1,1,0,0,1,1] B24),.blk 1,.code (cp [1,0,1,0,0,1,1,1] B24),.lp (cp [1,0,1,0] B24),.blk 0,.code (cp [1,1] B24)] (FT Tryz.f24 [] (bl r) []) ⟨[(1,.ptr 1 0),(6,.agg [bl a0.1.1.inn,iN a0.1.1.pl.A,iN a0.1.1.pl.B,iN a0.1.1.pl.C,iN a0.1.1.pl.D,.sl false 6 a0.1.1.kids.length ((eSol false).f a0.1.1.kids),bl a0.1.2.1.inn,iN a0.1.2.1.pl.A,iN a0.1.2.1.pl.B,iN a0.1.2.1.pl.C,iN a0.1.2.1.pl.D,.sl false 6 a0.1.2.1.kids.length ((eSol false).f a0.1.2.1.kids),bl a0.1.2.2.1.inn,iN a0.1.2.2.1.pl.A,iN a0.1.2.2.1.pl.B,iN a0.1.2.2.1.pl.C,iN a0.1.2.2.1.pl.D,.sl false 6 a0.1.2.2.1.kids.length ((eSol false).f a0.1.2.2.1.kids),bl a0.1.2.2.2.1.inn,iN a0.1.2.2.2.1.pl.A,iN a0.1.2.2.2.1.pl.B,iN a0.1.2.2.2.1.pl.C,iN a0.1.2.2.2.1.pl.D,.sl false 6 a0.1.2.2.2.1.kids.length ((eSol false).f a0.1.2.2.2.1.kids),bl a0.1.2.2.2.2.1.inn,iN a0.1.2.2.2.2.1.pl.A,iN a0.1.2.2.2.2.1.pl.B,iN a0.1.2.2.2.2.1.pl.C,iN a0.1.2.2.2.2.1.pl.D,.sl false 6 a0.1.2.2.2.2.1.kids.length ((eSol false).f a0.1.2.2.2.2.1.kids),bl a0.1.2.2.2.2.2.1.inn,iN a0.1.2.2.2.2.2.1.pl.A,iN a0.1.2.2.2.2.2.1.pl.B,iN a0.1.2.2.2.2.2.1.pl.C,iN a0.1.2.2.2.2.2.1.pl.D,.sl false 6 a0.1.2.2.2.2.2.1.kids.length ((eSol false).f a0.1.2.2.2.2.2.1.kids),bl a0.1.2.2.2.2.2.2.1.inn,iN a0.1.2.2.2.2.2.2.1.pl.A,iN a0.1.2.2.2.2.2.2.1.pl.B,iN a0.1.2.2.2.2.2.2.1.pl.C,iN a0.1.2.2.2.2.2.2.1.pl.D,.sl false 6 a0.1.2.2.2.2.2.2.1.kids.length ((eSol false).f a0.1.2.2.2.2.2.2.1.kids),bl a0.1.2.2.2.2.2.2.2.inn,iN a0.1.2.2.2.2.2.2.2.pl.A,iN a0.1.2.2.2.2.2.2.2.pl.B,iN a0.1.2.2.2.2.2.2.2.pl.C,iN a0.1.2.2.2.2.2.2.2.pl.D,.sl false 6 a0.1.2.2.2.2.2.2.2.kids.length ((eSol false).f a0.1.2.2.2.2.2.2.2.kids)]),(7,iN 6),(26,bl t26)],[(1,⟨true,0,(cT52 a0)⟩)]⟩:=by
 unfold Di_DeskOk_6 at h
 refine x_frk 0 [] oN h (fun h=>?_) (fun h=>?_)
 ·obtain rfl:=sj h
  exact x_end 4 [] [] oN oN 
 ·obtain⟨v14,y14,h⟩:=bm h
  refine x_frk 31 [(9,.call [] [] (bl v14) [])] (oI (Ti_SolidOk (Y:=Y) n a0.1.2.2.2.2.2.2.2 _ y14)) h (fun h=>?_) (fun h=>?_)
  ·obtain rfl:=sj h
   exact x_end 18 [] [] oN oN 
  ·refine x_frk 6 [] oN h (fun h=>?_) (fun h=>?_)
   ·obtain⟨v15,y15,h⟩:=bm h
    exact x_to 7 [(2,.call [(false,6)] [] (bl v15) [])] (oI (Ti_SameTree (Y:=Y) n a0.1.2.2.2.2.2.2.2 (Sol.mk false (Pl.mk 0 0 0 0) []) _ y15)) (Ti_DeskOk_7 n a0 (!v15) r h) 
   ·exact x_to 15 [] oN (Ti_DeskOk_8 n a0 r h) 
def Di_DeskOk_9(n:Nat)(a0:Dk8):Option Bool :=
 (Di_SolidOk n a0.1.2.2.2.2.2.2.2).bind fun v18=>frk (!v18) (some false) (frk (!a0.2.2.2.2.2.2.2.2) ((Di_SameTree n a0.1.2.2.2.2.2.2.2 (Sol.mk false (Pl.mk 0 0 0 0) [])).bind fun v19=>Di_DeskOk_7 n a0 (!v19)) (Di_DeskOk_8 n a0))
theorem Ti_DeskOk_9{Y}(n:Nat)(a0:Dk8)(r:Bool)(h:Di_DeskOk_9 n a0=some r):WT Y 24 [.code (cp [1,0,1,0] B24),.blk 0,.code (cp [1,1] B24)] (FT Tryz.f24 [] (bl r) []) ⟨[(1,.ptr 1 0),(6,.agg [bl a0.1.1.inn,iN a0.1.1.pl.A,iN a0.1.1.pl.B,iN a0.1.1.pl.C,iN a0.1.1.pl.D,.sl false 6 a0.1.1.kids.length ((eSol false).f a0.1.1.kids),bl a0.1.2.1.inn,iN a0.1.2.1.pl.A,iN a0.1.2.1.pl.B,iN a0.1.2.1.pl.C,iN a0.1.2.1.pl.D,.sl false 6 a0.1.2.1.kids.length ((eSol false).f a0.1.2.1.kids),bl a0.1.2.2.1.inn,iN a0.1.2.2.1.pl.A,iN a0.1.2.2.1.pl.B,iN a0.1.2.2.1.pl.C,iN a0.1.2.2.1.pl.D,.sl false 6 a0.1.2.2.1.kids.length ((eSol false).f a0.1.2.2.1.kids),bl a0.1.2.2.2.1.inn,iN a0.1.2.2.2.1.pl.A,iN a0.1.2.2.2.1.pl.B,iN a0.1.2.2.2.1.pl.C,iN a0.1.2.2.2.1.pl.D,.sl false 6 a0.1.2.2.2.1.kids.length ((eSol false).f a0.1.2.2.2.1.kids),bl a0.1.2.2.2.2.1.inn,iN a0.1.2.2.2.2.1.pl.A,iN a0.1.2.2.2.2.1.pl.B,iN a0.1.2.2.2.2.1.pl.C,iN a0.1.2.2.2.2.1.pl.D,.sl false 6 a0.1.2.2.2.2.1.kids.length ((eSol false).f a0.1.2.2.2.2.1.kids),bl a0.1.2.2.2.2.2.1.inn,iN a0.1.2.2.2.2.2.1.pl.A,iN a0.1.2.2.2.2.2.1.pl.B,iN a0.1.2.2.2.2.2.1.pl.C,iN a0.1.2.2.2.2.2.1.pl.D,.sl false 6 a0.1.2.2.2.2.2.1.kids.length ((eSol false).f a0.1.2.2.2.2.2.1.kids),bl a0.1.2.2.2.2.2.2.1.inn,iN a0.1.2.2.2.2.2.2.1.pl.A,iN a0.1.2.2.2.2.2.2.1.pl.B,iN a0.1.2.2.2.2.2.2.1.pl.C,iN a0.1.2.2.2.2.2.2.1.pl.D,.sl false 6 a0.1.2.2.2.2.2.2.1.kids.length ((eSol false).f a0.1.2.2.2.2.2.2.1.kids),bl a0.1.2.2.2.2.2.2.2.inn,iN a0.1.2.2.2.2.2.2.2.pl.A,iN a0.1.2.2.2.2.2.2.2.pl.B,iN a0.1.2.2.2.2.2.2.2.pl.C,iN a0.1.2.2.2.2.2.2.2.pl.D,.sl false 6 a0.1.2.2.2.2.2.2.2.kids.length ((eSol false).f a0.1.2.2.2.2.2.2.2.kids)]),(7,iN 7)],[(1,⟨true,0,(cT52 a0)⟩)]⟩:=by
 unfold Di_DeskOk_9 at h
 obtain⟨v18,y18,h⟩:=bm h
 refine x_frk 24 [(7,.call [] [] (bl v18) [])] (oI (Ti_SolidOk (Y:=Y) n a0.1.2.2.2.2.2.2.2 _ y18)) h (fun h=>?_) (fun h=>?_)
 ·obtain rfl:=sj h
  exact x_end 18 [] [] oN oN 
 ·refine x_frk 6 [] oN h (fun h=>?_) (fun h=>?_)
  ·obtain⟨v19,y19,h⟩:=bm h
   exact x_to 7 [(2,.call [(false,6)] [] (bl v19) [])] (oI (Ti_SameTree (Y:=Y) n a0.1.2.2.2.2.2.2.2 (Sol.mk false (Pl.mk 0 0 0 0) []) _ y19)) (Ti_DeskOk_7 n a0 (!v19) r h) 
  ·exact x_to 15 [] oN (Ti_DeskOk_8 n a0 r h) 
def Di_DeskOk_5(n:Nat)(a0:Dk8)(t26:Bool):Option Bool :=
 frk t26 (some false) ((Di_SolidOk n a0.1.2.2.2.2.2.2.1).bind fun v12=>frk (!v12) (some false) (frk (!a0.2.2.2.2.2.2.2.1) ((Di_SameTree n a0.1.2.2.2.2.2.2.1 (Sol.mk false (Pl.mk 0 0 0 0) [])).bind fun v13=>Di_DeskOk_6 n a0 (!v13)) (Di_DeskOk_9 n a0)))
theorem Ti_DeskOk_5{Y}(n:Nat)(a0:Dk8)(t26 r:Bool)(h:Di_DeskOk_5 n a0 t26=some r):WT Y 24 [.code (cp [1,0,1,0,0,1,1,0,0,1,1] B24),.blk 1,.code (cp [1,0,1,0,0,1,1,1] B24),.lp (cp [1,0,1,0] B24),.blk 0,.code (cp [1,1] B24)] (FT Tryz.f24 [] (bl r) []) ⟨[(1,.ptr 1 0),(6,.agg [bl a0.1.1.inn,iN a0.1.1.pl.A,iN a0.1.1.pl.B,iN a0.1.1.pl.C,iN a0.1.1.pl.D,.sl false 6 a0.1.1.kids.length ((eSol false).f a0.1.1.kids),bl a0.1.2.1.inn,iN a0.1.2.1.pl.A,iN a0.1.2.1.pl.B,iN a0.1.2.1.pl.C,iN a0.1.2.1.pl.D,.sl false 6 a0.1.2.1.kids.length ((eSol false).f a0.1.2.1.kids),bl a0.1.2.2.1.inn,iN a0.1.2.2.1.pl.A,iN a0.1.2.2.1.pl.B,iN a0.1.2.2.1.pl.C,iN a0.1.2.2.1.pl.D,.sl false 6 a0.1.2.2.1.kids.length ((eSol false).f a0.1.2.2.1.kids),bl a0.1.2.2.2.1.inn,iN a0.1.2.2.2.1.pl.A,iN a0.1.2.2.2.1.pl.B,iN a0.1.2.2.2.1.pl.C,iN a0.1.2.2.2.1.pl.D,.sl false 6 a0.1.2.2.2.1.kids.length ((eSol false).f a0.1.2.2.2.1.kids),bl a0.1.2.2.2.2.1.inn,iN a0.1.2.2.2.2.1.pl.A,iN a0.1.2.2.2.2.1.pl.B,iN a0.1.2.2.2.2.1.pl.C,iN a0.1.2.2.2.2.1.pl.D,.sl false 6 a0.1.2.2.2.2.1.kids.length ((eSol false).f a0.1.2.2.2.2.1.kids),bl a0.1.2.2.2.2.2.1.inn,iN a0.1.2.2.2.2.2.1.pl.A,iN a0.1.2.2.2.2.2.1.pl.B,iN a0.1.2.2.2.2.2.1.pl.C,iN a0.1.2.2.2.2.2.1.pl.D,.sl false 6 a0.1.2.2.2.2.2.1.kids.length ((eSol false).f a0.1.2.2.2.2.2.1.kids),bl a0.1.2.2.2.2.2.2.1.inn,iN a0.1.2.2.2.2.2.2.1.pl.A,iN a0.1.2.2.2.2.2.2.1.pl.B,iN a0.1.2.2.2.2.2.2.1.pl.C,iN a0.1.2.2.2.2.2.2.1.pl.D,.sl false 6 a0.1.2.2.2.2.2.2.1.kids.length ((eSol false).f a0.1.2.2.2.2.2.2.1.kids),bl a0.1.2.2.2.2.2.2.2.inn,iN a0.1.2.2.2.2.2.2.2.pl.A,iN a0.1.2.2.2.2.2.2.2.pl.B,iN a0.1.2.2.2.2.2.2.2.pl.C,iN a0.1.2.2.2.2.2.2.2.pl.D,.sl false 6 a0.1.2.2.2.2.2.2.2.kids.length ((eSol false).f a0.1.2.2.2.2.2.2.2.kids)]),(7,iN 5),(26,bl t26)],[(1,⟨true,0,(cT52 a0)⟩)]⟩:=by
 unfold Di_DeskOk_5 at h
 refine x_frk 0 [] oN h (fun h=>?_) (fun h=>?_)
 ·obtain rfl:=sj h
  exact x_end 4 [] [] oN oN 
 ·obtain⟨v12,y12,h⟩:=bm h
  refine x_frk 31 [(9,.call [] [] (bl v12) [])] (oI (Ti_SolidOk (Y:=Y) n a0.1.2.2.2.2.2.2.1 _ y12)) h (fun h=>?_) (fun h=>?_)
  ·obtain rfl:=sj h
   exact x_end 18 [] [] oN oN 
  ·refine x_frk 6 [] oN h (fun h=>?_) (fun h=>?_)
   ·obtain⟨v13,y13,h⟩:=bm h
    exact x_to 7 [(2,.call [(false,6)] [] (bl v13) [])] (oI (Ti_SameTree (Y:=Y) n a0.1.2.2.2.2.2.2.1 (Sol.mk false (Pl.mk 0 0 0 0) []) _ y13)) (Ti_DeskOk_6 n a0 (!v13) r h) 
   ·exact x_to 15 [] oN (Ti_DeskOk_9 n a0 r h) 
def Di_DeskOk_10(n:Nat)(a0:Dk8):Option Bool :=
 (Di_SolidOk n a0.1.2.2.2.2.2.2.1).bind fun v20=>frk (!v20) (some false) (frk (!a0.2.2.2.2.2.2.2.1) ((Di_SameTree n a0.1.2.2.2.2.2.2.1 (Sol.mk false (Pl.mk 0 0 0 0) [])).bind fun v21=>Di_DeskOk_6 n a0 (!v21)) (Di_DeskOk_9 n a0))
theorem Ti_DeskOk_10{Y}(n:Nat)(a0:Dk8)(r:Bool)(h:Di_DeskOk_10 n a0=some r):WT Y 24 [.code (cp [1,0,1,0] B24),.blk 0,.code (cp [1,1] B24)] (FT Tryz.f24 [] (bl r) []) ⟨[(1,.ptr 1 0),(6,.agg [bl a0.1.1.inn,iN a0.1.1.pl.A,iN a0.1.1.pl.B,iN a0.1.1.pl.C,iN a0.1.1.pl.D,.sl false 6 a0.1.1.kids.length ((eSol false).f a0.1.1.kids),bl a0.1.2.1.inn,iN a0.1.2.1.pl.A,iN a0.1.2.1.pl.B,iN a0.1.2.1.pl.C,iN a0.1.2.1.pl.D,.sl false 6 a0.1.2.1.kids.length ((eSol false).f a0.1.2.1.kids),bl a0.1.2.2.1.inn,iN a0.1.2.2.1.pl.A,iN a0.1.2.2.1.pl.B,iN a0.1.2.2.1.pl.C,iN a0.1.2.2.1.pl.D,.sl false 6 a0.1.2.2.1.kids.length ((eSol false).f a0.1.2.2.1.kids),bl a0.1.2.2.2.1.inn,iN a0.1.2.2.2.1.pl.A,iN a0.1.2.2.2.1.pl.B,iN a0.1.2.2.2.1.pl.C,iN a0.1.2.2.2.1.pl.D,.sl false 6 a0.1.2.2.2.1.kids.length ((eSol false).f a0.1.2.2.2.1.kids),bl a0.1.2.2.2.2.1.inn,iN a0.1.2.2.2.2.1.pl.A,iN a0.1.2.2.2.2.1.pl.B,iN a0.1.2.2.2.2.1.pl.C,iN a0.1.2.2.2.2.1.pl.D,.sl false 6 a0.1.2.2.2.2.1.kids.length ((eSol false).f a0.1.2.2.2.2.1.kids),bl a0.1.2.2.2.2.2.1.inn,iN a0.1.2.2.2.2.2.1.pl.A,iN a0.1.2.2.2.2.2.1.pl.B,iN a0.1.2.2.2.2.2.1.pl.C,iN a0.1.2.2.2.2.2.1.pl.D,.sl false 6 a0.1.2.2.2.2.2.1.kids.length ((eSol false).f a0.1.2.2.2.2.2.1.kids),bl a0.1.2.2.2.2.2.2.1.inn,iN a0.1.2.2.2.2.2.2.1.pl.A,iN a0.1.2.2.2.2.2.2.1.pl.B,iN a0.1.2.2.2.2.2.2.1.pl.C,iN a0.1.2.2.2.2.2.2.1.pl.D,.sl false 6 a0.1.2.2.2.2.2.2.1.kids.length ((eSol false).f a0.1.2.2.2.2.2.2.1.kids),bl a0.1.2.2.2.2.2.2.2.inn,iN a0.1.2.2.2.2.2.2.2.pl.A,iN a0.1.2.2.2.2.2.2.2.pl.B,iN a0.1.2.2.2.2.2.2.2.pl.C,iN a0.1.2.2.2.2.2.2.2.pl.D,.sl false 6 a0.1.2.2.2.2.2.2.2.kids.length ((eSol false).f a0.1.2.2.2.2.2.2.2.kids)]),(7,iN 6)],[(1,⟨true,0,(cT52 a0)⟩)]⟩:=by
 unfold Di_DeskOk_10 at h
 obtain⟨v20,y20,h⟩:=bm h
 refine x_frk 24 [(7,.call [] [] (bl v20) [])] (oI (Ti_SolidOk (Y:=Y) n a0.1.2.2.2.2.2.2.1 _ y20)) h (fun h=>?_) (fun h=>?_)
 ·obtain rfl:=sj h
  exact x_end 18 [] [] oN oN 
 ·refine x_frk 6 [] oN h (fun h=>?_) (fun h=>?_)
  ·obtain⟨v21,y21,h⟩:=bm h
   exact x_to 7 [(2,.call [(false,6)] [] (bl v21) [])] (oI (Ti_SameTree (Y:=Y) n a0.1.2.2.2.2.2.2.1 (Sol.mk false (Pl.mk 0 0 0 0) []) _ y21)) (Ti_DeskOk_6 n a0 (!v21) r h) 
  ·exact x_to 15 [] oN (Ti_DeskOk_9 n a0 r h) 
def Di_DeskOk_4(n:Nat)(a0:Dk8)(t26:Bool):Option Bool :=
 frk t26 (some false) ((Di_SolidOk n a0.1.2.2.2.2.2.1).bind fun v10=>frk (!v10) (some false) (frk (!a0.2.2.2.2.2.2.1) ((Di_SameTree n a0.1.2.2.2.2.2.1 (Sol.mk false (Pl.mk 0 0 0 0) [])).bind fun v11=>Di_DeskOk_5 n a0 (!v11)) (Di_DeskOk_10 n a0)))
theorem Ti_DeskOk_4{Y}(n:Nat)(a0:Dk8)(t26 r:Bool)(h:Di_DeskOk_4 n a0 t26=some r):WT Y 24 [.code (cp [1,0,1,0,0,1,1,0,0,1,1] B24),.blk 1,.code (cp [1,0,1,0,0,1,1,1] B24),.lp (cp [1,0,1,0] B24),.blk 0,.code (cp [1,1] B24)] (FT Tryz.f24 [] (bl r) []) ⟨[(1,.ptr 1 0),(6,.agg [bl a0.1.1.inn,iN a0.1.1.pl.A,iN a0.1.1.pl.B,iN a0.1.1.pl.C,iN a0.1.1.pl.D,.sl false 6 a0.1.1.kids.length ((eSol false).f a0.1.1.kids),bl a0.1.2.1.inn,iN a0.1.2.1.pl.A,iN a0.1.2.1.pl.B,iN a0.1.2.1.pl.C,iN a0.1.2.1.pl.D,.sl false 6 a0.1.2.1.kids.length ((eSol false).f a0.1.2.1.kids),bl a0.1.2.2.1.inn,iN a0.1.2.2.1.pl.A,iN a0.1.2.2.1.pl.B,iN a0.1.2.2.1.pl.C,iN a0.1.2.2.1.pl.D,.sl false 6 a0.1.2.2.1.kids.length ((eSol false).f a0.1.2.2.1.kids),bl a0.1.2.2.2.1.inn,iN a0.1.2.2.2.1.pl.A,iN a0.1.2.2.2.1.pl.B,iN a0.1.2.2.2.1.pl.C,iN a0.1.2.2.2.1.pl.D,.sl false 6 a0.1.2.2.2.1.kids.length ((eSol false).f a0.1.2.2.2.1.kids),bl a0.1.2.2.2.2.1.inn,iN a0.1.2.2.2.2.1.pl.A,iN a0.1.2.2.2.2.1.pl.B,iN a0.1.2.2.2.2.1.pl.C,iN a0.1.2.2.2.2.1.pl.D,.sl false 6 a0.1.2.2.2.2.1.kids.length ((eSol false).f a0.1.2.2.2.2.1.kids),bl a0.1.2.2.2.2.2.1.inn,iN a0.1.2.2.2.2.2.1.pl.A,iN a0.1.2.2.2.2.2.1.pl.B,iN a0.1.2.2.2.2.2.1.pl.C,iN a0.1.2.2.2.2.2.1.pl.D,.sl false 6 a0.1.2.2.2.2.2.1.kids.length ((eSol false).f a0.1.2.2.2.2.2.1.kids),bl a0.1.2.2.2.2.2.2.1.inn,iN a0.1.2.2.2.2.2.2.1.pl.A,iN a0.1.2.2.2.2.2.2.1.pl.B,iN a0.1.2.2.2.2.2.2.1.pl.C,iN a0.1.2.2.2.2.2.2.1.pl.D,.sl false 6 a0.1.2.2.2.2.2.2.1.kids.length ((eSol false).f a0.1.2.2.2.2.2.2.1.kids),bl a0.1.2.2.2.2.2.2.2.inn,iN a0.1.2.2.2.2.2.2.2.pl.A,iN a0.1.2.2.2.2.2.2.2.pl.B,iN a0.1.2.2.2.2.2.2.2.pl.C,iN a0.1.2.2.2.2.2.2.2.pl.D,.sl false 6 a0.1.2.2.2.2.2.2.2.kids.length ((eSol false).f a0.1.2.2.2.2.2.2.2.kids)]),(7,iN 4),(26,bl t26)],[(1,⟨true,0,(cT52 a0)⟩)]⟩:=by
 unfold Di_DeskOk_4 at h
 refine x_frk 0 [] oN h (fun h=>?_) (fun h=>?_)
 ·obtain rfl:=sj h
  exact x_end 4 [] [] oN oN 
 ·obtain⟨v10,y10,h⟩:=bm h
  refine x_frk 31 [(9,.call [] [] (bl v10) [])] (oI (Ti_SolidOk (Y:=Y) n a0.1.2.2.2.2.2.1 _ y10)) h (fun h=>?_) (fun h=>?_)
  ·obtain rfl:=sj h
   exact x_end 18 [] [] oN oN 
  ·refine x_frk 6 [] oN h (fun h=>?_) (fun h=>?_)
   ·obtain⟨v11,y11,h⟩:=bm h
    exact x_to 7 [(2,.call [(false,6)] [] (bl v11) [])] (oI (Ti_SameTree (Y:=Y) n a0.1.2.2.2.2.2.1 (Sol.mk false (Pl.mk 0 0 0 0) []) _ y11)) (Ti_DeskOk_5 n a0 (!v11) r h) 
   ·exact x_to 15 [] oN (Ti_DeskOk_10 n a0 r h) 
def Di_DeskOk_11(n:Nat)(a0:Dk8):Option Bool :=
 (Di_SolidOk n a0.1.2.2.2.2.2.1).bind fun v22=>frk (!v22) (some false) (frk (!a0.2.2.2.2.2.2.1) ((Di_SameTree n a0.1.2.2.2.2.2.1 (Sol.mk false (Pl.mk 0 0 0 0) [])).bind fun v23=>Di_DeskOk_5 n a0 (!v23)) (Di_DeskOk_10 n a0))
theorem Ti_DeskOk_11{Y}(n:Nat)(a0:Dk8)(r:Bool)(h:Di_DeskOk_11 n a0=some r):WT Y 24 [.code (cp [1,0,1,0] B24),.blk 0,.code (cp [1,1] B24)] (FT Tryz.f24 [] (bl r) []) ⟨[(1,.ptr 1 0),(6,.agg [bl a0.1.1.inn,iN a0.1.1.pl.A,iN a0.1.1.pl.B,iN a0.1.1.pl.C,iN a0.1.1.pl.D,.sl false 6 a0.1.1.kids.length ((eSol false).f a0.1.1.kids),bl a0.1.2.1.inn,iN a0.1.2.1.pl.A,iN a0.1.2.1.pl.B,iN a0.1.2.1.pl.C,iN a0.1.2.1.pl.D,.sl false 6 a0.1.2.1.kids.length ((eSol false).f a0.1.2.1.kids),bl a0.1.2.2.1.inn,iN a0.1.2.2.1.pl.A,iN a0.1.2.2.1.pl.B,iN a0.1.2.2.1.pl.C,iN a0.1.2.2.1.pl.D,.sl false 6 a0.1.2.2.1.kids.length ((eSol false).f a0.1.2.2.1.kids),bl a0.1.2.2.2.1.inn,iN a0.1.2.2.2.1.pl.A,iN a0.1.2.2.2.1.pl.B,iN a0.1.2.2.2.1.pl.C,iN a0.1.2.2.2.1.pl.D,.sl false 6 a0.1.2.2.2.1.kids.length ((eSol false).f a0.1.2.2.2.1.kids),bl a0.1.2.2.2.2.1.inn,iN a0.1.2.2.2.2.1.pl.A,iN a0.1.2.2.2.2.1.pl.B,iN a0.1.2.2.2.2.1.pl.C,iN a0.1.2.2.2.2.1.pl.D,.sl false 6 a0.1.2.2.2.2.1.kids.length ((eSol false).f a0.1.2.2.2.2.1.kids),bl a0.1.2.2.2.2.2.1.inn,iN a0.1.2.2.2.2.2.1.pl.A,iN a0.1.2.2.2.2.2.1.pl.B,iN a0.1.2.2.2.2.2.1.pl.C,iN a0.1.2.2.2.2.2.1.pl.D,.sl false 6 a0.1.2.2.2.2.2.1.kids.length ((eSol false).f a0.1.2.2.2.2.2.1.kids),bl a0.1.2.2.2.2.2.2.1.inn,iN a0.1.2.2.2.2.2.2.1.pl.A,iN a0.1.2.2.2.2.2.2.1.pl.B,iN a0.1.2.2.2.2.2.2.1.pl.C,iN a0.1.2.2.2.2.2.2.1.pl.D,.sl false 6 a0.1.2.2.2.2.2.2.1.kids.length ((eSol false).f a0.1.2.2.2.2.2.2.1.kids),bl a0.1.2.2.2.2.2.2.2.inn,iN a0.1.2.2.2.2.2.2.2.pl.A,iN a0.1.2.2.2.2.2.2.2.pl.B,iN a0.1.2.2.2.2.2.2.2.pl.C,iN a0.1.2.2.2.2.2.2.2.pl.D,.sl false 6 a0.1.2.2.2.2.2.2.2.kids.length ((eSol false).f a0.1.2.2.2.2.2.2.2.kids)]),(7,iN 5)],[(1,⟨true,0,(cT52 a0)⟩)]⟩:=by
 unfold Di_DeskOk_11 at h
 obtain⟨v22,y22,h⟩:=bm h
 refine x_frk 24 [(7,.call [] [] (bl v22) [])] (oI (Ti_SolidOk (Y:=Y) n a0.1.2.2.2.2.2.1 _ y22)) h (fun h=>?_) (fun h=>?_)
 ·obtain rfl:=sj h
  exact x_end 18 [] [] oN oN 
 ·refine x_frk 6 [] oN h (fun h=>?_) (fun h=>?_)
  ·obtain⟨v23,y23,h⟩:=bm h
   exact x_to 7 [(2,.call [(false,6)] [] (bl v23) [])] (oI (Ti_SameTree (Y:=Y) n a0.1.2.2.2.2.2.1 (Sol.mk false (Pl.mk 0 0 0 0) []) _ y23)) (Ti_DeskOk_5 n a0 (!v23) r h) 
  ·exact x_to 15 [] oN (Ti_DeskOk_10 n a0 r h) 
def Di_DeskOk_3(n:Nat)(a0:Dk8)(t26:Bool):Option Bool :=
 frk t26 (some false) ((Di_SolidOk n a0.1.2.2.2.2.1).bind fun v8=>frk (!v8) (some false) (frk (!a0.2.2.2.2.2.1) ((Di_SameTree n a0.1.2.2.2.2.1 (Sol.mk false (Pl.mk 0 0 0 0) [])).bind fun v9=>Di_DeskOk_4 n a0 (!v9)) (Di_DeskOk_11 n a0)))
theorem Ti_DeskOk_3{Y}(n:Nat)(a0:Dk8)(t26 r:Bool)(h:Di_DeskOk_3 n a0 t26=some r):WT Y 24 [.code (cp [1,0,1,0,0,1,1,0,0,1,1] B24),.blk 1,.code (cp [1,0,1,0,0,1,1,1] B24),.lp (cp [1,0,1,0] B24),.blk 0,.code (cp [1,1] B24)] (FT Tryz.f24 [] (bl r) []) ⟨[(1,.ptr 1 0),(6,.agg [bl a0.1.1.inn,iN a0.1.1.pl.A,iN a0.1.1.pl.B,iN a0.1.1.pl.C,iN a0.1.1.pl.D,.sl false 6 a0.1.1.kids.length ((eSol false).f a0.1.1.kids),bl a0.1.2.1.inn,iN a0.1.2.1.pl.A,iN a0.1.2.1.pl.B,iN a0.1.2.1.pl.C,iN a0.1.2.1.pl.D,.sl false 6 a0.1.2.1.kids.length ((eSol false).f a0.1.2.1.kids),bl a0.1.2.2.1.inn,iN a0.1.2.2.1.pl.A,iN a0.1.2.2.1.pl.B,iN a0.1.2.2.1.pl.C,iN a0.1.2.2.1.pl.D,.sl false 6 a0.1.2.2.1.kids.length ((eSol false).f a0.1.2.2.1.kids),bl a0.1.2.2.2.1.inn,iN a0.1.2.2.2.1.pl.A,iN a0.1.2.2.2.1.pl.B,iN a0.1.2.2.2.1.pl.C,iN a0.1.2.2.2.1.pl.D,.sl false 6 a0.1.2.2.2.1.kids.length ((eSol false).f a0.1.2.2.2.1.kids),bl a0.1.2.2.2.2.1.inn,iN a0.1.2.2.2.2.1.pl.A,iN a0.1.2.2.2.2.1.pl.B,iN a0.1.2.2.2.2.1.pl.C,iN a0.1.2.2.2.2.1.pl.D,.sl false 6 a0.1.2.2.2.2.1.kids.length ((eSol false).f a0.1.2.2.2.2.1.kids),bl a0.1.2.2.2.2.2.1.inn,iN a0.1.2.2.2.2.2.1.pl.A,iN a0.1.2.2.2.2.2.1.pl.B,iN a0.1.2.2.2.2.2.1.pl.C,iN a0.1.2.2.2.2.2.1.pl.D,.sl false 6 a0.1.2.2.2.2.2.1.kids.length ((eSol false).f a0.1.2.2.2.2.2.1.kids),bl a0.1.2.2.2.2.2.2.1.inn,iN a0.1.2.2.2.2.2.2.1.pl.A,iN a0.1.2.2.2.2.2.2.1.pl.B,iN a0.1.2.2.2.2.2.2.1.pl.C,iN a0.1.2.2.2.2.2.2.1.pl.D,.sl false 6 a0.1.2.2.2.2.2.2.1.kids.length ((eSol false).f a0.1.2.2.2.2.2.2.1.kids),bl a0.1.2.2.2.2.2.2.2.inn,iN a0.1.2.2.2.2.2.2.2.pl.A,iN a0.1.2.2.2.2.2.2.2.pl.B,iN a0.1.2.2.2.2.2.2.2.pl.C,iN a0.1.2.2.2.2.2.2.2.pl.D,.sl false 6 a0.1.2.2.2.2.2.2.2.kids.length ((eSol false).f a0.1.2.2.2.2.2.2.2.kids)]),(7,iN 3),(26,bl t26)],[(1,⟨true,0,(cT52 a0)⟩)]⟩:=by
 unfold Di_DeskOk_3 at h
 refine x_frk 0 [] oN h (fun h=>?_) (fun h=>?_)
 ·obtain rfl:=sj h
  exact x_end 4 [] [] oN oN 
 ·obtain⟨v8,y8,h⟩:=bm h
  refine x_frk 31 [(9,.call [] [] (bl v8) [])] (oI (Ti_SolidOk (Y:=Y) n a0.1.2.2.2.2.1 _ y8)) h (fun h=>?_) (fun h=>?_)
  ·obtain rfl:=sj h
   exact x_end 18 [] [] oN oN 
  ·refine x_frk 6 [] oN h (fun h=>?_) (fun h=>?_)
   ·obtain⟨v9,y9,h⟩:=bm h
    exact x_to 7 [(2,.call [(false,6)] [] (bl v9) [])] (oI (Ti_SameTree (Y:=Y) n a0.1.2.2.2.2.1 (Sol.mk false (Pl.mk 0 0 0 0) []) _ y9)) (Ti_DeskOk_4 n a0 (!v9) r h) 
   ·exact x_to 15 [] oN (Ti_DeskOk_11 n a0 r h) 
def Di_DeskOk_12(n:Nat)(a0:Dk8):Option Bool :=
 (Di_SolidOk n a0.1.2.2.2.2.1).bind fun v24=>frk (!v24) (some false) (frk (!a0.2.2.2.2.2.1) ((Di_SameTree n a0.1.2.2.2.2.1 (Sol.mk false (Pl.mk 0 0 0 0) [])).bind fun v25=>Di_DeskOk_4 n a0 (!v25)) (Di_DeskOk_11 n a0))
theorem Ti_DeskOk_12{Y}(n:Nat)(a0:Dk8)(r:Bool)(h:Di_DeskOk_12 n a0=some r):WT Y 24 [.code (cp [1,0,1,0] B24),.blk 0,.code (cp [1,1] B24)] (FT Tryz.f24 [] (bl r) []) ⟨[(1,.ptr 1 0),(6,.agg [bl a0.1.1.inn,iN a0.1.1.pl.A,iN a0.1.1.pl.B,iN a0.1.1.pl.C,iN a0.1.1.pl.D,.sl false 6 a0.1.1.kids.length ((eSol false).f a0.1.1.kids),bl a0.1.2.1.inn,iN a0.1.2.1.pl.A,iN a0.1.2.1.pl.B,iN a0.1.2.1.pl.C,iN a0.1.2.1.pl.D,.sl false 6 a0.1.2.1.kids.length ((eSol false).f a0.1.2.1.kids),bl a0.1.2.2.1.inn,iN a0.1.2.2.1.pl.A,iN a0.1.2.2.1.pl.B,iN a0.1.2.2.1.pl.C,iN a0.1.2.2.1.pl.D,.sl false 6 a0.1.2.2.1.kids.length ((eSol false).f a0.1.2.2.1.kids),bl a0.1.2.2.2.1.inn,iN a0.1.2.2.2.1.pl.A,iN a0.1.2.2.2.1.pl.B,iN a0.1.2.2.2.1.pl.C,iN a0.1.2.2.2.1.pl.D,.sl false 6 a0.1.2.2.2.1.kids.length ((eSol false).f a0.1.2.2.2.1.kids),bl a0.1.2.2.2.2.1.inn,iN a0.1.2.2.2.2.1.pl.A,iN a0.1.2.2.2.2.1.pl.B,iN a0.1.2.2.2.2.1.pl.C,iN a0.1.2.2.2.2.1.pl.D,.sl false 6 a0.1.2.2.2.2.1.kids.length ((eSol false).f a0.1.2.2.2.2.1.kids),bl a0.1.2.2.2.2.2.1.inn,iN a0.1.2.2.2.2.2.1.pl.A,iN a0.1.2.2.2.2.2.1.pl.B,iN a0.1.2.2.2.2.2.1.pl.C,iN a0.1.2.2.2.2.2.1.pl.D,.sl false 6 a0.1.2.2.2.2.2.1.kids.length ((eSol false).f a0.1.2.2.2.2.2.1.kids),bl a0.1.2.2.2.2.2.2.1.inn,iN a0.1.2.2.2.2.2.2.1.pl.A,iN a0.1.2.2.2.2.2.2.1.pl.B,iN a0.1.2.2.2.2.2.2.1.pl.C,iN a0.1.2.2.2.2.2.2.1.pl.D,.sl false 6 a0.1.2.2.2.2.2.2.1.kids.length ((eSol false).f a0.1.2.2.2.2.2.2.1.kids),bl a0.1.2.2.2.2.2.2.2.inn,iN a0.1.2.2.2.2.2.2.2.pl.A,iN a0.1.2.2.2.2.2.2.2.pl.B,iN a0.1.2.2.2.2.2.2.2.pl.C,iN a0.1.2.2.2.2.2.2.2.pl.D,.sl false 6 a0.1.2.2.2.2.2.2.2.kids.length ((eSol false).f a0.1.2.2.2.2.2.2.2.kids)]),(7,iN 4)],[(1,⟨true,0,(cT52 a0)⟩)]⟩:=by
 unfold Di_DeskOk_12 at h
 obtain⟨v24,y24,h⟩:=bm h
 refine x_frk 24 [(7,.call [] [] (bl v24) [])] (oI (Ti_SolidOk (Y:=Y) n a0.1.2.2.2.2.1 _ y24)) h (fun h=>?_) (fun h=>?_)
 ·obtain rfl:=sj h
  exact x_end 18 [] [] oN oN 
 ·refine x_frk 6 [] oN h (fun h=>?_) (fun h=>?_)
  ·obtain⟨v25,y25,h⟩:=bm h
   exact x_to 7 [(2,.call [(false,6)] [] (bl v25) [])] (oI (Ti_SameTree (Y:=Y) n a0.1.2.2.2.2.1 (Sol.mk false (Pl.mk 0 0 0 0) []) _ y25)) (Ti_DeskOk_4 n a0 (!v25) r h) 
  ·exact x_to 15 [] oN (Ti_DeskOk_11 n a0 r h) 
def Di_DeskOk_2(n:Nat)(a0:Dk8)(t26:Bool):Option Bool :=
 frk t26 (some false) ((Di_SolidOk n a0.1.2.2.2.1).bind fun v6=>frk (!v6) (some false) (frk (!a0.2.2.2.2.1) ((Di_SameTree n a0.1.2.2.2.1 (Sol.mk false (Pl.mk 0 0 0 0) [])).bind fun v7=>Di_DeskOk_3 n a0 (!v7)) (Di_DeskOk_12 n a0)))
theorem Ti_DeskOk_2{Y}(n:Nat)(a0:Dk8)(t26 r:Bool)(h:Di_DeskOk_2 n a0 t26=some r):WT Y 24 [.code (cp [1,0,1,0,0,1,1,0,0,1,1] B24),.blk 1,.code (cp [1,0,1,0,0,1,1,1] B24),.lp (cp [1,0,1,0] B24),.blk 0,.code (cp [1,1] B24)] (FT Tryz.f24 [] (bl r) []) ⟨[(1,.ptr 1 0),(6,.agg [bl a0.1.1.inn,iN a0.1.1.pl.A,iN a0.1.1.pl.B,iN a0.1.1.pl.C,iN a0.1.1.pl.D,.sl false 6 a0.1.1.kids.length ((eSol false).f a0.1.1.kids),bl a0.1.2.1.inn,iN a0.1.2.1.pl.A,iN a0.1.2.1.pl.B,iN a0.1.2.1.pl.C,iN a0.1.2.1.pl.D,.sl false 6 a0.1.2.1.kids.length ((eSol false).f a0.1.2.1.kids),bl a0.1.2.2.1.inn,iN a0.1.2.2.1.pl.A,iN a0.1.2.2.1.pl.B,iN a0.1.2.2.1.pl.C,iN a0.1.2.2.1.pl.D,.sl false 6 a0.1.2.2.1.kids.length ((eSol false).f a0.1.2.2.1.kids),bl a0.1.2.2.2.1.inn,iN a0.1.2.2.2.1.pl.A,iN a0.1.2.2.2.1.pl.B,iN a0.1.2.2.2.1.pl.C,iN a0.1.2.2.2.1.pl.D,.sl false 6 a0.1.2.2.2.1.kids.length ((eSol false).f a0.1.2.2.2.1.kids),bl a0.1.2.2.2.2.1.inn,iN a0.1.2.2.2.2.1.pl.A,iN a0.1.2.2.2.2.1.pl.B,iN a0.1.2.2.2.2.1.pl.C,iN a0.1.2.2.2.2.1.pl.D,.sl false 6 a0.1.2.2.2.2.1.kids.length ((eSol false).f a0.1.2.2.2.2.1.kids),bl a0.1.2.2.2.2.2.1.inn,iN a0.1.2.2.2.2.2.1.pl.A,iN a0.1.2.2.2.2.2.1.pl.B,iN a0.1.2.2.2.2.2.1.pl.C,iN a0.1.2.2.2.2.2.1.pl.D,.sl false 6 a0.1.2.2.2.2.2.1.kids.length ((eSol false).f a0.1.2.2.2.2.2.1.kids),bl a0.1.2.2.2.2.2.2.1.inn,iN a0.1.2.2.2.2.2.2.1.pl.A,iN a0.1.2.2.2.2.2.2.1.pl.B,iN a0.1.2.2.2.2.2.2.1.pl.C,iN a0.1.2.2.2.2.2.2.1.pl.D,.sl false 6 a0.1.2.2.2.2.2.2.1.kids.length ((eSol false).f a0.1.2.2.2.2.2.2.1.kids),bl a0.1.2.2.2.2.2.2.2.inn,iN a0.1.2.2.2.2.2.2.2.pl.A,iN a0.1.2.2.2.2.2.2.2.pl.B,iN a0.1.2.2.2.2.2.2.2.pl.C,iN a0.1.2.2.2.2.2.2.2.pl.D,.sl false 6 a0.1.2.2.2.2.2.2.2.kids.length ((eSol false).f a0.1.2.2.2.2.2.2.2.kids)]),(7,iN 2),(26,bl t26)],[(1,⟨true,0,(cT52 a0)⟩)]⟩:=by
 unfold Di_DeskOk_2 at h
 refine x_frk 0 [] oN h (fun h=>?_) (fun h=>?_)
 ·obtain rfl:=sj h
  exact x_end 4 [] [] oN oN 
 ·obtain⟨v6,y6,h⟩:=bm h
  refine x_frk 31 [(9,.call [] [] (bl v6) [])] (oI (Ti_SolidOk (Y:=Y) n a0.1.2.2.2.1 _ y6)) h (fun h=>?_) (fun h=>?_)
  ·obtain rfl:=sj h
   exact x_end 18 [] [] oN oN 
  ·refine x_frk 6 [] oN h (fun h=>?_) (fun h=>?_)
   ·obtain⟨v7,y7,h⟩:=bm h
    exact x_to 7 [(2,.call [(false,6)] [] (bl v7) [])] (oI (Ti_SameTree (Y:=Y) n a0.1.2.2.2.1 (Sol.mk false (Pl.mk 0 0 0 0) []) _ y7)) (Ti_DeskOk_3 n a0 (!v7) r h) 
   ·exact x_to 15 [] oN (Ti_DeskOk_12 n a0 r h) 
def Di_DeskOk_13(n:Nat)(a0:Dk8):Option Bool :=
 (Di_SolidOk n a0.1.2.2.2.1).bind fun v26=>frk (!v26) (some false) (frk (!a0.2.2.2.2.1) ((Di_SameTree n a0.1.2.2.2.1 (Sol.mk false (Pl.mk 0 0 0 0) [])).bind fun v27=>Di_DeskOk_3 n a0 (!v27)) (Di_DeskOk_12 n a0))
theorem Ti_DeskOk_13{Y}(n:Nat)(a0:Dk8)(r:Bool)(h:Di_DeskOk_13 n a0=some r):WT Y 24 [.code (cp [1,0,1,0] B24),.blk 0,.code (cp [1,1] B24)] (FT Tryz.f24 [] (bl r) []) ⟨[(1,.ptr 1 0),(6,.agg [bl a0.1.1.inn,iN a0.1.1.pl.A,iN a0.1.1.pl.B,iN a0.1.1.pl.C,iN a0.1.1.pl.D,.sl false 6 a0.1.1.kids.length ((eSol false).f a0.1.1.kids),bl a0.1.2.1.inn,iN a0.1.2.1.pl.A,iN a0.1.2.1.pl.B,iN a0.1.2.1.pl.C,iN a0.1.2.1.pl.D,.sl false 6 a0.1.2.1.kids.length ((eSol false).f a0.1.2.1.kids),bl a0.1.2.2.1.inn,iN a0.1.2.2.1.pl.A,iN a0.1.2.2.1.pl.B,iN a0.1.2.2.1.pl.C,iN a0.1.2.2.1.pl.D,.sl false 6 a0.1.2.2.1.kids.length ((eSol false).f a0.1.2.2.1.kids),bl a0.1.2.2.2.1.inn,iN a0.1.2.2.2.1.pl.A,iN a0.1.2.2.2.1.pl.B,iN a0.1.2.2.2.1.pl.C,iN a0.1.2.2.2.1.pl.D,.sl false 6 a0.1.2.2.2.1.kids.length ((eSol false).f a0.1.2.2.2.1.kids),bl a0.1.2.2.2.2.1.inn,iN a0.1.2.2.2.2.1.pl.A,iN a0.1.2.2.2.2.1.pl.B,iN a0.1.2.2.2.2.1.pl.C,iN a0.1.2.2.2.2.1.pl.D,.sl false 6 a0.1.2.2.2.2.1.kids.length ((eSol false).f a0.1.2.2.2.2.1.kids),bl a0.1.2.2.2.2.2.1.inn,iN a0.1.2.2.2.2.2.1.pl.A,iN a0.1.2.2.2.2.2.1.pl.B,iN a0.1.2.2.2.2.2.1.pl.C,iN a0.1.2.2.2.2.2.1.pl.D,.sl false 6 a0.1.2.2.2.2.2.1.kids.length ((eSol false).f a0.1.2.2.2.2.2.1.kids),bl a0.1.2.2.2.2.2.2.1.inn,iN a0.1.2.2.2.2.2.2.1.pl.A,iN a0.1.2.2.2.2.2.2.1.pl.B,iN a0.1.2.2.2.2.2.2.1.pl.C,iN a0.1.2.2.2.2.2.2.1.pl.D,.sl false 6 a0.1.2.2.2.2.2.2.1.kids.length ((eSol false).f a0.1.2.2.2.2.2.2.1.kids),bl a0.1.2.2.2.2.2.2.2.inn,iN a0.1.2.2.2.2.2.2.2.pl.A,iN a0.1.2.2.2.2.2.2.2.pl.B,iN a0.1.2.2.2.2.2.2.2.pl.C,iN a0.1.2.2.2.2.2.2.2.pl.D,.sl false 6 a0.1.2.2.2.2.2.2.2.kids.length ((eSol false).f a0.1.2.2.2.2.2.2.2.kids)]),(7,iN 3)],[(1,⟨true,0,(cT52 a0)⟩)]⟩:=by
 unfold Di_DeskOk_13 at h
 obtain⟨v26,y26,h⟩:=bm h
 refine x_frk 24 [(7,.call [] [] (bl v26) [])] (oI (Ti_SolidOk (Y:=Y) n a0.1.2.2.2.1 _ y26)) h (fun h=>?_) (fun h=>?_)
 ·obtain rfl:=sj h
  exact x_end 18 [] [] oN oN 
 ·refine x_frk 6 [] oN h (fun h=>?_) (fun h=>?_)
  ·obtain⟨v27,y27,h⟩:=bm h
   exact x_to 7 [(2,.call [(false,6)] [] (bl v27) [])] (oI (Ti_SameTree (Y:=Y) n a0.1.2.2.2.1 (Sol.mk false (Pl.mk 0 0 0 0) []) _ y27)) (Ti_DeskOk_3 n a0 (!v27) r h) 
  ·exact x_to 15 [] oN (Ti_DeskOk_12 n a0 r h) 
def Di_DeskOk_1(n:Nat)(a0:Dk8)(t26:Bool):Option Bool :=
 frk t26 (some false) ((Di_SolidOk n a0.1.2.2.1).bind fun v4=>frk (!v4) (some false) (frk (!a0.2.2.2.1) ((Di_SameTree n a0.1.2.2.1 (Sol.mk false (Pl.mk 0 0 0 0) [])).bind fun v5=>Di_DeskOk_2 n a0 (!v5)) (Di_DeskOk_13 n a0)))
theorem Ti_DeskOk_1{Y}(n:Nat)(a0:Dk8)(t26 r:Bool)(h:Di_DeskOk_1 n a0 t26=some r):WT Y 24 [.code (cp [1,0,1,0,0,1,1,0,0,1,1] B24),.blk 1,.code (cp [1,0,1,0,0,1,1,1] B24),.lp (cp [1,0,1,0] B24),.blk 0,.code (cp [1,1] B24)] (FT Tryz.f24 [] (bl r) []) ⟨[(1,.ptr 1 0),(6,.agg [bl a0.1.1.inn,iN a0.1.1.pl.A,iN a0.1.1.pl.B,iN a0.1.1.pl.C,iN a0.1.1.pl.D,.sl false 6 a0.1.1.kids.length ((eSol false).f a0.1.1.kids),bl a0.1.2.1.inn,iN a0.1.2.1.pl.A,iN a0.1.2.1.pl.B,iN a0.1.2.1.pl.C,iN a0.1.2.1.pl.D,.sl false 6 a0.1.2.1.kids.length ((eSol false).f a0.1.2.1.kids),bl a0.1.2.2.1.inn,iN a0.1.2.2.1.pl.A,iN a0.1.2.2.1.pl.B,iN a0.1.2.2.1.pl.C,iN a0.1.2.2.1.pl.D,.sl false 6 a0.1.2.2.1.kids.length ((eSol false).f a0.1.2.2.1.kids),bl a0.1.2.2.2.1.inn,iN a0.1.2.2.2.1.pl.A,iN a0.1.2.2.2.1.pl.B,iN a0.1.2.2.2.1.pl.C,iN a0.1.2.2.2.1.pl.D,.sl false 6 a0.1.2.2.2.1.kids.length ((eSol false).f a0.1.2.2.2.1.kids),bl a0.1.2.2.2.2.1.inn,iN a0.1.2.2.2.2.1.pl.A,iN a0.1.2.2.2.2.1.pl.B,iN a0.1.2.2.2.2.1.pl.C,iN a0.1.2.2.2.2.1.pl.D,.sl false 6 a0.1.2.2.2.2.1.kids.length ((eSol false).f a0.1.2.2.2.2.1.kids),bl a0.1.2.2.2.2.2.1.inn,iN a0.1.2.2.2.2.2.1.pl.A,iN a0.1.2.2.2.2.2.1.pl.B,iN a0.1.2.2.2.2.2.1.pl.C,iN a0.1.2.2.2.2.2.1.pl.D,.sl false 6 a0.1.2.2.2.2.2.1.kids.length ((eSol false).f a0.1.2.2.2.2.2.1.kids),bl a0.1.2.2.2.2.2.2.1.inn,iN a0.1.2.2.2.2.2.2.1.pl.A,iN a0.1.2.2.2.2.2.2.1.pl.B,iN a0.1.2.2.2.2.2.2.1.pl.C,iN a0.1.2.2.2.2.2.2.1.pl.D,.sl false 6 a0.1.2.2.2.2.2.2.1.kids.length ((eSol false).f a0.1.2.2.2.2.2.2.1.kids),bl a0.1.2.2.2.2.2.2.2.inn,iN a0.1.2.2.2.2.2.2.2.pl.A,iN a0.1.2.2.2.2.2.2.2.pl.B,iN a0.1.2.2.2.2.2.2.2.pl.C,iN a0.1.2.2.2.2.2.2.2.pl.D,.sl false 6 a0.1.2.2.2.2.2.2.2.kids.length ((eSol false).f a0.1.2.2.2.2.2.2.2.kids)]),(7,iN 1),(26,bl t26)],[(1,⟨true,0,(cT52 a0)⟩)]⟩:=by
 unfold Di_DeskOk_1 at h
 refine x_frk 0 [] oN h (fun h=>?_) (fun h=>?_)
 ·obtain rfl:=sj h
  exact x_end 4 [] [] oN oN 
 ·obtain⟨v4,y4,h⟩:=bm h
  refine x_frk 31 [(9,.call [] [] (bl v4) [])] (oI (Ti_SolidOk (Y:=Y) n a0.1.2.2.1 _ y4)) h (fun h=>?_) (fun h=>?_)
  ·obtain rfl:=sj h
   exact x_end 18 [] [] oN oN 
  ·refine x_frk 6 [] oN h (fun h=>?_) (fun h=>?_)
   ·obtain⟨v5,y5,h⟩:=bm h
    exact x_to 7 [(2,.call [(false,6)] [] (bl v5) [])] (oI (Ti_SameTree (Y:=Y) n a0.1.2.2.1 (Sol.mk false (Pl.mk 0 0 0 0) []) _ y5)) (Ti_DeskOk_2 n a0 (!v5) r h) 
   ·exact x_to 15 [] oN (Ti_DeskOk_13 n a0 r h) 
def Di_DeskOk_14(n:Nat)(a0:Dk8):Option Bool :=
 (Di_SolidOk n a0.1.2.2.1).bind fun v28=>frk (!v28) (some false) (frk (!a0.2.2.2.1) ((Di_SameTree n a0.1.2.2.1 (Sol.mk false (Pl.mk 0 0 0 0) [])).bind fun v29=>Di_DeskOk_2 n a0 (!v29)) (Di_DeskOk_13 n a0))
theorem Ti_DeskOk_14{Y}(n:Nat)(a0:Dk8)(r:Bool)(h:Di_DeskOk_14 n a0=some r):WT Y 24 [.code (cp [1,0,1,0] B24),.blk 0,.code (cp [1,1] B24)] (FT Tryz.f24 [] (bl r) []) ⟨[(1,.ptr 1 0),(6,.agg [bl a0.1.1.inn,iN a0.1.1.pl.A,iN a0.1.1.pl.B,iN a0.1.1.pl.C,iN a0.1.1.pl.D,.sl false 6 a0.1.1.kids.length ((eSol false).f a0.1.1.kids),bl a0.1.2.1.inn,iN a0.1.2.1.pl.A,iN a0.1.2.1.pl.B,iN a0.1.2.1.pl.C,iN a0.1.2.1.pl.D,.sl false 6 a0.1.2.1.kids.length ((eSol false).f a0.1.2.1.kids),bl a0.1.2.2.1.inn,iN a0.1.2.2.1.pl.A,iN a0.1.2.2.1.pl.B,iN a0.1.2.2.1.pl.C,iN a0.1.2.2.1.pl.D,.sl false 6 a0.1.2.2.1.kids.length ((eSol false).f a0.1.2.2.1.kids),bl a0.1.2.2.2.1.inn,iN a0.1.2.2.2.1.pl.A,iN a0.1.2.2.2.1.pl.B,iN a0.1.2.2.2.1.pl.C,iN a0.1.2.2.2.1.pl.D,.sl false 6 a0.1.2.2.2.1.kids.length ((eSol false).f a0.1.2.2.2.1.kids),bl a0.1.2.2.2.2.1.inn,iN a0.1.2.2.2.2.1.pl.A,iN a0.1.2.2.2.2.1.pl.B,iN a0.1.2.2.2.2.1.pl.C,iN a0.1.2.2.2.2.1.pl.D,.sl false 6 a0.1.2.2.2.2.1.kids.length ((eSol false).f a0.1.2.2.2.2.1.kids),bl a0.1.2.2.2.2.2.1.inn,iN a0.1.2.2.2.2.2.1.pl.A,iN a0.1.2.2.2.2.2.1.pl.B,iN a0.1.2.2.2.2.2.1.pl.C,iN a0.1.2.2.2.2.2.1.pl.D,.sl false 6 a0.1.2.2.2.2.2.1.kids.length ((eSol false).f a0.1.2.2.2.2.2.1.kids),bl a0.1.2.2.2.2.2.2.1.inn,iN a0.1.2.2.2.2.2.2.1.pl.A,iN a0.1.2.2.2.2.2.2.1.pl.B,iN a0.1.2.2.2.2.2.2.1.pl.C,iN a0.1.2.2.2.2.2.2.1.pl.D,.sl false 6 a0.1.2.2.2.2.2.2.1.kids.length ((eSol false).f a0.1.2.2.2.2.2.2.1.kids),bl a0.1.2.2.2.2.2.2.2.inn,iN a0.1.2.2.2.2.2.2.2.pl.A,iN a0.1.2.2.2.2.2.2.2.pl.B,iN a0.1.2.2.2.2.2.2.2.pl.C,iN a0.1.2.2.2.2.2.2.2.pl.D,.sl false 6 a0.1.2.2.2.2.2.2.2.kids.length ((eSol false).f a0.1.2.2.2.2.2.2.2.kids)]),(7,iN 2)],[(1,⟨true,0,(cT52 a0)⟩)]⟩:=by
 unfold Di_DeskOk_14 at h
 obtain⟨v28,y28,h⟩:=bm h
 refine x_frk 24 [(7,.call [] [] (bl v28) [])] (oI (Ti_SolidOk (Y:=Y) n a0.1.2.2.1 _ y28)) h (fun h=>?_) (fun h=>?_)
 ·obtain rfl:=sj h
  exact x_end 18 [] [] oN oN 
 ·refine x_frk 6 [] oN h (fun h=>?_) (fun h=>?_)
  ·obtain⟨v29,y29,h⟩:=bm h
   exact x_to 7 [(2,.call [(false,6)] [] (bl v29) [])] (oI (Ti_SameTree (Y:=Y) n a0.1.2.2.1 (Sol.mk false (Pl.mk 0 0 0 0) []) _ y29)) (Ti_DeskOk_2 n a0 (!v29) r h) 
  ·exact x_to 15 [] oN (Ti_DeskOk_13 n a0 r h) 
def Di_DeskOk_0(n:Nat)(a0:Dk8)(t26:Bool):Option Bool :=
 frk t26 (some false) ((Di_SolidOk n a0.1.2.1).bind fun v2=>frk (!v2) (some false) (frk (!a0.2.2.1) ((Di_SameTree n a0.1.2.1 (Sol.mk false (Pl.mk 0 0 0 0) [])).bind fun v3=>Di_DeskOk_1 n a0 (!v3)) (Di_DeskOk_14 n a0)))
theorem Ti_DeskOk_0{Y}(n:Nat)(a0:Dk8)(t26 r:Bool)(h:Di_DeskOk_0 n a0 t26=some r):WT Y 24 [.code (cp [1,0,1,0,0,1,1,0,0,1,1] B24),.blk 1,.code (cp [1,0,1,0,0,1,1,1] B24),.lp (cp [1,0,1,0] B24),.blk 0,.code (cp [1,1] B24)] (FT Tryz.f24 [] (bl r) []) ⟨[(1,.ptr 1 0),(6,.agg [bl a0.1.1.inn,iN a0.1.1.pl.A,iN a0.1.1.pl.B,iN a0.1.1.pl.C,iN a0.1.1.pl.D,.sl false 6 a0.1.1.kids.length ((eSol false).f a0.1.1.kids),bl a0.1.2.1.inn,iN a0.1.2.1.pl.A,iN a0.1.2.1.pl.B,iN a0.1.2.1.pl.C,iN a0.1.2.1.pl.D,.sl false 6 a0.1.2.1.kids.length ((eSol false).f a0.1.2.1.kids),bl a0.1.2.2.1.inn,iN a0.1.2.2.1.pl.A,iN a0.1.2.2.1.pl.B,iN a0.1.2.2.1.pl.C,iN a0.1.2.2.1.pl.D,.sl false 6 a0.1.2.2.1.kids.length ((eSol false).f a0.1.2.2.1.kids),bl a0.1.2.2.2.1.inn,iN a0.1.2.2.2.1.pl.A,iN a0.1.2.2.2.1.pl.B,iN a0.1.2.2.2.1.pl.C,iN a0.1.2.2.2.1.pl.D,.sl false 6 a0.1.2.2.2.1.kids.length ((eSol false).f a0.1.2.2.2.1.kids),bl a0.1.2.2.2.2.1.inn,iN a0.1.2.2.2.2.1.pl.A,iN a0.1.2.2.2.2.1.pl.B,iN a0.1.2.2.2.2.1.pl.C,iN a0.1.2.2.2.2.1.pl.D,.sl false 6 a0.1.2.2.2.2.1.kids.length ((eSol false).f a0.1.2.2.2.2.1.kids),bl a0.1.2.2.2.2.2.1.inn,iN a0.1.2.2.2.2.2.1.pl.A,iN a0.1.2.2.2.2.2.1.pl.B,iN a0.1.2.2.2.2.2.1.pl.C,iN a0.1.2.2.2.2.2.1.pl.D,.sl false 6 a0.1.2.2.2.2.2.1.kids.length ((eSol false).f a0.1.2.2.2.2.2.1.kids),bl a0.1.2.2.2.2.2.2.1.inn,iN a0.1.2.2.2.2.2.2.1.pl.A,iN a0.1.2.2.2.2.2.2.1.pl.B,iN a0.1.2.2.2.2.2.2.1.pl.C,iN a0.1.2.2.2.2.2.2.1.pl.D,.sl false 6 a0.1.2.2.2.2.2.2.1.kids.length ((eSol false).f a0.1.2.2.2.2.2.2.1.kids),bl a0.1.2.2.2.2.2.2.2.inn,iN a0.1.2.2.2.2.2.2.2.pl.A,iN a0.1.2.2.2.2.2.2.2.pl.B,iN a0.1.2.2.2.2.2.2.2.pl.C,iN a0.1.2.2.2.2.2.2.2.pl.D,.sl false 6 a0.1.2.2.2.2.2.2.2.kids.length ((eSol false).f a0.1.2.2.2.2.2.2.2.kids)]),(7,iN 0),(26,bl t26)],[(1,⟨true,0,(cT52 a0)⟩)]⟩:=by
 unfold Di_DeskOk_0 at h
 refine x_frk 0 [] oN h (fun h=>?_) (fun h=>?_)
 ·obtain rfl:=sj h
  exact x_end 4 [] [] oN oN 
 ·obtain⟨v2,y2,h⟩:=bm h
  refine x_frk 31 [(9,.call [] [] (bl v2) [])] (oI (Ti_SolidOk (Y:=Y) n a0.1.2.1 _ y2)) h (fun h=>?_) (fun h=>?_)
  ·obtain rfl:=sj h
   exact x_end 18 [] [] oN oN 
  ·refine x_frk 6 [] oN h (fun h=>?_) (fun h=>?_)
   ·obtain⟨v3,y3,h⟩:=bm h
    exact x_to 7 [(2,.call [(false,6)] [] (bl v3) [])] (oI (Ti_SameTree (Y:=Y) n a0.1.2.1 (Sol.mk false (Pl.mk 0 0 0 0) []) _ y3)) (Ti_DeskOk_1 n a0 (!v3) r h) 
   ·exact x_to 15 [] oN (Ti_DeskOk_14 n a0 r h) 
def Di_DeskOk_15(n:Nat)(a0:Dk8):Option Bool :=
 (Di_SolidOk n a0.1.2.1).bind fun v30=>frk (!v30) (some false) (frk (!a0.2.2.1) ((Di_SameTree n a0.1.2.1 (Sol.mk false (Pl.mk 0 0 0 0) [])).bind fun v31=>Di_DeskOk_1 n a0 (!v31)) (Di_DeskOk_14 n a0))
theorem Ti_DeskOk_15{Y}(n:Nat)(a0:Dk8)(r:Bool)(h:Di_DeskOk_15 n a0=some r):WT Y 24 [.code (cp [1,0,1,0] B24),.blk 0,.code (cp [1,1] B24)] (FT Tryz.f24 [] (bl r) []) ⟨[(1,.ptr 1 0),(6,.agg [bl a0.1.1.inn,iN a0.1.1.pl.A,iN a0.1.1.pl.B,iN a0.1.1.pl.C,iN a0.1.1.pl.D,.sl false 6 a0.1.1.kids.length ((eSol false).f a0.1.1.kids),bl a0.1.2.1.inn,iN a0.1.2.1.pl.A,iN a0.1.2.1.pl.B,iN a0.1.2.1.pl.C,iN a0.1.2.1.pl.D,.sl false 6 a0.1.2.1.kids.length ((eSol false).f a0.1.2.1.kids),bl a0.1.2.2.1.inn,iN a0.1.2.2.1.pl.A,iN a0.1.2.2.1.pl.B,iN a0.1.2.2.1.pl.C,iN a0.1.2.2.1.pl.D,.sl false 6 a0.1.2.2.1.kids.length ((eSol false).f a0.1.2.2.1.kids),bl a0.1.2.2.2.1.inn,iN a0.1.2.2.2.1.pl.A,iN a0.1.2.2.2.1.pl.B,iN a0.1.2.2.2.1.pl.C,iN a0.1.2.2.2.1.pl.D,.sl false 6 a0.1.2.2.2.1.kids.length ((eSol false).f a0.1.2.2.2.1.kids),bl a0.1.2.2.2.2.1.inn,iN a0.1.2.2.2.2.1.pl.A,iN a0.1.2.2.2.2.1.pl.B,iN a0.1.2.2.2.2.1.pl.C,iN a0.1.2.2.2.2.1.pl.D,.sl false 6 a0.1.2.2.2.2.1.kids.length ((eSol false).f a0.1.2.2.2.2.1.kids),bl a0.1.2.2.2.2.2.1.inn,iN a0.1.2.2.2.2.2.1.pl.A,iN a0.1.2.2.2.2.2.1.pl.B,iN a0.1.2.2.2.2.2.1.pl.C,iN a0.1.2.2.2.2.2.1.pl.D,.sl false 6 a0.1.2.2.2.2.2.1.kids.length ((eSol false).f a0.1.2.2.2.2.2.1.kids),bl a0.1.2.2.2.2.2.2.1.inn,iN a0.1.2.2.2.2.2.2.1.pl.A,iN a0.1.2.2.2.2.2.2.1.pl.B,iN a0.1.2.2.2.2.2.2.1.pl.C,iN a0.1.2.2.2.2.2.2.1.pl.D,.sl false 6 a0.1.2.2.2.2.2.2.1.kids.length ((eSol false).f a0.1.2.2.2.2.2.2.1.kids),bl a0.1.2.2.2.2.2.2.2.inn,iN a0.1.2.2.2.2.2.2.2.pl.A,iN a0.1.2.2.2.2.2.2.2.pl.B,iN a0.1.2.2.2.2.2.2.2.pl.C,iN a0.1.2.2.2.2.2.2.2.pl.D,.sl false 6 a0.1.2.2.2.2.2.2.2.kids.length ((eSol false).f a0.1.2.2.2.2.2.2.2.kids)]),(7,iN 1)],[(1,⟨true,0,(cT52 a0)⟩)]⟩:=by
 unfold Di_DeskOk_15 at h
 obtain⟨v30,y30,h⟩:=bm h
 refine x_frk 24 [(7,.call [] [] (bl v30) [])] (oI (Ti_SolidOk (Y:=Y) n a0.1.2.1 _ y30)) h (fun h=>?_) (fun h=>?_)
 ·obtain rfl:=sj h
  exact x_end 18 [] [] oN oN 
 ·refine x_frk 6 [] oN h (fun h=>?_) (fun h=>?_)
  ·obtain⟨v31,y31,h⟩:=bm h
   exact x_to 7 [(2,.call [(false,6)] [] (bl v31) [])] (oI (Ti_SameTree (Y:=Y) n a0.1.2.1 (Sol.mk false (Pl.mk 0 0 0 0) []) _ y31)) (Ti_DeskOk_1 n a0 (!v31) r h) 
  ·exact x_to 15 [] oN (Ti_DeskOk_14 n a0 r h) 
def Di_DeskOk(n:Nat)(a0:Dk8):Option Bool :=
 (Di_SolidOk n a0.1.1).bind fun v0=>frk (!v0) (some false) (frk (!a0.2.1) ((Di_SameTree n a0.1.1 (Sol.mk false (Pl.mk 0 0 0 0) [])).bind fun v1=>Di_DeskOk_0 n a0 (!v1)) (Di_DeskOk_15 n a0))
theorem Ti_DeskOk{Y}(n:Nat)(a0:Dk8)(r:Bool)(h:Di_DeskOk n a0=some r):BT Y (.call 24 [.agg (cT52 a0)] (lk []) (bl r) (lk [])):=by
 unfold Di_DeskOk at h
 refine x_call (fn:=Tryz.f24) (c:=B24) (bs0:=[]) Tryz.func24 (by kernel_rfl) (by kernel_rfl) ?_
 obtain⟨v0,y0,h⟩:=bm h
 refine x_frk 37 [(12,.call [] [] (bl v0) [])] (oI (Ti_SolidOk (Y:=Y) n a0.1.1 _ y0)) h (fun h=>?_) (fun h=>?_)
 ·obtain rfl:=sj h
  exact x_end 18 [] [] oN oN 
 ·refine x_frk 6 [] oN h (fun h=>?_) (fun h=>?_)
  ·obtain⟨v1,y1,h⟩:=bm h
   exact x_to 7 [(2,.call [(false,6)] [] (bl v1) [])] (oI (Ti_SameTree (Y:=Y) n a0.1.1 (Sol.mk false (Pl.mk 0 0 0 0) []) _ y1)) (Ti_DeskOk_0 n a0 (!v1) r h) 
  ·exact x_to 15 [] oN (Ti_DeskOk_15 n a0 r h) 
def Di_keep_0(n:Nat)(a0:Dk8)(w8:Dk8):Option (Dk8×Int) :=
 (Di_Desk_held n w8).bind fun v2=>frk (decide (v2>900)) ((Di_copyDesk n a0).bind fun v3=>some (v3,3)) (some (w8,0))
theorem Ti_keep_0{Y}(n:Nat)(a0:Dk8)(w8:Dk8)(r:(Dk8×Int))(h:Di_keep_0 n a0 w8=some r):WT Y 64 [.code (cp [1,1,1,0,0] B64),.code (cp [1,1,1,0,1] B64),.code (cp [1,1,1,1] B64)] (FT Tryz.f64 [] (.tup [.agg (cT52o r.1),iN r.2]) []) ⟨[(3,.ptr 3 0),(6,.ptr 6 0),(8,.ptr 8 0)],[(3,⟨true,0,(cT52 a0)⟩),(6,⟨true,0,zD⟩),(8,⟨true,0,(cT52o w8)⟩)]⟩:=by
 unfold Di_keep_0 at h
 obtain⟨v2,y2,h⟩:=bm h
 refine x_frk 4 [(0,.call [] (kF w8) (iN v2) [])] (oC (Ti_Desk_held (Y:=Y) n w8 [] _ y2) (oSh8 w8 oN)) h (fun h=>?_) (fun h=>?_)
 ·obtain⟨v3,y3,h⟩:=bm h
  obtain rfl:=sj h
  exact x_end 7 [(1,.call [] [] (.agg (cT52o v3)) [])] [] (oI (Ti_copyDesk (Y:=Y) n a0 _ y3)) oN 
 ·obtain rfl:=sj h
  exact x_end 7 [] [] oN oN 
def Di_keep(n:Nat)(a0:Dk8)(a1:Int)(a2:Sol):Option (Dk8×Int) :=
 (Di_copyDesk n a0).bind fun v0=>(Di_copySolid n a2).bind fun v1=>frk (a1==0) (Di_keep_0 n a0 ((v1,v0.1.2.1,v0.1.2.2.1,v0.1.2.2.2.1,v0.1.2.2.2.2.1,v0.1.2.2.2.2.2.1,v0.1.2.2.2.2.2.2.1,v0.1.2.2.2.2.2.2.2),(true,v0.2.2.1,v0.2.2.2.1,v0.2.2.2.2.1,v0.2.2.2.2.2.1,v0.2.2.2.2.2.2.1,v0.2.2.2.2.2.2.2.1,v0.2.2.2.2.2.2.2.2))) (frk (a1==1) (Di_keep_0 n a0 ((v0.1.1,v1,v0.1.2.2.1,v0.1.2.2.2.1,v0.1.2.2.2.2.1,v0.1.2.2.2.2.2.1,v0.1.2.2.2.2.2.2.1,v0.1.2.2.2.2.2.2.2),(v0.2.1,true,v0.2.2.2.1,v0.2.2.2.2.1,v0.2.2.2.2.2.1,v0.2.2.2.2.2.2.1,v0.2.2.2.2.2.2.2.1,v0.2.2.2.2.2.2.2.2))) (frk (a1==2) (Di_keep_0 n a0 ((v0.1.1,v0.1.2.1,v1,v0.1.2.2.2.1,v0.1.2.2.2.2.1,v0.1.2.2.2.2.2.1,v0.1.2.2.2.2.2.2.1,v0.1.2.2.2.2.2.2.2),(v0.2.1,v0.2.2.1,true,v0.2.2.2.2.1,v0.2.2.2.2.2.1,v0.2.2.2.2.2.2.1,v0.2.2.2.2.2.2.2.1,v0.2.2.2.2.2.2.2.2))) (frk (a1==3) (Di_keep_0 n a0 ((v0.1.1,v0.1.2.1,v0.1.2.2.1,v1,v0.1.2.2.2.2.1,v0.1.2.2.2.2.2.1,v0.1.2.2.2.2.2.2.1,v0.1.2.2.2.2.2.2.2),(v0.2.1,v0.2.2.1,v0.2.2.2.1,true,v0.2.2.2.2.2.1,v0.2.2.2.2.2.2.1,v0.2.2.2.2.2.2.2.1,v0.2.2.2.2.2.2.2.2))) (frk (a1==4) (Di_keep_0 n a0 ((v0.1.1,v0.1.2.1,v0.1.2.2.1,v0.1.2.2.2.1,v1,v0.1.2.2.2.2.2.1,v0.1.2.2.2.2.2.2.1,v0.1.2.2.2.2.2.2.2),(v0.2.1,v0.2.2.1,v0.2.2.2.1,v0.2.2.2.2.1,true,v0.2.2.2.2.2.2.1,v0.2.2.2.2.2.2.2.1,v0.2.2.2.2.2.2.2.2))) (frk (a1==5) (Di_keep_0 n a0 ((v0.1.1,v0.1.2.1,v0.1.2.2.1,v0.1.2.2.2.1,v0.1.2.2.2.2.1,v1,v0.1.2.2.2.2.2.2.1,v0.1.2.2.2.2.2.2.2),(v0.2.1,v0.2.2.1,v0.2.2.2.1,v0.2.2.2.2.1,v0.2.2.2.2.2.1,true,v0.2.2.2.2.2.2.2.1,v0.2.2.2.2.2.2.2.2))) (frk (a1==6) (Di_keep_0 n a0 ((v0.1.1,v0.1.2.1,v0.1.2.2.1,v0.1.2.2.2.1,v0.1.2.2.2.2.1,v0.1.2.2.2.2.2.1,v1,v0.1.2.2.2.2.2.2.2),(v0.2.1,v0.2.2.1,v0.2.2.2.1,v0.2.2.2.2.1,v0.2.2.2.2.2.1,v0.2.2.2.2.2.2.1,true,v0.2.2.2.2.2.2.2.2))) (frk (a1==7) (Di_keep_0 n a0 ((v0.1.1,v0.1.2.1,v0.1.2.2.1,v0.1.2.2.2.1,v0.1.2.2.2.2.1,v0.1.2.2.2.2.2.1,v0.1.2.2.2.2.2.2.1,v1),(v0.2.1,v0.2.2.1,v0.2.2.2.1,v0.2.2.2.2.1,v0.2.2.2.2.2.1,v0.2.2.2.2.2.2.1,v0.2.2.2.2.2.2.2.1,true))) (none))))))))
theorem Ti_keep{Y}(n:Nat)(a0:Dk8)(a1:Int)(a2:Sol)(r:(Dk8×Int))(h:Di_keep n a0 a1 a2=some r):BT Y (.call 64 [.agg (cT52 a0),iN a1,eF a2] (lk []) (.tup [.agg (cT52o r.1),iN r.2]) (lk [])):=by
 unfold Di_keep at h
 refine x_call (fn:=Tryz.f64) (c:=B64) (bs0:=[]) Tryz.func64 (by kernel_rfl) (by kernel_rfl) ?_
 obtain⟨v0,y0,h⟩:=bm h
 obtain⟨v1,y1,h⟩:=bm h
 refine x_pt 21 [(5,.call [] [] (.agg (cT52o v0)) []),(5,.call [] [] (eS v1) [])] (oC (Ti_copyDesk (Y:=Y) n a0 _ y0) (oI (Ti_copySolid (Y:=Y) n a2 _ y1))) (by kernel_rfl) ?_
 rcases frk_eq h with ⟨hc,hk108⟩ | h
 ·subst hc
  replace h:=hk108
  exact x_to 8 [] oN (Ti_keep_0 n a0 ((v1,v0.1.2.1,v0.1.2.2.1,v0.1.2.2.2.1,v0.1.2.2.2.2.1,v0.1.2.2.2.2.2.1,v0.1.2.2.2.2.2.2.1,v0.1.2.2.2.2.2.2.2),(true,v0.2.2.1,v0.2.2.2.1,v0.2.2.2.2.1,v0.2.2.2.2.2.1,v0.2.2.2.2.2.2.1,v0.2.2.2.2.2.2.2.1,v0.2.2.2.2.2.2.2.2)) r h) 
 rcases frk_eq h with ⟨hc,hk109⟩ | h
 ·subst hc
  replace h:=hk109
  exact x_to 8 [] oN (Ti_keep_0 n a0 ((v0.1.1,v1,v0.1.2.2.1,v0.1.2.2.2.1,v0.1.2.2.2.2.1,v0.1.2.2.2.2.2.1,v0.1.2.2.2.2.2.2.1,v0.1.2.2.2.2.2.2.2),(v0.2.1,true,v0.2.2.2.1,v0.2.2.2.2.1,v0.2.2.2.2.2.1,v0.2.2.2.2.2.2.1,v0.2.2.2.2.2.2.2.1,v0.2.2.2.2.2.2.2.2)) r h) 
 rcases frk_eq h with ⟨hc,hk110⟩ | h
 ·subst hc
  replace h:=hk110
  exact x_to 8 [] oN (Ti_keep_0 n a0 ((v0.1.1,v0.1.2.1,v1,v0.1.2.2.2.1,v0.1.2.2.2.2.1,v0.1.2.2.2.2.2.1,v0.1.2.2.2.2.2.2.1,v0.1.2.2.2.2.2.2.2),(v0.2.1,v0.2.2.1,true,v0.2.2.2.2.1,v0.2.2.2.2.2.1,v0.2.2.2.2.2.2.1,v0.2.2.2.2.2.2.2.1,v0.2.2.2.2.2.2.2.2)) r h) 
 rcases frk_eq h with ⟨hc,hk111⟩ | h
 ·subst hc
  replace h:=hk111
  exact x_to 8 [] oN (Ti_keep_0 n a0 ((v0.1.1,v0.1.2.1,v0.1.2.2.1,v1,v0.1.2.2.2.2.1,v0.1.2.2.2.2.2.1,v0.1.2.2.2.2.2.2.1,v0.1.2.2.2.2.2.2.2),(v0.2.1,v0.2.2.1,v0.2.2.2.1,true,v0.2.2.2.2.2.1,v0.2.2.2.2.2.2.1,v0.2.2.2.2.2.2.2.1,v0.2.2.2.2.2.2.2.2)) r h) 
 rcases frk_eq h with ⟨hc,hk112⟩ | h
 ·subst hc
  replace h:=hk112
  exact x_to 8 [] oN (Ti_keep_0 n a0 ((v0.1.1,v0.1.2.1,v0.1.2.2.1,v0.1.2.2.2.1,v1,v0.1.2.2.2.2.2.1,v0.1.2.2.2.2.2.2.1,v0.1.2.2.2.2.2.2.2),(v0.2.1,v0.2.2.1,v0.2.2.2.1,v0.2.2.2.2.1,true,v0.2.2.2.2.2.2.1,v0.2.2.2.2.2.2.2.1,v0.2.2.2.2.2.2.2.2)) r h) 
 rcases frk_eq h with ⟨hc,hk113⟩ | h
 ·subst hc
  replace h:=hk113
  exact x_to 8 [] oN (Ti_keep_0 n a0 ((v0.1.1,v0.1.2.1,v0.1.2.2.1,v0.1.2.2.2.1,v0.1.2.2.2.2.1,v1,v0.1.2.2.2.2.2.2.1,v0.1.2.2.2.2.2.2.2),(v0.2.1,v0.2.2.1,v0.2.2.2.1,v0.2.2.2.2.1,v0.2.2.2.2.2.1,true,v0.2.2.2.2.2.2.2.1,v0.2.2.2.2.2.2.2.2)) r h) 
 rcases frk_eq h with ⟨hc,hk114⟩ | h
 ·subst hc
  replace h:=hk114
  exact x_to 8 [] oN (Ti_keep_0 n a0 ((v0.1.1,v0.1.2.1,v0.1.2.2.1,v0.1.2.2.2.1,v0.1.2.2.2.2.1,v0.1.2.2.2.2.2.1,v1,v0.1.2.2.2.2.2.2.2),(v0.2.1,v0.2.2.1,v0.2.2.2.1,v0.2.2.2.2.1,v0.2.2.2.2.2.1,v0.2.2.2.2.2.2.1,true,v0.2.2.2.2.2.2.2.2)) r h) 
 rcases frk_eq h with ⟨hc,hk115⟩ | h
 ·subst hc
  replace h:=hk115
  exact x_to 8 [] oN (Ti_keep_0 n a0 ((v0.1.1,v0.1.2.1,v0.1.2.2.1,v0.1.2.2.2.1,v0.1.2.2.2.2.1,v0.1.2.2.2.2.2.1,v0.1.2.2.2.2.2.2.1,v1),(v0.2.1,v0.2.2.1,v0.2.2.2.1,v0.2.2.2.2.1,v0.2.2.2.2.2.1,v0.2.2.2.2.2.2.1,v0.2.2.2.2.2.2.2.1,true)) r h) 
 exact absurd h (by simp)
def Di_Keep_0(n:Nat)(a0:Dk8):Option (Dk8×Int) :=
 (Di_copyDesk n a0).bind fun v1=>some (v1,1)
theorem Ti_Keep_0{Y}(n:Nat)(a0:Dk8)(r:(Dk8×Int))(h:Di_Keep_0 n a0=some r):WT Y 22 [.code (cp [1,0,1,0,0] B22),.code (cp [1,0,1,0,1] B22),.code (cp [1,1] B22)] (FT Tryz.f22 [] (.tup [.agg (cT52o r.1),iN r.2]) []) ⟨[(3,.ptr 3 0),(6,.ptr 6 0)],[(3,⟨true,0,(cT52 a0)⟩),(6,⟨true,0,zD⟩)]⟩:=by
 unfold Di_Keep_0 at h
 obtain⟨v1,y1,h⟩:=bm h
 obtain rfl:=sj h
 exact x_end 6 [(1,.call [] [] (.agg (cT52o v1)) [])] [] (oI (Ti_copyDesk (Y:=Y) n a0 _ y1)) oN 
def Di_Keep_1(n:Nat)(t1:Int)(t20:Bool)(a0:Dk8)(zv:Bool)(zw zx zy zak:Int)(zal:List Sol):Option (Dk8×Int) :=
 frk t20 ((Di_copyDesk n a0).bind fun v4=>some (v4,1)) ((Di_keep n a0 t1 (Sol.mk zv (Pl.mk zw zx zy zak) zal)).bind fun v5=>some v5)
theorem Ti_Keep_1{Y}(n:Nat)(t1:Int)(t20:Bool)(a0:Dk8)(zv:Bool)(zw zx zy zak:Int)(zal:List Sol)(r:(Dk8×Int))(h:Di_Keep_1 n t1 t20 a0 zv zw zx zy zak zal=some r):WT Y 22 [.code (cp [1,0,1] B22),.code (cp [1,1] B22)] (FT Tryz.f22 [] (.tup [.agg (cT52o r.1),iN r.2]) []) ⟨[(1,iN t1),(3,.ptr 3 0),(5,.ptr 5 0),(6,.ptr 6 0),(20,bl t20)],[(3,⟨true,0,(cT52 a0)⟩),(5,⟨true,0,[bl zv,iN zw,iN zx,iN zy,iN zak,.sl false 6 zal.length ((eSol false).f zal)]⟩),(6,⟨true,0,zD⟩)]⟩:=by
 unfold Di_Keep_1 at h
 refine x_frk 0 [] oN h (fun h=>?_) (fun h=>?_)
 ·obtain⟨v4,y4,h⟩:=bm h
  obtain rfl:=sj h
  exact x_end 7 [(1,.call [] [] (.agg (cT52o v4)) [])] [] (oI (Ti_copyDesk (Y:=Y) n a0 _ y4)) oN 
 ·obtain⟨v5,y5,h⟩:=bm h
  obtain rfl:=sj h
  exact x_end 12 [(3,.call [] [] (.tup [.agg (cT52o v5.1),iN v5.2]) [])] [] (oI (Ti_keep (Y:=Y) n a0 t1 (Sol.mk zv (Pl.mk zw zx zy zak) zal) _ y5)) oN 
def Di_Keep(n:Nat)(a0:Dk8)(a1:Int)(a2:Sol):Option (Dk8×Int) :=
 (Di_isPlace a1).bind fun v0=>frk (!v0) (Di_Keep_0 n a0) ((Di_SolidOk n a2).bind fun v2=>frk (!v2) (Di_Keep_0 n a0) ((Di_DeskOk n a0).bind fun v3=>Di_Keep_1 n a1 (!v3) a0 a2.inn a2.pl.A a2.pl.B a2.pl.C a2.pl.D a2.kids))
theorem Ti_Keep{Y}(n:Nat)(a0:Dk8)(a1:Int)(a2:Sol)(r:(Dk8×Int))(h:Di_Keep n a0 a1 a2=some r):BT Y (.call 22 [.agg (cT52 a0),iN a1,eF a2] (lk []) (.tup [.agg (cT52o r.1),iN r.2]) (lk [])):=by
 unfold Di_Keep at h
 refine x_call (fn:=Tryz.f22) (c:=B22) (bs0:=[]) Tryz.func22 (by kernel_rfl) (by kernel_rfl) ?_
 obtain⟨v0,y0,h⟩:=bm h
 refine x_frk 14 [(5,.call [] [] (bl v0) [])] (oI (Ti_isPlace (Y:=Y) a1 _ y0)) h (fun h=>?_) (fun h=>?_)
 ·exact x_to 12 [] oN (Ti_Keep_0 n a0 r h) 
 ·obtain⟨v2,y2,h⟩:=bm h
  refine x_frk 5 [(1,.call [] [] (bl v2) [])] (oI (Ti_SolidOk (Y:=Y) n a2 _ y2)) h (fun h=>?_) (fun h=>?_)
  ·exact x_to 7 [] oN (Ti_Keep_0 n a0 r h) 
  ·obtain⟨v3,y3,h⟩:=bm h
   exact x_to 5 [(1,.call [] [] (bl v3) [])] (oI (Ti_DeskOk (Y:=Y) n a0 _ y3)) (Ti_Keep_1 n a1 (!v3) a0 a2.inn a2.pl.A a2.pl.B a2.pl.C a2.pl.D a2.kids r h) 
def Di_Held(n:Nat)(a0:Dk8):Option Int :=
 (Di_DeskOk n a0).bind fun v0=>frk (!v0) (some 0) ((Di_Desk_held n a0).bind fun v1=>some v1)
theorem Ti_Held{Y}(n:Nat)(a0:Dk8)(r:Int)(h:Di_Held n a0=some r):BT Y (.call 25 [.agg (cT52 a0)] (lk []) (iN r) (lk [])):=by
 unfold Di_Held at h
 refine x_call (fn:=Tryz.f25) (c:=B25) (bs0:=[]) Tryz.func25 (by kernel_rfl) (by kernel_rfl) ?_
 obtain⟨v0,y0,h⟩:=bm h
 refine x_frk 12 [(3,.call [] [] (bl v0) [])] (oI (Ti_DeskOk (Y:=Y) n a0 _ y0)) h (fun h=>?_) (fun h=>?_)
 ·obtain rfl:=sj h
  exact x_end 4 [] [] oN oN 
 ·obtain⟨v1,y1,h⟩:=bm h
  obtain rfl:=sj h
  exact x_end 6 [(0,.call [] [] (iN v1) [])] [] (oI (Ti_Desk_held (Y:=Y) n a0 [] _ y1)) oN 
def Di_isOp(a0:Int):Option Bool :=
 (Di_inRange a0 1 4).bind fun v0=>some v0
theorem Ti_isOp{Y}(a0:Int)(r:Bool)(h:Di_isOp a0=some r):BT Y (.call 70 [iN a0] (lk []) (bl r) (lk [])):=by
 unfold Di_isOp at h
 refine x_call (fn:=Tryz.f70) (c:=B70) (bs0:=[]) Tryz.func70 (by kernel_rfl) (by kernel_rfl) ?_
 obtain⟨v0,y0,h⟩:=bm h
 obtain rfl:=sj h
 exact x_end 10 [(2,.call [] [] (bl v0) [])] [] (oI (Ti_inRange (Y:=Y) a0 1 4 _ y0)) oN 
def Di_Leaf(a0:Bool):Option Sol :=
 some (Sol.mk a0 (Pl.mk 0 0 0 0) [])
theorem Ti_Leaf{Y}(a0:Bool)(r:Sol)(h:Di_Leaf a0=some r):BT Y (.call 111 [bl a0] (lk []) (eS r) (lk [])):=by
 unfold Di_Leaf at h
 refine x_call (fn:=Tryz.f111) (c:=B111) (bs0:=[]) Tryz.func111 (by kernel_rfl) (by kernel_rfl) ?_
 obtain rfl:=sj h
 exact x_end 10 [] [(true,6)] oN oN 
def Di_merger_leaf(a0:(Int×Int×Bool))(a1 a2:Bool):Option (Sol×(Int×Int×Bool)) :=
 frk (a0.1==1) (frk a1 ((Di_Leaf a2).bind fun v0=>some (v0,a0)) ((Di_Leaf false).bind fun v1=>some (v1,a0))) (frk (a0.1==2) (frk a1 ((Di_Leaf true).bind fun v2=>some (v2,a0)) ((Di_Leaf a2).bind fun v3=>some (v3,a0))) (frk (a0.1==3) (frk a1 ((Di_Leaf (!a2)).bind fun v4=>some (v4,a0)) ((Di_Leaf false).bind fun v5=>some (v5,a0))) ((Di_Leaf (!(a1==a2))).bind fun v6=>some (v6,a0))))
theorem Ti_merger_leaf{Y}(a0:(Int×Int×Bool))(a1 a2:Bool)(r:(Sol×(Int×Int×Bool)))(h:Di_merger_leaf a0 a1 a2=some r):BT Y (.call 180 [.ptr 1000 0,bl a1,bl a2] (lk [(1000,⟨true,0,[iN a0.1,iN a0.2.1,bl a0.2.2]⟩)]) (eS r.1) (lk [(1000,⟨true,0,[iN r.2.1,iN r.2.2.1,bl r.2.2.2]⟩)])):=by
 unfold Di_merger_leaf at h
 refine x_call (fn:=Tryz.f180) (c:=B180) (bs0:=[(1000,⟨true,0,[.bad,.bad,.bad]⟩)]) Tryz.func180 (by kernel_rfl) (by kernel_rfl) ?_
 refine x_frk 18 [] oN h (fun h=>?_) (fun h=>?_)
 ·refine x_frk 4 [] oN h (fun h=>?_) (fun h=>?_)
  ·obtain⟨v0,y0,h⟩:=bm h
   obtain rfl:=sj h
   exact x_end 5 [(2,.call [] [] (eS v0) [])] [] (oI (Ti_Leaf (Y:=Y) a2 _ y0)) oN 
  ·obtain⟨v1,y1,h⟩:=bm h
   obtain rfl:=sj h
   exact x_end 5 [(2,.call [] [] (eS v1) [])] [] (oI (Ti_Leaf (Y:=Y) false _ y1)) oN 
 ·refine x_frk 5 [] oN h (fun h=>?_) (fun h=>?_)
  ·refine x_frk 4 [] oN h (fun h=>?_) (fun h=>?_)
   ·obtain⟨v2,y2,h⟩:=bm h
    obtain rfl:=sj h
    exact x_end 5 [(2,.call [] [] (eS v2) [])] [] (oI (Ti_Leaf (Y:=Y) true _ y2)) oN 
   ·obtain⟨v3,y3,h⟩:=bm h
    obtain rfl:=sj h
    exact x_end 5 [(2,.call [] [] (eS v3) [])] [] (oI (Ti_Leaf (Y:=Y) a2 _ y3)) oN 
  ·refine x_frk 5 [] oN h (fun h=>?_) (fun h=>?_)
   ·refine x_frk 4 [] oN h (fun h=>?_) (fun h=>?_)
    ·obtain⟨v4,y4,h⟩:=bm h
     obtain rfl:=sj h
     exact x_end 6 [(3,.call [] [] (eS v4) [])] [] (oI (Ti_Leaf (Y:=Y) (!a2) _ y4)) oN 
    ·obtain⟨v5,y5,h⟩:=bm h
     obtain rfl:=sj h
     exact x_end 6 [(3,.call [] [] (eS v5) [])] [] (oI (Ti_Leaf (Y:=Y) false _ y5)) oN 
   ·obtain⟨v6,y6,h⟩:=bm h
    obtain rfl:=sj h
    exact x_end 10 [(3,.call [] [] (eS v6) [])] [] (oI (Ti_Leaf (Y:=Y) (!(a1==a2)) _ y6)) oN 
def Di_nodeo1o2(a0:Pl)(a1:Sol)(a2:Sol):Option Sol :=
 some (Sol.mk false a0 [a1,a2])
theorem Ti_nodeo1o2{Y}(a0:Pl)(a1:Sol)(a2:Sol)(r:Sol)(h:Di_nodeo1o2 a0 a1 a2=some r):BT Y (.call 112 [.agg [iN a0.A,iN a0.B,iN a0.C,iN a0.D],eS a1,eS a2] (lk []) (eS r) (lk [])):=by
 unfold Di_nodeo1o2 at h
 refine x_call (fn:=Tryz.f112) (c:=B112) (bs0:=[]) Tryz.func112 (by kernel_rfl) (by kernel_rfl) ?_
 obtain rfl:=sj h
 exact x_end 17 [(8,.fixb 10 ⟨true,6,(eSol true).f [a1,a2]⟩)] [] (oI (boxSol true true [a1,a2])) (oI (len_row (L:=[a1,a2]) (eSol true))) 
def Di_merger_joino2o3_1(zv zw zx zy:Int)(zam:Bool)(zan zao zap zaq:Int)(zav:List Sol)(zz:Bool)(zaa zab zdg zdh:Int)(zdi:List Sol)(_zac:Bool)(_zad _zae _zar _zas zat zau:Int)(zbo:Bool):Option (Sol×(Int×Int×Bool)) :=
 (Di_nodeo1o2 (Pl.mk zv zw zx zy) (Sol.mk zam (Pl.mk zan zao zap zaq) zav) (Sol.mk zz (Pl.mk zaa zab zdg zdh) zdi)).bind fun v3=>some (v3,(zat,zau,zbo))
theorem Ti_merger_joino2o3_1{Y}(zv zw zx zy:Int)(zam:Bool)(zan zao zap zaq:Int)(zav:List Sol)(zz:Bool)(zaa zab zdg zdh:Int)(zdi:List Sol)(zac:Bool)(zad zae zar zas zat zau:Int)(zbo:Bool)(r:(Sol×(Int×Int×Bool)))(h:Di_merger_joino2o3_1 zv zw zx zy zam zan zao zap zaq zav zz zaa zab zdg zdh zdi zac zad zae zar zas zat zau zbo=some r):WT Y 154 [.code (cp [1,1,1,1,0] B154),.code (cp [1,1,1,1,1] B154)] (FT Tryz.f154 [(1000,⟨true,0,[.bad,.bad,.bad]⟩)] (eS r.1) [(1000,⟨true,0,[iN r.2.1,iN r.2.2.1,bl r.2.2.2]⟩)]) ⟨[(5,.ptr 5 0),(6,.ptr 6 0),(7,.ptr 7 0),(8,.ptr 8 0)],[(5,⟨true,0,[iN zv,iN zw,iN zx,iN zy]⟩),(6,⟨true,0,[bl zam,iN zan,iN zao,iN zap,iN zaq,.sl true 6 zav.length ((eSol true).f zav)]⟩),(7,⟨true,0,[bl zz,iN zaa,iN zab,iN zdg,iN zdh,.sl true 6 zdi.length ((eSol true).f zdi)]⟩),(8,⟨true,0,[bl zac,iN zad,iN zae,iN zar,iN zas,.nil]⟩),(1000,⟨true,0,[iN zat,iN zau,bl zbo]⟩)]⟩:=by
 unfold Di_merger_joino2o3_1 at h
 obtain⟨v3,y3,h⟩:=bm h
 obtain rfl:=sj h
 exact x_end 7 [(3,.call [] [] (eS v3) [])] [] (oI (Ti_nodeo1o2 (Y:=Y) (Pl.mk zv zw zx zy) (Sol.mk zam (Pl.mk zan zao zap zaq) zav) (Sol.mk zz (Pl.mk zaa zab zdg zdh) zdi) _ y3)) oN 
def Di_merger_joino2o3_0(t19:Bool)(zv zw zx zy:Int)(zam:Bool)(zan zao zap zaq:Int)(zav:List Sol)(zz:Bool)(zaa zab zdg zdh:Int)(zdi:List Sol)(zac:Bool)(zad zae zar zas zat zau:Int)(zbo:Bool):Option (Sol×(Int×Int×Bool)) :=
 frk t19 ((Di_Leaf zam).bind fun v2=>some (v2,(zat,zau,zbo))) (frk zbo (Di_merger_joino2o3_1 zv zw zx zy zam zan zao zap zaq zav zz zaa zab zdg zdh zdi zac zad zae zar zas zat (w64 (zau+1)) true) (Di_merger_joino2o3_1 zv zw zx zy zam zan zao zap zaq zav zz zaa zab zdg zdh zdi zac zad zae zar zas zat (w64 (zau+1)) (decide ((w64 (zau+1))>300))))
theorem Ti_merger_joino2o3_0{Y}(t19:Bool)(zv zw zx zy:Int)(zam:Bool)(zan zao zap zaq:Int)(zav:List Sol)(zz:Bool)(zaa zab zdg zdh:Int)(zdi:List Sol)(zac:Bool)(zad zae zar zas zat zau:Int)(zbo:Bool)(r:(Sol×(Int×Int×Bool)))(h:Di_merger_joino2o3_0 t19 zv zw zx zy zam zan zao zap zaq zav zz zaa zab zdg zdh zdi zac zad zae zar zas zat zau zbo=some r):WT Y 154 [.code (cp [1,0,1] B154),.code (cp [1,1] B154)] (FT Tryz.f154 [(1000,⟨true,0,[.bad,.bad,.bad]⟩)] (eS r.1) [(1000,⟨true,0,[iN r.2.1,iN r.2.2.1,bl r.2.2.2]⟩)]) ⟨[(0,.ptr 1000 0),(5,.ptr 5 0),(6,.ptr 6 0),(7,.ptr 7 0),(8,.ptr 8 0),(19,bl t19)],[(5,⟨true,0,[iN zv,iN zw,iN zx,iN zy]⟩),(6,⟨true,0,[bl zam,iN zan,iN zao,iN zap,iN zaq,.sl true 6 zav.length ((eSol true).f zav)]⟩),(7,⟨true,0,[bl zz,iN zaa,iN zab,iN zdg,iN zdh,.sl true 6 zdi.length ((eSol true).f zdi)]⟩),(8,⟨true,0,[bl zac,iN zad,iN zae,iN zar,iN zas,.nil]⟩),(1000,⟨true,0,[iN zat,iN zau,bl zbo]⟩)]⟩:=by
 unfold Di_merger_joino2o3_0 at h
 refine x_frk 0 [] oN h (fun h=>?_) (fun h=>?_)
 ·obtain⟨v2,y2,h⟩:=bm h
  obtain rfl:=sj h
  exact x_end 7 [(2,.call [] [] (eS v2) [])] [] (oI (Ti_Leaf (Y:=Y) zam _ y2)) oN 
 ·refine x_frk 20 [] oN h (fun h=>?_) (fun h=>?_)
  ·exact x_to 11 [] oN (Ti_merger_joino2o3_1 zv zw zx zy zam zan zao zap zaq zav zz zaa zab zdg zdh zdi zac zad zae zar zas zat (w64 (zau+1)) true r h) 
  ·exact x_to 11 [] oN (Ti_merger_joino2o3_1 zv zw zx zy zam zan zao zap zaq zav zz zaa zab zdg zdh zdi zac zad zae zar zas zat (w64 (zau+1)) (decide ((w64 (zau+1))>300)) r h) 
def Di_merger_joino2o3_2(zv zw zx zy:Int)(zam:Bool)(zan zao zap zaq:Int)(zav:List Sol)(zz:Bool)(zaa zab zdg zdh:Int)(zdi:List Sol)(zac:Bool)(zad zae zar zas zat zau:Int)(zbo:Bool):Option (Sol×(Int×Int×Bool)) :=
 frk zbo (Di_merger_joino2o3_1 zv zw zx zy zam zan zao zap zaq zav zz zaa zab zdg zdh zdi zac zad zae zar zas zat zau true) (Di_merger_joino2o3_1 zv zw zx zy zam zan zao zap zaq zav zz zaa zab zdg zdh zdi zac zad zae zar zas zat zau (decide (zau>300)))
theorem Ti_merger_joino2o3_2{Y}(zv zw zx zy:Int)(zam:Bool)(zan zao zap zaq:Int)(zav:List Sol)(zz:Bool)(zaa zab zdg zdh:Int)(zdi:List Sol)(zac:Bool)(zad zae zar zas zat zau:Int)(zbo:Bool)(r:(Sol×(Int×Int×Bool)))(h:Di_merger_joino2o3_2 zv zw zx zy zam zan zao zap zaq zav zz zaa zab zdg zdh zdi zac zad zae zar zas zat zau zbo=some r):WT Y 154 [.code (cp [1,1,1,0] B154),.code (cp [1,1,1,1] B154)] (FT Tryz.f154 [(1000,⟨true,0,[.bad,.bad,.bad]⟩)] (eS r.1) [(1000,⟨true,0,[iN r.2.1,iN r.2.2.1,bl r.2.2.2]⟩)]) ⟨[(0,.ptr 1000 0),(5,.ptr 5 0),(6,.ptr 6 0),(7,.ptr 7 0),(8,.ptr 8 0)],[(5,⟨true,0,[iN zv,iN zw,iN zx,iN zy]⟩),(6,⟨true,0,[bl zam,iN zan,iN zao,iN zap,iN zaq,.sl true 6 zav.length ((eSol true).f zav)]⟩),(7,⟨true,0,[bl zz,iN zaa,iN zab,iN zdg,iN zdh,.sl true 6 zdi.length ((eSol true).f zdi)]⟩),(8,⟨true,0,[bl zac,iN zad,iN zae,iN zar,iN zas,.nil]⟩),(1000,⟨true,0,[iN zat,iN zau,bl zbo]⟩)]⟩:=by
 unfold Di_merger_joino2o3_2 at h
 refine x_frk 7 [] oN h (fun h=>?_) (fun h=>?_)
 ·exact x_to 11 [] oN (Ti_merger_joino2o3_1 zv zw zx zy zam zan zao zap zaq zav zz zaa zab zdg zdh zdi zac zad zae zar zas zat zau true r h) 
 ·exact x_to 11 [] oN (Ti_merger_joino2o3_1 zv zw zx zy zam zan zao zap zaq zav zz zaa zab zdg zdh zdi zac zad zae zar zas zat zau (decide (zau>300)) r h) 
def Di_merger_joino2o3(a0:(Int×Int×Bool))(a1:Pl)(a2:Sol)(a3:Sol):Option (Sol×(Int×Int×Bool)) :=
 (Di_Solid_isLeaf a2).bind fun v0=>frk v0 ((Di_Solid_isLeaf a3).bind fun v1=>frk v1 (Di_merger_joino2o3_0 (a2.inn==a3.inn) a1.A a1.B a1.C a1.D a2.inn a2.pl.A a2.pl.B a2.pl.C a2.pl.D a2.kids a3.inn a3.pl.A a3.pl.B a3.pl.C a3.pl.D a3.kids false 0 0 0 0 a0.1 a0.2.1 a0.2.2) (Di_merger_joino2o3_2 a1.A a1.B a1.C a1.D a2.inn a2.pl.A a2.pl.B a2.pl.C a2.pl.D a2.kids a3.inn a3.pl.A a3.pl.B a3.pl.C a3.pl.D a3.kids false 0 0 0 0 a0.1 (w64 (a0.2.1+1)) a0.2.2)) (Di_merger_joino2o3_2 a1.A a1.B a1.C a1.D a2.inn a2.pl.A a2.pl.B a2.pl.C a2.pl.D a2.kids a3.inn a3.pl.A a3.pl.B a3.pl.C a3.pl.D a3.kids false 0 0 0 0 a0.1 (w64 (a0.2.1+1)) a0.2.2)
theorem Ti_merger_joino2o3{Y}(a0:(Int×Int×Bool))(a1:Pl)(a2:Sol)(a3:Sol)(r:(Sol×(Int×Int×Bool)))(h:Di_merger_joino2o3 a0 a1 a2 a3=some r):BT Y (.call 154 [.ptr 1000 0,.agg [iN a1.A,iN a1.B,iN a1.C,iN a1.D],eS a2,eS a3] (lk [(1000,⟨true,0,[iN a0.1,iN a0.2.1,bl a0.2.2]⟩)]) (eS r.1) (lk [(1000,⟨true,0,[iN r.2.1,iN r.2.2.1,bl r.2.2.2]⟩)])):=by
 unfold Di_merger_joino2o3 at h
 refine x_call (fn:=Tryz.f154) (c:=B154) (bs0:=[(1000,⟨true,0,[.bad,.bad,.bad]⟩)]) Tryz.func154 (by kernel_rfl) (by kernel_rfl) ?_
 obtain⟨v0,y0,h⟩:=bm h
 refine x_frk 12 [(4,.call [] [(eSol false).f a2.kids] (bl v0) [])] (oC (Ti_Solid_isLeaf (Y:=Y) a2 [] _ y0) (oI (Enc.share (eSol true) (eSol false) (sSol true) a2.kids))) h (fun h=>?_) (fun h=>?_)
 ·obtain⟨v1,y1,h⟩:=bm h
  refine x_frk 3 [(0,.call [] [(eSol false).f a3.kids] (bl v1) [])] (oC (Ti_Solid_isLeaf (Y:=Y) a3 [] _ y1) (oI (Enc.share (eSol true) (eSol false) (sSol true) a3.kids))) h (fun h=>?_) (fun h=>?_)
  ·exact x_to 7 [] oN (Ti_merger_joino2o3_0 (a2.inn==a3.inn) a1.A a1.B a1.C a1.D a2.inn a2.pl.A a2.pl.B a2.pl.C a2.pl.D a2.kids a3.inn a3.pl.A a3.pl.B a3.pl.C a3.pl.D a3.kids false 0 0 0 0 a0.1 a0.2.1 a0.2.2 r h) 
  ·exact x_to 21 [] oN (Ti_merger_joino2o3_2 a1.A a1.B a1.C a1.D a2.inn a2.pl.A a2.pl.B a2.pl.C a2.pl.D a2.kids a3.inn a3.pl.A a3.pl.B a3.pl.C a3.pl.D a3.kids false 0 0 0 0 a0.1 (w64 (a0.2.1+1)) a0.2.2 r h) 
 ·exact x_to 24 [] oN (Ti_merger_joino2o3_2 a1.A a1.B a1.C a1.D a2.inn a2.pl.A a2.pl.B a2.pl.C a2.pl.D a2.kids a3.inn a3.pl.A a3.pl.B a3.pl.C a3.pl.D a3.kids false 0 0 0 0 a0.1 (w64 (a0.2.1+1)) a0.2.2 r h) 
def Di_merger_take_b(n:Nat)(self1:((Int×Int×Bool)×Bool×Sol×(List Pl))→Option (Sol×(Int×Int×Bool)))(a:((Int×Int×Bool)×Bool×Sol×(List Pl))):Option (Sol×(Int×Int×Bool)) :=
 match a with
 | (a0,a1,a2,a3)=>frk a0.2.2 (some ((Sol.mk false (Pl.mk 0 0 0 0) []),a0)) ((Di_Solid_isLeaf a2).bind fun v0=>frk v0 ((Di_merger_leaf a0 a1 a2.inn).bind fun v1=>some v1) ((Di_flip a2.pl).bind fun v2=>(Di_room n a3 v2).bind fun v3=>frk (!v3) ((lget a2.kids 0).bind fun v4=>(self1 (a0,a1,v4,a3)).bind fun v5=>some v5) ((Di_room n a3 a2.pl).bind fun v6=>frk (!v6) ((lget a2.kids 1).bind fun v7=>(self1 (a0,a1,v7,a3)).bind fun v8=>some v8) (frk (decide ((a3.length:Int)≥24)) (some ((Sol.mk false (Pl.mk 0 0 0 0) []),(a0.1,a0.2.1,true))) ((lget a2.kids 0).bind fun v9=>(Di_with a3 a2.pl).bind fun v10=>(self1 (a0,a1,v9,v10)).bind fun v11=>(lget a2.kids 1).bind fun v12=>(Di_with a3 v2).bind fun v13=>(self1 (v11.2,a1,v12,v13)).bind fun v14=>(Di_merger_joino2o3 v14.2 a2.pl v11.1 v14.1).bind fun v15=>some v15)))))
def Di_merger_take(n:Nat)(a0:(Int×Int×Bool))(a1:Bool)(a2:Sol)(a3:(List Pl)):Option (Sol×(Int×Int×Bool)):=loopN (Di_merger_take_b n) n (a0,a1,a2,a3)
theorem Ti_merger_take_b{Y}(n:Nat):∀(m:Nat) (a:((Int×Int×Bool)×Bool×Sol×(List Pl))) (r:(Sol×(Int×Int×Bool))),loopN (Di_merger_take_b n) m a=some r→∀(_:Unit),BT Y (.call 153 [.ptr 1000 0,bl a.2.1,eF a.2.2.1,.sl false 4 a.2.2.2.length ((ePl).f a.2.2.2)] (lk [(1000,⟨true,0,[iN a.1.1,iN a.1.2.1,bl a.1.2.2]⟩)]) (eS r.1) (lk [(1000,⟨true,0,[iN r.2.1,iN r.2.2.1,bl r.2.2.2]⟩)])):=by
 refine loopN_ind (fun self1 hs a r h=>?_)
 have hself1:∀(a:((Int×Int×Bool)×Bool×Sol×(List Pl))) (r:(Sol×(Int×Int×Bool))),self1 a=some r→BT Y (.call 153 [.ptr 1000 0,bl a.2.1,eF a.2.2.1,.sl false 4 a.2.2.2.length ((ePl).f a.2.2.2)] (lk [(1000,⟨true,0,[iN a.1.1,iN a.1.2.1,bl a.1.2.2]⟩)]) (eS r.1) (lk [(1000,⟨true,0,[iN r.2.1,iN r.2.2.1,bl r.2.2.2]⟩)])):=fun a r h=>hs a r h ()
 intro _
 obtain⟨a0,a1,a2,a3⟩:=a
 unfold Di_merger_take_b at h
 refine x_call (fn:=Tryz.f153) (c:=B153) (bs0:=[(1000,⟨true,0,[.bad,.bad,.bad]⟩)]) Tryz.func153 (by kernel_rfl) (by kernel_rfl) ?_
 refine x_frk 13 [] oN h (fun h=>?_) (fun h=>?_)
 ·obtain rfl:=sj h
  exact x_end 5 [] [(true,6)] oN oN 
 ·obtain⟨v0,y0,h⟩:=bm h
  refine x_frk 6 [(0,.call [] [] (bl v0) [])] (oI (Ti_Solid_isLeaf (Y:=Y) a2 [] _ y0)) h (fun h=>?_) (fun h=>?_)
  ·obtain⟨v1,y1,h⟩:=bm h
   obtain rfl:=sj h
   exact x_end 9 [(4,.call [] [] (eS v1.1) [(1000,⟨true,0,[iN v1.2.1,iN v1.2.2.1,bl v1.2.2.2]⟩)])] [] (oI (Ti_merger_leaf (Y:=Y) a0 a1 a2.inn _ y1)) oN 
  ·obtain⟨v2,y2,h⟩:=bm h
   obtain⟨v3,y3,h⟩:=bm h
   refine x_frk 19 [(2,.call [] [] (.agg [iN v2.A,iN v2.B,iN v2.C,iN v2.D]) []),(4,.call [] [] (bl v3) [])] (oC (Ti_flip (Y:=Y) a2.pl _ y2) (oI (Ti_room (Y:=Y) n a3 v2 _ y3))) h (fun h=>?_) (fun h=>?_)
   ·obtain⟨v4,y4,h⟩:=bm h
    obtain⟨v5,y5,h⟩:=bm h
    obtain rfl:=sj h
    exact x_end 12 [(4,.val (.cptr ((eSol false).c v4++(eSol false).f ((a2.kids).drop (Int.toNat 0+1))))),(2,.call [] [] (eS v5.1) [(1000,⟨true,0,[iN v5.2.1,iN v5.2.2.1,bl v5.2.2.2]⟩)])] [] (oC (ix (eSol false) y4) (oI (hself1 (a0,a1,v4,a3) _ y5))) oN 
   ·obtain⟨v6,y6,h⟩:=bm h
    refine x_frk 9 [(3,.call [] [] (bl v6) [])] (oI (Ti_room (Y:=Y) n a3 a2.pl _ y6)) h (fun h=>?_) (fun h=>?_)
    ·obtain⟨v7,y7,h⟩:=bm h
     obtain⟨v8,y8,h⟩:=bm h
     obtain rfl:=sj h
     exact x_end 12 [(4,.val (.cptr ((eSol false).c v7++(eSol false).f ((a2.kids).drop (Int.toNat 1+1))))),(2,.call [] [] (eS v8.1) [(1000,⟨true,0,[iN v8.2.1,iN v8.2.2.1,bl v8.2.2.2]⟩)])] [] (oC (ix (eSol false) y7) (oI (hself1 (a0,a1,v7,a3) _ y8))) oN 
    ·refine x_frk 7 [] oN h (fun h=>?_) (fun h=>?_)
     ·obtain rfl:=sj h
      exact x_end 12 [] [(true,6)] oN oN 
     ·obtain⟨v9,y9,h⟩:=bm h
      obtain⟨v10,y10,h⟩:=bm h
      obtain⟨v11,y11,h⟩:=bm h
      obtain⟨v12,y12,h⟩:=bm h
      obtain⟨v13,y13,h⟩:=bm h
      obtain⟨v14,y14,h⟩:=bm h
      obtain⟨v15,y15,h⟩:=bm h
      obtain rfl:=sj h
      exact x_end 43 [(4,.val (.cptr ((eSol false).c v9++(eSol false).f ((a2.kids).drop (Int.toNat 0+1))))),(4,.call [] [] (.sl false 4 v10.length ((ePl).f v10)) []),(0,.call [] [] (eS v11.1) [(1000,⟨true,0,[iN v11.2.1,iN v11.2.2.1,bl v11.2.2.2]⟩)]),(6,.val (.cptr ((eSol false).c v12++(eSol false).f ((a2.kids).drop (Int.toNat 1+1))))),(3,.call [] [] (.sl false 4 v13.length ((ePl).f v13)) []),(0,.call [] [] (eS v14.1) [(1000,⟨true,0,[iN v14.2.1,iN v14.2.2.1,bl v14.2.2.2]⟩)]),(7,.call [] [] (eS v15.1) [(1000,⟨true,0,[iN v15.2.1,iN v15.2.2.1,bl v15.2.2.2]⟩)])] [] (oC (ix (eSol false) y9) (oC (shSl (L:=v10) ePl ePl sPl (Ti_with (Y:=Y) a3 a2.pl _ y10)) (oC (hself1 (a0,a1,v9,v10) _ y11) (oC (ix (eSol false) y12) (oC (shSl (L:=v13) ePl ePl sPl (Ti_with (Y:=Y) a3 v2 _ y13)) (oC (hself1 (v11.2,a1,v12,v13) _ y14) (oI (Ti_merger_joino2o3 (Y:=Y) v14.2 a2.pl v11.1 v14.1 _ y15)))))))) oN 
theorem Ti_merger_take{Y}(n:Nat)(a0:(Int×Int×Bool))(a1:Bool)(a2:Sol)(a3:(List Pl))(r:(Sol×(Int×Int×Bool)))(h:Di_merger_take n a0 a1 a2 a3=some r):BT Y (.call 153 [.ptr 1000 0,bl a1,eF a2,.sl false 4 a3.length ((ePl).f a3)] (lk [(1000,⟨true,0,[iN a0.1,iN a0.2.1,bl a0.2.2]⟩)]) (eS r.1) (lk [(1000,⟨true,0,[iN r.2.1,iN r.2.2.1,bl r.2.2.2]⟩)])):=Ti_merger_take_b n n (a0,a1,a2,a3) r h ()
def Di_merger_put_b(n:Nat)(self:((Int×Int×Bool)×Sol×Sol×(List Pl))→Option (Sol×(Int×Int×Bool)))(a:((Int×Int×Bool)×Sol×Sol×(List Pl))):Option (Sol×(Int×Int×Bool)) :=
 match a with
 | (a0,a1,a2,a3)=>frk a0.2.2 (some ((Sol.mk false (Pl.mk 0 0 0 0) []),a0)) ((Di_Solid_isLeaf a1).bind fun v0=>frk v0 ((Di_merger_take n a0 a1.inn a2 a3).bind fun v1=>some v1) ((lget a1.kids 0).bind fun v2=>(Di_with a3 a1.pl).bind fun v3=>(self (a0,v2,a2,v3)).bind fun v4=>(lget a1.kids 1).bind fun v5=>(Di_flip a1.pl).bind fun v6=>(Di_with a3 v6).bind fun v7=>(self (v4.2,v5,a2,v7)).bind fun v8=>(Di_merger_joino2o3 v8.2 a1.pl v4.1 v8.1).bind fun v9=>some v9))
def Di_merger_put(n:Nat)(a0:(Int×Int×Bool))(a1:Sol)(a2:Sol)(a3:(List Pl)):Option (Sol×(Int×Int×Bool)):=loopN (Di_merger_put_b n) n (a0,a1,a2,a3)
theorem Ti_merger_put_b{Y}(n:Nat):∀(m:Nat) (a:((Int×Int×Bool)×Sol×Sol×(List Pl))) (r:(Sol×(Int×Int×Bool))),loopN (Di_merger_put_b n) m a=some r→∀(_:Unit),BT Y (.call 124 [.ptr 1000 0,eF a.2.1,eF a.2.2.1,.sl false 4 a.2.2.2.length ((ePl).f a.2.2.2)] (lk [(1000,⟨true,0,[iN a.1.1,iN a.1.2.1,bl a.1.2.2]⟩)]) (eS r.1) (lk [(1000,⟨true,0,[iN r.2.1,iN r.2.2.1,bl r.2.2.2]⟩)])):=by
 refine loopN_ind (fun self hs a r h=>?_)
 have hself:∀(a:((Int×Int×Bool)×Sol×Sol×(List Pl))) (r:(Sol×(Int×Int×Bool))),self a=some r→BT Y (.call 124 [.ptr 1000 0,eF a.2.1,eF a.2.2.1,.sl false 4 a.2.2.2.length ((ePl).f a.2.2.2)] (lk [(1000,⟨true,0,[iN a.1.1,iN a.1.2.1,bl a.1.2.2]⟩)]) (eS r.1) (lk [(1000,⟨true,0,[iN r.2.1,iN r.2.2.1,bl r.2.2.2]⟩)])):=fun a r h=>hs a r h ()
 intro _
 obtain⟨a0,a1,a2,a3⟩:=a
 unfold Di_merger_put_b at h
 refine x_call (fn:=Tryz.f124) (c:=B124) (bs0:=[(1000,⟨true,0,[.bad,.bad,.bad]⟩)]) Tryz.func124 (by kernel_rfl) (by kernel_rfl) ?_
 refine x_frk 14 [] oN h (fun h=>?_) (fun h=>?_)
 ·obtain rfl:=sj h
  exact x_end 5 [] [(true,6)] oN oN 
 ·obtain⟨v0,y0,h⟩:=bm h
  refine x_frk 6 [(0,.call [] [] (bl v0) [])] (oI (Ti_Solid_isLeaf (Y:=Y) a1 [] _ y0)) h (fun h=>?_) (fun h=>?_)
  ·obtain⟨v1,y1,h⟩:=bm h
   obtain rfl:=sj h
   exact x_end 10 [(5,.call [] [] (eS v1.1) [(1000,⟨true,0,[iN v1.2.1,iN v1.2.2.1,bl v1.2.2.2]⟩)])] [] (oI (Ti_merger_take (Y:=Y) n a0 a1.inn a2 a3 _ y1)) oN 
  ·obtain⟨v2,y2,h⟩:=bm h
   obtain⟨v3,y3,h⟩:=bm h
   obtain⟨v4,y4,h⟩:=bm h
   obtain⟨v5,y5,h⟩:=bm h
   obtain⟨v6,y6,h⟩:=bm h
   obtain⟨v7,y7,h⟩:=bm h
   obtain⟨v8,y8,h⟩:=bm h
   obtain⟨v9,y9,h⟩:=bm h
   obtain rfl:=sj h
   exact x_end 44 [(3,.val (.cptr ((eSol false).c v2++(eSol false).f ((a1.kids).drop (Int.toNat 0+1))))),(5,.call [] [] (.sl false 4 v3.length ((ePl).f v3)) []),(0,.call [] [] (eS v4.1) [(1000,⟨true,0,[iN v4.2.1,iN v4.2.2.1,bl v4.2.2.2]⟩)]),(5,.val (.cptr ((eSol false).c v5++(eSol false).f ((a1.kids).drop (Int.toNat 1+1))))),(5,.call [] [] (.agg [iN v6.A,iN v6.B,iN v6.C,iN v6.D]) []),(0,.call [] [] (.sl false 4 v7.length ((ePl).f v7)) []),(0,.call [] [] (eS v8.1) [(1000,⟨true,0,[iN v8.2.1,iN v8.2.2.1,bl v8.2.2.2]⟩)]),(7,.call [] [] (eS v9.1) [(1000,⟨true,0,[iN v9.2.1,iN v9.2.2.1,bl v9.2.2.2]⟩)])] [] (oC (ix (eSol false) y2) (oC (shSl (L:=v3) ePl ePl sPl (Ti_with (Y:=Y) a3 a1.pl _ y3)) (oC (hself (a0,v2,a2,v3) _ y4) (oC (ix (eSol false) y5) (oC (Ti_flip (Y:=Y) a1.pl _ y6) (oC (shSl (L:=v7) ePl ePl sPl (Ti_with (Y:=Y) a3 v6 _ y7)) (oC (hself (v4.2,v5,a2,v7) _ y8) (oI (Ti_merger_joino2o3 (Y:=Y) v8.2 a1.pl v4.1 v8.1 _ y9))))))))) oN 
theorem Ti_merger_put{Y}(n:Nat)(a0:(Int×Int×Bool))(a1:Sol)(a2:Sol)(a3:(List Pl))(r:(Sol×(Int×Int×Bool)))(h:Di_merger_put n a0 a1 a2 a3=some r):BT Y (.call 124 [.ptr 1000 0,eF a1,eF a2,.sl false 4 a3.length ((ePl).f a3)] (lk [(1000,⟨true,0,[iN a0.1,iN a0.2.1,bl a0.2.2]⟩)]) (eS r.1) (lk [(1000,⟨true,0,[iN r.2.1,iN r.2.2.1,bl r.2.2.2]⟩)])):=Ti_merger_put_b n n (a0,a1,a2,a3) r h ()
def Di_put(n:Nat)(a0:Sol)(a1:Sol)(a2:Int):Option (Sol×Bool) :=
 (Di_merger_put n (a2,0,false) a0 a1 []).bind fun v0=>frk v0.2.2.2 ((Di_Leaf false).bind fun v1=>some (v1,false)) (some (v0.1,true))
theorem Ti_put{Y}(n:Nat)(a0:Sol)(a1:Sol)(a2:Int)(r:(Sol×Bool))(h:Di_put n a0 a1 a2=some r):BT Y (.call 71 [eF a0,eF a1,iN a2] (lk []) (.tup [eS r.1,bl r.2]) (lk [])):=by
 unfold Di_put at h
 refine x_call (fn:=Tryz.f71) (c:=B71) (bs0:=[]) Tryz.func71 (by kernel_rfl) (by kernel_rfl) ?_
 obtain⟨v0,y0,h⟩:=bm h
 refine x_frk 28 [(10,.call [(false,4)] [] (eS v0.1) [(1000,⟨true,0,[iN v0.2.1,iN v0.2.2.1,bl v0.2.2.2]⟩)])] (oI (Ti_merger_put (Y:=Y) n (a2,0,false) a0 a1 [] _ y0)) h (fun h=>?_) (fun h=>?_)
 ·obtain⟨v1,y1,h⟩:=bm h
  obtain rfl:=sj h
  exact x_end 6 [(0,.call [] [] (eS v1) [])] [] (oI (Ti_Leaf (Y:=Y) false _ y1)) oN 
 ·obtain rfl:=sj h
  exact x_end 7 [] [] oN oN 
def Di_tidy_b(n:Nat)(self:Sol→Option Sol)(a:Sol):Option Sol :=
 match a with
 | a0=>(Di_Solid_isLeaf a0).bind fun v0=>frk v0 ((Di_Leaf a0.inn).bind fun v1=>some v1) ((lget a0.kids 0).bind fun v2=>(self v2).bind fun v3=>(lget a0.kids 1).bind fun v4=>(self v4).bind fun v5=>(Di_SameTree n v3 v5).bind fun v6=>frk v6 (some v3) ((Di_nodeo1o2 a0.pl v3 v5).bind fun v7=>some v7))
def Di_tidy(n:Nat)(a0:Sol):Option Sol:=loopN (Di_tidy_b n) n a0
theorem Ti_tidy_b{Y}(n:Nat):∀(m:Nat) (a:Sol) (r:Sol),loopN (Di_tidy_b n) m a=some r→∀(_:Unit),BT Y (.call 72 [eF a] (lk []) (eS r) (lk [])):=by
 refine loopN_ind (fun self hs a r h=>?_)
 have hself:∀(a:Sol) (r:Sol),self a=some r→BT Y (.call 72 [eF a] (lk []) (eS r) (lk [])):=fun a r h=>hs a r h ()
 intro _
 obtain⟨a0,rfl⟩:∃x,x=a:=⟨a,rfl⟩
 unfold Di_tidy_b at h
 refine x_call (fn:=Tryz.f72) (c:=B72) (bs0:=[]) Tryz.func72 (by kernel_rfl) (by kernel_rfl) ?_
 obtain⟨v0,y0,h⟩:=bm h
 refine x_frk 10 [(2,.call [] [] (bl v0) [])] (oI (Ti_Solid_isLeaf (Y:=Y) a0 [] _ y0)) h (fun h=>?_) (fun h=>?_)
 ·obtain⟨v1,y1,h⟩:=bm h
  obtain rfl:=sj h
  exact x_end 7 [(2,.call [] [] (eS v1) [])] [] (oI (Ti_Leaf (Y:=Y) a0.inn _ y1)) oN 
 ·obtain⟨v2,y2,h⟩:=bm h
  obtain⟨v3,y3,h⟩:=bm h
  obtain⟨v4,y4,h⟩:=bm h
  obtain⟨v5,y5,h⟩:=bm h
  obtain⟨v6,y6,h⟩:=bm h
  refine x_frk 25 [(2,.val (.cptr ((eSol false).c v2++(eSol false).f ((a0.kids).drop (Int.toNat 0+1))))),(1,.call [] [] (eS v3) []),(2,.val (.cptr ((eSol false).c v4++(eSol false).f ((a0.kids).drop (Int.toNat 1+1))))),(1,.call [] [] (eS v5) []),(4,.rows [(eSol false).f v3.kids]),(0,.rows [(eSol false).f v5.kids]),(0,.call [] [] (bl v6) [])] (oC (ix (eSol false) y2) (oC (hself v2 _ y3) (oC (ix (eSol false) y4) (oC (hself v4 _ y5) (oC (Enc.share (eSol true) (eSol false) (sSol true) v3.kids) (oC (Enc.share (eSol true) (eSol false) (sSol true) v5.kids) (oI (Ti_SameTree (Y:=Y) n v3 v5 _ y6)))))))) h (fun h=>?_) (fun h=>?_)
  ·obtain rfl:=sj h
   exact x_end 5 [] [] oN oN 
  ·obtain⟨v7,y7,h⟩:=bm h
   obtain rfl:=sj h
   exact x_end 10 [(4,.call [] [] (eS v7) [])] [] (oI (Ti_nodeo1o2 (Y:=Y) a0.pl v3 v5 _ y7)) oN 
theorem Ti_tidy{Y}(n:Nat)(a0:Sol)(r:Sol)(h:Di_tidy n a0=some r):BT Y (.call 72 [eF a0] (lk []) (eS r) (lk [])):=Ti_tidy_b n n a0 r h ()
end Evl.T
