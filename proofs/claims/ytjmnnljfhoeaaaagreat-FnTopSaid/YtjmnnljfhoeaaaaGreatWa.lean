
/- Walks. No condition. -/
import Derived.Test.YtjmnnljfhoeaaaaGreatWx
namespace Evl.T
open Go Evl Go.Proofs
set_option maxRecDepth 100000
def Dlaws_FnTop_4(n:Nat)(rec1:(Int×List Spot)→Option Bool)(_t6:Int)(_ze:Bool)(_zf _zs _zt _zas:Int)(_zaz:List Sol)(_za:Bool)(_zu _zv _zw _zam:Int)(_zax:List Sol)(zab:Bool)(zac zad zau zav:Int)(zaw:List Sol)(t17 t20:Int)(l102:List Spot):Option Bool :=
 (lget l102 t17).bind fun v24=>(Dimpl_Where n (Sol.mk zab (Pl.mk zac zad zau zav) zaw) v24).bind fun v25=>frk (v25 != t20) (some false) (rec1 (w64 (t17+1),l102))
theorem Tlaws_FnTop_4{Y}(n:Nat)(rec1:(Int×List Spot)→Option Bool)(t6:Int)(ze:Bool)(zf zs zt zas:Int)(zaz:List Sol)(za:Bool)(zu zv zw zam:Int)(zax:List Sol)(zab:Bool)(zac zad zau zav:Int)(zaw:List Sol)(hrec1:∀(a:(Int×List Spot)) (r:Bool),rec1 a=some r→Wk Tryz.prog H Y 9 [.code (cp [1,1,1,1,1,1,1,1,1,1,1,1,1,0,1,0] (bodyOf Tryz.f9)),.blk 2,.code (cp [1,1,1,1,1,1,1,1,1,1,1,1,1,1] (bodyOf Tryz.f9))] (FinX Tryz.prog Tryz.f9 [] (bl r) []) ⟨[(3,.ptr 3 0),(4,.ptr 4 0),(6,i64 t6),(7,.ptr 7 0),(16,.msl 102 a.2.length),(17,i64 a.1)],[(3,⟨true,0,[bl ze,i64 zf,i64 zs,i64 zt,i64 zas,.sl true 6 zaz.length ((eSol true).f zaz)]⟩),(4,⟨true,0,[bl za,i64 zu,i64 zv,i64 zw,i64 zam,.sl true 6 zax.length ((eSol true).f zax)]⟩),(7,⟨true,0,[bl zab,i64 zac,i64 zad,i64 zau,i64 zav,.sl true 6 zaw.length ((eSol true).f zaw)]⟩),(102,⟨true,4,(eSpot).f a.2⟩)]⟩)(t17 t20:Int)(l102:List Spot)(r:Bool)(h:Dlaws_FnTop_4 n rec1 t6 ze zf zs zt zas zaz za zu zv zw zam zax zab zac zad zau zav zaw t17 t20 l102=some r):Wk Tryz.prog H Y 9 [.code (cp [1,1,1,1,1,1,1,1,1,1,1,1,1,0,1,0,0,1,0,0,1,1,1,1,1,0] (bodyOf Tryz.f9)),.code (cp [1,1,1,1,1,1,1,1,1,1,1,1,1,0,1,0,0,1,0,0,1,1,1,1,1,1] (bodyOf Tryz.f9)),.blk 3,.code (cp [1,1,1,1,1,1,1,1,1,1,1,1,1,0,1,0,0,1,1] (bodyOf Tryz.f9)),.lp (cp [1,1,1,1,1,1,1,1,1,1,1,1,1,0,1,0] (bodyOf Tryz.f9)),.blk 2,.code (cp [1,1,1,1,1,1,1,1,1,1,1,1,1,1] (bodyOf Tryz.f9))] (FinX Tryz.prog Tryz.f9 [] (bl r) []) ⟨[(3,.ptr 3 0),(4,.ptr 4 0),(6,i64 t6),(7,.ptr 7 0),(16,.msl 102 l102.length),(17,i64 t17),(20,i64 t20)],[(3,⟨true,0,[bl ze,i64 zf,i64 zs,i64 zt,i64 zas,.sl true 6 zaz.length ((eSol true).f zaz)]⟩),(4,⟨true,0,[bl za,i64 zu,i64 zv,i64 zw,i64 zam,.sl true 6 zax.length ((eSol true).f zax)]⟩),(7,⟨true,0,[bl zab,i64 zac,i64 zad,i64 zau,i64 zav,.sl true 6 zaw.length ((eSol true).f zaw)]⟩),(102,⟨true,4,(eSpot).f l102⟩)]⟩:=by
 unfold Dlaws_FnTop_4 at h
 obtain⟨v24,y24,h⟩:=bm h
 obtain⟨v25,y25,h⟩:=bm h
 refine x_frk 10 [(0,.rows [(eSol false).f zaw]),(2,.unit),(0,.cells [i64 v24.X,i64 v24.Y,i64 v24.Z,i64 v24.W]),(0,.call [] [] (i64 v25) [])] (ocons (Enc.share (eSol true) (eSol false) (sSol true) zaw) (ocons (inr y24) (ocons (ldA eSpot y24 0 4 rfl rfl) (ocons (Timpl_Where (Y:=Y) n (Sol.mk zab (Pl.mk zac zad zau zav) zaw) v24 _ y25) onil)))) h (by kernel_rfl) (fun h=>?_) (fun h=>?_)
 ·replace h:=sj h;subst h
  exact x_end 4 [] [] onil onil 
 ·exact x_to 8 [] onil (hrec1 (w64 (t17+1),l102) r h) 
def Dlaws_FnTop_3(n:Nat)(rec1:(Int×List Spot)→Option Bool)(t6:Int)(ze:Bool)(zf zs zt zas:Int)(zaz:List Sol)(za:Bool)(zu zv zw zam:Int)(zax:List Sol)(zab:Bool)(zac zad zau zav:Int)(zaw:List Sol)(t17 t18 t19:Int)(t126:Bool)(l102:List Spot):Option Bool :=
 frk t126 (rec1 (w64 (t17+1),l102)) ((Dlaws_isIn t6 (t18==1) (t19==1)).bind fun v23=>frk v23 (Dlaws_FnTop_4 n rec1 t6 ze zf zs zt zas zaz za zu zv zw zam zax zab zac zad zau zav zaw t17 1 l102) (Dlaws_FnTop_4 n rec1 t6 ze zf zs zt zas zaz za zu zv zw zam zax zab zac zad zau zav zaw t17 (-1) l102))
theorem Tlaws_FnTop_3{Y}(n:Nat)(rec1:(Int×List Spot)→Option Bool)(t6:Int)(ze:Bool)(zf zs zt zas:Int)(zaz:List Sol)(za:Bool)(zu zv zw zam:Int)(zax:List Sol)(zab:Bool)(zac zad zau zav:Int)(zaw:List Sol)(hrec1:∀(a:(Int×List Spot)) (r:Bool),rec1 a=some r→Wk Tryz.prog H Y 9 [.code (cp [1,1,1,1,1,1,1,1,1,1,1,1,1,0,1,0] (bodyOf Tryz.f9)),.blk 2,.code (cp [1,1,1,1,1,1,1,1,1,1,1,1,1,1] (bodyOf Tryz.f9))] (FinX Tryz.prog Tryz.f9 [] (bl r) []) ⟨[(3,.ptr 3 0),(4,.ptr 4 0),(6,i64 t6),(7,.ptr 7 0),(16,.msl 102 a.2.length),(17,i64 a.1)],[(3,⟨true,0,[bl ze,i64 zf,i64 zs,i64 zt,i64 zas,.sl true 6 zaz.length ((eSol true).f zaz)]⟩),(4,⟨true,0,[bl za,i64 zu,i64 zv,i64 zw,i64 zam,.sl true 6 zax.length ((eSol true).f zax)]⟩),(7,⟨true,0,[bl zab,i64 zac,i64 zad,i64 zau,i64 zav,.sl true 6 zaw.length ((eSol true).f zaw)]⟩),(102,⟨true,4,(eSpot).f a.2⟩)]⟩)(t17 t18 t19:Int)(t126:Bool)(l102:List Spot)(r:Bool)(h:Dlaws_FnTop_3 n rec1 t6 ze zf zs zt zas zaz za zu zv zw zam zax zab zac zad zau zav zaw t17 t18 t19 t126 l102=some r):Wk Tryz.prog H Y 9 [.code (cp [1,1,1,1,1,1,1,1,1,1,1,1,1,0,1,0,0,1,0,0,1,1,0,1] (bodyOf Tryz.f9)),.code (cp [1,1,1,1,1,1,1,1,1,1,1,1,1,0,1,0,0,1,0,0,1,1,1] (bodyOf Tryz.f9)),.blk 3,.code (cp [1,1,1,1,1,1,1,1,1,1,1,1,1,0,1,0,0,1,1] (bodyOf Tryz.f9)),.lp (cp [1,1,1,1,1,1,1,1,1,1,1,1,1,0,1,0] (bodyOf Tryz.f9)),.blk 2,.code (cp [1,1,1,1,1,1,1,1,1,1,1,1,1,1] (bodyOf Tryz.f9))] (FinX Tryz.prog Tryz.f9 [] (bl r) []) ⟨[(3,.ptr 3 0),(4,.ptr 4 0),(6,i64 t6),(7,.ptr 7 0),(16,.msl 102 l102.length),(17,i64 t17),(18,i64 t18),(19,i64 t19),(126,bl t126)],[(3,⟨true,0,[bl ze,i64 zf,i64 zs,i64 zt,i64 zas,.sl true 6 zaz.length ((eSol true).f zaz)]⟩),(4,⟨true,0,[bl za,i64 zu,i64 zv,i64 zw,i64 zam,.sl true 6 zax.length ((eSol true).f zax)]⟩),(7,⟨true,0,[bl zab,i64 zac,i64 zad,i64 zau,i64 zav,.sl true 6 zaw.length ((eSol true).f zaw)]⟩),(102,⟨true,4,(eSpot).f l102⟩)]⟩:=by
 unfold Dlaws_FnTop_3 at h
 refine x_frk 0 [] onil h (by kernel_rfl) (fun h=>?_) (fun h=>?_)
 ·exact x_to 7 [] onil (hrec1 (w64 (t17+1),l102) r h) 
 ·obtain⟨v23,y23,h⟩:=bm h
  refine x_frk 15 [(6,.call [] [] (bl v23) [])] (ocons (Tlaws_isIn (Y:=Y) t6 (t18==1) (t19==1) _ y23) onil) h (by kernel_rfl) (fun h=>?_) (fun h=>?_)
  ·exact x_to 4 [] onil (Tlaws_FnTop_4 n rec1 t6 ze zf zs zt zas zaz za zu zv zw zam zax zab zac zad zau zav zaw hrec1 t17 1 l102 r h) 
  ·exact x_to 2 [] onil (Tlaws_FnTop_4 n rec1 t6 ze zf zs zt zas zaz za zu zv zw zam zax zab zac zad zau zav zaw hrec1 t17 (-1) l102 r h) 
def Dlaws_FnTop_5(n:Nat)(t6:Int)(ze:Bool)(zf zs zt zas:Int)(zaz:List Sol)(za:Bool)(zu zv zw zam:Int)(zax:List Sol)(zab:Bool)(zac zad zau zav:Int)(zaw:List Sol)(rec1:(Int×List Spot)→Option Bool)(a:(Int×List Spot)):Option Bool :=
 match a with
 | (t17,l102)=>frk (decide (t17<(l102.length:Int))) ((lget l102 t17).bind fun v19=>(Dimpl_Where n (Sol.mk ze (Pl.mk zf zs zt zas) zaz) v19).bind fun v20=>(lget l102 t17).bind fun v21=>(Dimpl_Where n (Sol.mk za (Pl.mk zu zv zw zam) zax) v21).bind fun v22=>frk (v20==0) (rec1 (w64 (t17+1),l102)) (Dlaws_FnTop_3 n rec1 t6 ze zf zs zt zas zaz za zu zv zw zam zax zab zac zad zau zav zaw t17 v20 v22 (v22==0) l102)) (some true)
theorem Tlaws_FnTop_5{Y}(n:Nat)(t6:Int)(ze:Bool)(zf zs zt zas:Int)(zaz:List Sol)(za:Bool)(zu zv zw zam:Int)(zax:List Sol)(zab:Bool)(zac zad zau zav:Int)(zaw:List Sol):∀(m:Nat) (a:(Int×List Spot)) (r:Bool),loopN (Dlaws_FnTop_5 n t6 ze zf zs zt zas zaz za zu zv zw zam zax zab zac zad zau zav zaw) m a=some r→Wk Tryz.prog H Y 9 [.code (cp [1,1,1,1,1,1,1,1,1,1,1,1,1,0,1,0] (bodyOf Tryz.f9)),.blk 2,.code (cp [1,1,1,1,1,1,1,1,1,1,1,1,1,1] (bodyOf Tryz.f9))] (FinX Tryz.prog Tryz.f9 [] (bl r) []) ⟨[(3,.ptr 3 0),(4,.ptr 4 0),(6,i64 t6),(7,.ptr 7 0),(16,.msl 102 a.2.length),(17,i64 a.1)],[(3,⟨true,0,[bl ze,i64 zf,i64 zs,i64 zt,i64 zas,.sl true 6 zaz.length ((eSol true).f zaz)]⟩),(4,⟨true,0,[bl za,i64 zu,i64 zv,i64 zw,i64 zam,.sl true 6 zax.length ((eSol true).f zax)]⟩),(7,⟨true,0,[bl zab,i64 zac,i64 zad,i64 zau,i64 zav,.sl true 6 zaw.length ((eSol true).f zaw)]⟩),(102,⟨true,4,(eSpot).f a.2⟩)]⟩:=by
 refine loopN_ind (fun rec1 hrec1 a r h=>?_)
 obtain⟨t17,l102⟩:=a
 unfold Dlaws_FnTop_5 at h
 refine x_frk 9 [] onil h (by kernel_rfl) (fun h=>?_) (fun h=>?_)
 ·obtain⟨v19,y19,h⟩:=bm h
  obtain⟨v20,y20,h⟩:=bm h
  obtain⟨v21,y21,h⟩:=bm h
  obtain⟨v22,y22,h⟩:=bm h
  refine x_frk 29 [(0,.rows [(eSol false).f zaz]),(2,.unit),(0,.cells [i64 v19.X,i64 v19.Y,i64 v19.Z,i64 v19.W]),(0,.call [] [] (i64 v20) []),(1,.rows [(eSol false).f zax]),(2,.unit),(0,.cells [i64 v21.X,i64 v21.Y,i64 v21.Z,i64 v21.W]),(0,.call [] [] (i64 v22) [])] (ocons (Enc.share (eSol true) (eSol false) (sSol true) zaz) (ocons (inr y19) (ocons (ldA eSpot y19 0 4 rfl rfl) (ocons (Timpl_Where (Y:=Y) n (Sol.mk ze (Pl.mk zf zs zt zas) zaz) v19 _ y20) (ocons (Enc.share (eSol true) (eSol false) (sSol true) zax) (ocons (inr y21) (ocons (ldA eSpot y21 0 4 rfl rfl) (ocons (Timpl_Where (Y:=Y) n (Sol.mk za (Pl.mk zu zv zw zam) zax) v21 _ y22) onil)))))))) h (by kernel_rfl) (fun h=>?_) (fun h=>?_)
  ·exact x_to 12 [] onil (hrec1 (w64 (t17+1),l102) r h) 
  ·exact x_to 4 [] onil (Tlaws_FnTop_3 n rec1 t6 ze zf zs zt zas zaz za zu zv zw zam zax zab zac zad zau zav zaw hrec1 t17 v20 v22 (v22==0) l102 r h) 
 ·replace h:=sj h;subst h
  exact x_end 5 [] [] onil onil 
def Dlaws_FnTop_2(n:Nat)(t6:Int)(ze:Bool)(zf zs zt zas:Int)(zaz:List Sol)(za:Bool)(zu zv zw zam:Int)(zax:List Sol)(zab:Bool)(zac zad zau zav:Int)(zaw:List Sol)(l102:List Spot):Option Bool :=
 loopN (Dlaws_FnTop_5 n t6 ze zf zs zt zas zaz za zu zv zw zam zax zab zac zad zau zav zaw) n (1,l102)
theorem Tlaws_FnTop_2{Y}(n:Nat)(t6:Int)(ze:Bool)(zf zs zt zas:Int)(zaz:List Sol)(za:Bool)(zu zv zw zam:Int)(zax:List Sol)(zab:Bool)(zac zad zau zav:Int)(zaw:List Sol)(l102:List Spot)(r:Bool)(h:Dlaws_FnTop_2 n t6 ze zf zs zt zas zaz za zu zv zw zam zax zab zac zad zau zav zaw l102=some r):Wk Tryz.prog H Y 9 [.code (cp [1,1,1,1,1,1,1,1,1,1,1,1,1,0,1,0] (bodyOf Tryz.f9)),.blk 2,.code (cp [1,1,1,1,1,1,1,1,1,1,1,1,1,1] (bodyOf Tryz.f9))] (FinX Tryz.prog Tryz.f9 [] (bl r) []) ⟨[(3,.ptr 3 0),(4,.ptr 4 0),(6,i64 t6),(7,.ptr 7 0),(16,.msl 102 l102.length),(17,i64 1)],[(3,⟨true,0,[bl ze,i64 zf,i64 zs,i64 zt,i64 zas,.sl true 6 zaz.length ((eSol true).f zaz)]⟩),(4,⟨true,0,[bl za,i64 zu,i64 zv,i64 zw,i64 zam,.sl true 6 zax.length ((eSol true).f zax)]⟩),(7,⟨true,0,[bl zab,i64 zac,i64 zad,i64 zau,i64 zav,.sl true 6 zaw.length ((eSol true).f zaw)]⟩),(102,⟨true,4,(eSpot).f l102⟩)]⟩:=by
 unfold Dlaws_FnTop_2 at h
 exact x_to 0 [] onil (Tlaws_FnTop_5 n t6 ze zf zs zt zas zaz za zu zv zw zam zax zab zac zad zau zav zaw n (1,l102) r h) 
def Dlaws_FnTop_7(n:Nat)(t6:Int)(ze:Bool)(zf zs zt zas:Int)(zaz:List Sol)(za:Bool)(zu zv zw zam:Int)(zax:List Sol)(zab:Bool)(zac zad zau zav:Int)(zaw:List Sol)(rec1:(Int×List Spot)→Option Bool)(a:(Int×List Spot)):Option Bool :=
 match a with
 | (t17,l102)=>frk (decide (t17<(l102.length:Int))) ((lget l102 t17).bind fun v26=>(Dimpl_Where n (Sol.mk ze (Pl.mk zf zs zt zas) zaz) v26).bind fun v27=>(lget l102 t17).bind fun v28=>(Dimpl_Where n (Sol.mk za (Pl.mk zu zv zw zam) zax) v28).bind fun v29=>frk (v27==0) (rec1 (w64 (t17+1),l102)) (Dlaws_FnTop_3 n rec1 t6 ze zf zs zt zas zaz za zu zv zw zam zax zab zac zad zau zav zaw t17 v27 v29 (v29==0) l102)) (some true)
theorem Tlaws_FnTop_7{Y}(n:Nat)(t6:Int)(ze:Bool)(zf zs zt zas:Int)(zaz:List Sol)(za:Bool)(zu zv zw zam:Int)(zax:List Sol)(zab:Bool)(zac zad zau zav:Int)(zaw:List Sol):∀(m:Nat) (a:(Int×List Spot)) (r:Bool),loopN (Dlaws_FnTop_7 n t6 ze zf zs zt zas zaz za zu zv zw zam zax zab zac zad zau zav zaw) m a=some r→Wk Tryz.prog H Y 9 [.code (cp [1,1,1,1,1,1,1,1,1,1,1,1,1,0,1,0] (bodyOf Tryz.f9)),.blk 2,.code (cp [1,1,1,1,1,1,1,1,1,1,1,1,1,1] (bodyOf Tryz.f9))] (FinX Tryz.prog Tryz.f9 [] (bl r) []) ⟨[(3,.ptr 3 0),(4,.ptr 4 0),(6,i64 t6),(7,.ptr 7 0),(16,.msl 102 a.2.length),(17,i64 a.1)],[(3,⟨true,0,[bl ze,i64 zf,i64 zs,i64 zt,i64 zas,.sl true 6 zaz.length ((eSol true).f zaz)]⟩),(4,⟨true,0,[bl za,i64 zu,i64 zv,i64 zw,i64 zam,.sl true 6 zax.length ((eSol true).f zax)]⟩),(7,⟨true,0,[bl zab,i64 zac,i64 zad,i64 zau,i64 zav,.sl true 6 zaw.length ((eSol true).f zaw)]⟩),(102,⟨true,4,(eSpot).f a.2⟩)]⟩:=by
 refine loopN_ind (fun rec1 hrec1 a r h=>?_)
 obtain⟨t17,l102⟩:=a
 unfold Dlaws_FnTop_7 at h
 refine x_frk 9 [] onil h (by kernel_rfl) (fun h=>?_) (fun h=>?_)
 ·obtain⟨v26,y26,h⟩:=bm h
  obtain⟨v27,y27,h⟩:=bm h
  obtain⟨v28,y28,h⟩:=bm h
  obtain⟨v29,y29,h⟩:=bm h
  refine x_frk 29 [(0,.rows [(eSol false).f zaz]),(2,.unit),(0,.cells [i64 v26.X,i64 v26.Y,i64 v26.Z,i64 v26.W]),(0,.call [] [] (i64 v27) []),(1,.rows [(eSol false).f zax]),(2,.unit),(0,.cells [i64 v28.X,i64 v28.Y,i64 v28.Z,i64 v28.W]),(0,.call [] [] (i64 v29) [])] (ocons (Enc.share (eSol true) (eSol false) (sSol true) zaz) (ocons (inr y26) (ocons (ldA eSpot y26 0 4 rfl rfl) (ocons (Timpl_Where (Y:=Y) n (Sol.mk ze (Pl.mk zf zs zt zas) zaz) v26 _ y27) (ocons (Enc.share (eSol true) (eSol false) (sSol true) zax) (ocons (inr y28) (ocons (ldA eSpot y28 0 4 rfl rfl) (ocons (Timpl_Where (Y:=Y) n (Sol.mk za (Pl.mk zu zv zw zam) zax) v28 _ y29) onil)))))))) h (by kernel_rfl) (fun h=>?_) (fun h=>?_)
  ·exact x_to 12 [] onil (hrec1 (w64 (t17+1),l102) r h) 
  ·exact x_to 4 [] onil (Tlaws_FnTop_3 n rec1 t6 ze zf zs zt zas zaz za zu zv zw zam zax zab zac zad zau zav zaw hrec1 t17 v27 v29 (v29==0) l102 r h) 
 ·replace h:=sj h;subst h
  exact x_end 5 [] [] onil onil 
def Dlaws_FnTop_9(n:Nat)(t6:Int)(ze:Bool)(zf zs zt zas:Int)(zaz:List Sol)(za:Bool)(zu zv zw zam:Int)(zax:List Sol)(zab:Bool)(zac zad zau zav:Int)(zaw:List Sol)(rec1:(Int×List Spot)→Option Bool)(a:(Int×List Spot)):Option Bool :=
 match a with
 | (t17,l102)=>frk (decide (t17<(l102.length:Int))) ((lget l102 t17).bind fun v33=>(Dimpl_Where n (Sol.mk ze (Pl.mk zf zs zt zas) zaz) v33).bind fun v34=>(lget l102 t17).bind fun v35=>(Dimpl_Where n (Sol.mk za (Pl.mk zu zv zw zam) zax) v35).bind fun v36=>frk (v34==0) (rec1 (w64 (t17+1),l102)) (Dlaws_FnTop_3 n rec1 t6 ze zf zs zt zas zaz za zu zv zw zam zax zab zac zad zau zav zaw t17 v34 v36 (v36==0) l102)) (some true)
theorem Tlaws_FnTop_9{Y}(n:Nat)(t6:Int)(ze:Bool)(zf zs zt zas:Int)(zaz:List Sol)(za:Bool)(zu zv zw zam:Int)(zax:List Sol)(zab:Bool)(zac zad zau zav:Int)(zaw:List Sol):∀(m:Nat) (a:(Int×List Spot)) (r:Bool),loopN (Dlaws_FnTop_9 n t6 ze zf zs zt zas zaz za zu zv zw zam zax zab zac zad zau zav zaw) m a=some r→Wk Tryz.prog H Y 9 [.code (cp [1,1,1,1,1,1,1,1,1,1,1,1,1,0,1,0] (bodyOf Tryz.f9)),.blk 2,.code (cp [1,1,1,1,1,1,1,1,1,1,1,1,1,1] (bodyOf Tryz.f9))] (FinX Tryz.prog Tryz.f9 [] (bl r) []) ⟨[(3,.ptr 3 0),(4,.ptr 4 0),(6,i64 t6),(7,.ptr 7 0),(16,.msl 102 a.2.length),(17,i64 a.1)],[(3,⟨true,0,[bl ze,i64 zf,i64 zs,i64 zt,i64 zas,.sl true 6 zaz.length ((eSol true).f zaz)]⟩),(4,⟨true,0,[bl za,i64 zu,i64 zv,i64 zw,i64 zam,.sl true 6 zax.length ((eSol true).f zax)]⟩),(7,⟨true,0,[bl zab,i64 zac,i64 zad,i64 zau,i64 zav,.sl true 6 zaw.length ((eSol true).f zaw)]⟩),(102,⟨true,4,(eSpot).f a.2⟩)]⟩:=by
 refine loopN_ind (fun rec1 hrec1 a r h=>?_)
 obtain⟨t17,l102⟩:=a
 unfold Dlaws_FnTop_9 at h
 refine x_frk 9 [] onil h (by kernel_rfl) (fun h=>?_) (fun h=>?_)
 ·obtain⟨v33,y33,h⟩:=bm h
  obtain⟨v34,y34,h⟩:=bm h
  obtain⟨v35,y35,h⟩:=bm h
  obtain⟨v36,y36,h⟩:=bm h
  refine x_frk 29 [(0,.rows [(eSol false).f zaz]),(2,.unit),(0,.cells [i64 v33.X,i64 v33.Y,i64 v33.Z,i64 v33.W]),(0,.call [] [] (i64 v34) []),(1,.rows [(eSol false).f zax]),(2,.unit),(0,.cells [i64 v35.X,i64 v35.Y,i64 v35.Z,i64 v35.W]),(0,.call [] [] (i64 v36) [])] (ocons (Enc.share (eSol true) (eSol false) (sSol true) zaz) (ocons (inr y33) (ocons (ldA eSpot y33 0 4 rfl rfl) (ocons (Timpl_Where (Y:=Y) n (Sol.mk ze (Pl.mk zf zs zt zas) zaz) v33 _ y34) (ocons (Enc.share (eSol true) (eSol false) (sSol true) zax) (ocons (inr y35) (ocons (ldA eSpot y35 0 4 rfl rfl) (ocons (Timpl_Where (Y:=Y) n (Sol.mk za (Pl.mk zu zv zw zam) zax) v35 _ y36) onil)))))))) h (by kernel_rfl) (fun h=>?_) (fun h=>?_)
  ·exact x_to 12 [] onil (hrec1 (w64 (t17+1),l102) r h) 
  ·exact x_to 4 [] onil (Tlaws_FnTop_3 n rec1 t6 ze zf zs zt zas zaz za zu zv zw zam zax zab zac zad zau zav zaw hrec1 t17 v34 v36 (v36==0) l102 r h) 
 ·replace h:=sj h;subst h
  exact x_end 5 [] [] onil onil 
def Dlaws_FnTop_8(n:Nat)(t6:Int)(ze:Bool)(zf zs zt zas:Int)(zaz:List Sol)(za:Bool)(zu zv zw zam:Int)(zax:List Sol)(zab:Bool)(zac zad zau zav:Int)(zaw:List Sol)(l102:List Spot):Option Bool :=
 (lget l102 0).bind fun v31=>(Dimpl_Where n (Sol.mk zab (Pl.mk zac zad zau zav) zaw) v31).bind fun v32=>frk (v32 != 1) (some false) (loopN (Dlaws_FnTop_9 n t6 ze zf zs zt zas zaz za zu zv zw zam zax zab zac zad zau zav zaw) n (1,l102))
theorem Tlaws_FnTop_8{Y}(n:Nat)(t6:Int)(ze:Bool)(zf zs zt zas:Int)(zaz:List Sol)(za:Bool)(zu zv zw zam:Int)(zax:List Sol)(zab:Bool)(zac zad zau zav:Int)(zaw:List Sol)(l102:List Spot)(r:Bool)(h:Dlaws_FnTop_8 n t6 ze zf zs zt zas zaz za zu zv zw zam zax zab zac zad zau zav zaw l102=some r):Wk Tryz.prog H Y 9 [.code (cp [1,1,1,1,1,1,1,1,1,1,1,1,1,0,1,0,0,1,0,0,1,1,1,1,1,0] (bodyOf Tryz.f9)),.code (cp [1,1,1,1,1,1,1,1,1,1,1,1,1,0,1,0,0,1,0,0,1,1,1,1,1,1] (bodyOf Tryz.f9)),.blk 3,.code (cp [1,1,1,1,1,1,1,1,1,1,1,1,1,0,1,0,0,1,1] (bodyOf Tryz.f9)),.lp (cp [1,1,1,1,1,1,1,1,1,1,1,1,1,0,1,0] (bodyOf Tryz.f9)),.blk 2,.code (cp [1,1,1,1,1,1,1,1,1,1,1,1,1,1] (bodyOf Tryz.f9))] (FinX Tryz.prog Tryz.f9 [] (bl r) []) ⟨[(3,.ptr 3 0),(4,.ptr 4 0),(6,i64 t6),(7,.ptr 7 0),(16,.msl 102 l102.length),(17,i64 0),(20,i64 1)],[(3,⟨true,0,[bl ze,i64 zf,i64 zs,i64 zt,i64 zas,.sl true 6 zaz.length ((eSol true).f zaz)]⟩),(4,⟨true,0,[bl za,i64 zu,i64 zv,i64 zw,i64 zam,.sl true 6 zax.length ((eSol true).f zax)]⟩),(7,⟨true,0,[bl zab,i64 zac,i64 zad,i64 zau,i64 zav,.sl true 6 zaw.length ((eSol true).f zaw)]⟩),(102,⟨true,4,(eSpot).f l102⟩)]⟩:=by
 unfold Dlaws_FnTop_8 at h
 obtain⟨v31,y31,h⟩:=bm h
 obtain⟨v32,y32,h⟩:=bm h
 refine x_frk 10 [(0,.rows [(eSol false).f zaw]),(2,.unit),(0,.cells [i64 v31.X,i64 v31.Y,i64 v31.Z,i64 v31.W]),(0,.call [] [] (i64 v32) [])] (ocons (Enc.share (eSol true) (eSol false) (sSol true) zaw) (ocons (inr y31) (ocons (ldA eSpot y31 0 4 rfl rfl) (ocons (Timpl_Where (Y:=Y) n (Sol.mk zab (Pl.mk zac zad zau zav) zaw) v31 _ y32) onil)))) h (by kernel_rfl) (fun h=>?_) (fun h=>?_)
 ·replace h:=sj h;subst h
  exact x_end 4 [] [] onil onil 
 ·exact x_to 8 [] onil (Tlaws_FnTop_9 n t6 ze zf zs zt zas zaz za zu zv zw zam zax zab zac zad zau zav zaw n (1,l102) r h) 
def Dlaws_FnTop_11(n:Nat)(t6:Int)(ze:Bool)(zf zs zt zas:Int)(zaz:List Sol)(za:Bool)(zu zv zw zam:Int)(zax:List Sol)(zab:Bool)(zac zad zau zav:Int)(zaw:List Sol)(rec1:(Int×List Spot)→Option Bool)(a:(Int×List Spot)):Option Bool :=
 match a with
 | (t17,l102)=>frk (decide (t17<(l102.length:Int))) ((lget l102 t17).bind fun v39=>(Dimpl_Where n (Sol.mk ze (Pl.mk zf zs zt zas) zaz) v39).bind fun v40=>(lget l102 t17).bind fun v41=>(Dimpl_Where n (Sol.mk za (Pl.mk zu zv zw zam) zax) v41).bind fun v42=>frk (v40==0) (rec1 (w64 (t17+1),l102)) (Dlaws_FnTop_3 n rec1 t6 ze zf zs zt zas zaz za zu zv zw zam zax zab zac zad zau zav zaw t17 v40 v42 (v42==0) l102)) (some true)
theorem Tlaws_FnTop_11{Y}(n:Nat)(t6:Int)(ze:Bool)(zf zs zt zas:Int)(zaz:List Sol)(za:Bool)(zu zv zw zam:Int)(zax:List Sol)(zab:Bool)(zac zad zau zav:Int)(zaw:List Sol):∀(m:Nat) (a:(Int×List Spot)) (r:Bool),loopN (Dlaws_FnTop_11 n t6 ze zf zs zt zas zaz za zu zv zw zam zax zab zac zad zau zav zaw) m a=some r→Wk Tryz.prog H Y 9 [.code (cp [1,1,1,1,1,1,1,1,1,1,1,1,1,0,1,0] (bodyOf Tryz.f9)),.blk 2,.code (cp [1,1,1,1,1,1,1,1,1,1,1,1,1,1] (bodyOf Tryz.f9))] (FinX Tryz.prog Tryz.f9 [] (bl r) []) ⟨[(3,.ptr 3 0),(4,.ptr 4 0),(6,i64 t6),(7,.ptr 7 0),(16,.msl 102 a.2.length),(17,i64 a.1)],[(3,⟨true,0,[bl ze,i64 zf,i64 zs,i64 zt,i64 zas,.sl true 6 zaz.length ((eSol true).f zaz)]⟩),(4,⟨true,0,[bl za,i64 zu,i64 zv,i64 zw,i64 zam,.sl true 6 zax.length ((eSol true).f zax)]⟩),(7,⟨true,0,[bl zab,i64 zac,i64 zad,i64 zau,i64 zav,.sl true 6 zaw.length ((eSol true).f zaw)]⟩),(102,⟨true,4,(eSpot).f a.2⟩)]⟩:=by
 refine loopN_ind (fun rec1 hrec1 a r h=>?_)
 obtain⟨t17,l102⟩:=a
 unfold Dlaws_FnTop_11 at h
 refine x_frk 9 [] onil h (by kernel_rfl) (fun h=>?_) (fun h=>?_)
 ·obtain⟨v39,y39,h⟩:=bm h
  obtain⟨v40,y40,h⟩:=bm h
  obtain⟨v41,y41,h⟩:=bm h
  obtain⟨v42,y42,h⟩:=bm h
  refine x_frk 29 [(0,.rows [(eSol false).f zaz]),(2,.unit),(0,.cells [i64 v39.X,i64 v39.Y,i64 v39.Z,i64 v39.W]),(0,.call [] [] (i64 v40) []),(1,.rows [(eSol false).f zax]),(2,.unit),(0,.cells [i64 v41.X,i64 v41.Y,i64 v41.Z,i64 v41.W]),(0,.call [] [] (i64 v42) [])] (ocons (Enc.share (eSol true) (eSol false) (sSol true) zaz) (ocons (inr y39) (ocons (ldA eSpot y39 0 4 rfl rfl) (ocons (Timpl_Where (Y:=Y) n (Sol.mk ze (Pl.mk zf zs zt zas) zaz) v39 _ y40) (ocons (Enc.share (eSol true) (eSol false) (sSol true) zax) (ocons (inr y41) (ocons (ldA eSpot y41 0 4 rfl rfl) (ocons (Timpl_Where (Y:=Y) n (Sol.mk za (Pl.mk zu zv zw zam) zax) v41 _ y42) onil)))))))) h (by kernel_rfl) (fun h=>?_) (fun h=>?_)
  ·exact x_to 12 [] onil (hrec1 (w64 (t17+1),l102) r h) 
  ·exact x_to 4 [] onil (Tlaws_FnTop_3 n rec1 t6 ze zf zs zt zas zaz za zu zv zw zam zax zab zac zad zau zav zaw hrec1 t17 v40 v42 (v42==0) l102 r h) 
 ·replace h:=sj h;subst h
  exact x_end 5 [] [] onil onil 
def Dlaws_FnTop_10(n:Nat)(t6:Int)(ze:Bool)(zf zs zt zas:Int)(zaz:List Sol)(za:Bool)(zu zv zw zam:Int)(zax:List Sol)(zab:Bool)(zac zad zau zav:Int)(zaw:List Sol)(l102:List Spot):Option Bool :=
 (lget l102 0).bind fun v37=>(Dimpl_Where n (Sol.mk zab (Pl.mk zac zad zau zav) zaw) v37).bind fun v38=>frk (v38 != (-1)) (some false) (loopN (Dlaws_FnTop_11 n t6 ze zf zs zt zas zaz za zu zv zw zam zax zab zac zad zau zav zaw) n (1,l102))
theorem Tlaws_FnTop_10{Y}(n:Nat)(t6:Int)(ze:Bool)(zf zs zt zas:Int)(zaz:List Sol)(za:Bool)(zu zv zw zam:Int)(zax:List Sol)(zab:Bool)(zac zad zau zav:Int)(zaw:List Sol)(l102:List Spot)(r:Bool)(h:Dlaws_FnTop_10 n t6 ze zf zs zt zas zaz za zu zv zw zam zax zab zac zad zau zav zaw l102=some r):Wk Tryz.prog H Y 9 [.code (cp [1,1,1,1,1,1,1,1,1,1,1,1,1,0,1,0,0,1,0,0,1,1,1,1,1,0] (bodyOf Tryz.f9)),.code (cp [1,1,1,1,1,1,1,1,1,1,1,1,1,0,1,0,0,1,0,0,1,1,1,1,1,1] (bodyOf Tryz.f9)),.blk 3,.code (cp [1,1,1,1,1,1,1,1,1,1,1,1,1,0,1,0,0,1,1] (bodyOf Tryz.f9)),.lp (cp [1,1,1,1,1,1,1,1,1,1,1,1,1,0,1,0] (bodyOf Tryz.f9)),.blk 2,.code (cp [1,1,1,1,1,1,1,1,1,1,1,1,1,1] (bodyOf Tryz.f9))] (FinX Tryz.prog Tryz.f9 [] (bl r) []) ⟨[(3,.ptr 3 0),(4,.ptr 4 0),(6,i64 t6),(7,.ptr 7 0),(16,.msl 102 l102.length),(17,i64 0),(20,i64 (-1))],[(3,⟨true,0,[bl ze,i64 zf,i64 zs,i64 zt,i64 zas,.sl true 6 zaz.length ((eSol true).f zaz)]⟩),(4,⟨true,0,[bl za,i64 zu,i64 zv,i64 zw,i64 zam,.sl true 6 zax.length ((eSol true).f zax)]⟩),(7,⟨true,0,[bl zab,i64 zac,i64 zad,i64 zau,i64 zav,.sl true 6 zaw.length ((eSol true).f zaw)]⟩),(102,⟨true,4,(eSpot).f l102⟩)]⟩:=by
 unfold Dlaws_FnTop_10 at h
 obtain⟨v37,y37,h⟩:=bm h
 obtain⟨v38,y38,h⟩:=bm h
 refine x_frk 10 [(0,.rows [(eSol false).f zaw]),(2,.unit),(0,.cells [i64 v37.X,i64 v37.Y,i64 v37.Z,i64 v37.W]),(0,.call [] [] (i64 v38) [])] (ocons (Enc.share (eSol true) (eSol false) (sSol true) zaw) (ocons (inr y37) (ocons (ldA eSpot y37 0 4 rfl rfl) (ocons (Timpl_Where (Y:=Y) n (Sol.mk zab (Pl.mk zac zad zau zav) zaw) v37 _ y38) onil)))) h (by kernel_rfl) (fun h=>?_) (fun h=>?_)
 ·replace h:=sj h;subst h
  exact x_end 4 [] [] onil onil 
 ·exact x_to 8 [] onil (Tlaws_FnTop_11 n t6 ze zf zs zt zas zaz za zu zv zw zam zax zab zac zad zau zav zaw n (1,l102) r h) 
def Dlaws_FnTop_6(n:Nat)(t6 t18 t19:Int)(t126 ze:Bool)(zf zs zt zas:Int)(zaz:List Sol)(za:Bool)(zu zv zw zam:Int)(zax:List Sol)(zab:Bool)(zac zad zau zav:Int)(zaw:List Sol)(l102:List Spot):Option Bool :=
 frk t126 (loopN (Dlaws_FnTop_7 n t6 ze zf zs zt zas zaz za zu zv zw zam zax zab zac zad zau zav zaw) n (1,l102)) ((Dlaws_isIn t6 (t18==1) (t19==1)).bind fun v30=>frk v30 (Dlaws_FnTop_8 n t6 ze zf zs zt zas zaz za zu zv zw zam zax zab zac zad zau zav zaw l102) (Dlaws_FnTop_10 n t6 ze zf zs zt zas zaz za zu zv zw zam zax zab zac zad zau zav zaw l102))
theorem Tlaws_FnTop_6{Y}(n:Nat)(t6 t18 t19:Int)(t126 ze:Bool)(zf zs zt zas:Int)(zaz:List Sol)(za:Bool)(zu zv zw zam:Int)(zax:List Sol)(zab:Bool)(zac zad zau zav:Int)(zaw:List Sol)(l102:List Spot)(r:Bool)(h:Dlaws_FnTop_6 n t6 t18 t19 t126 ze zf zs zt zas zaz za zu zv zw zam zax zab zac zad zau zav zaw l102=some r):Wk Tryz.prog H Y 9 [.code (cp [1,1,1,1,1,1,1,1,1,1,1,1,1,0,1,0,0,1,0,0,1,1,0,1] (bodyOf Tryz.f9)),.code (cp [1,1,1,1,1,1,1,1,1,1,1,1,1,0,1,0,0,1,0,0,1,1,1] (bodyOf Tryz.f9)),.blk 3,.code (cp [1,1,1,1,1,1,1,1,1,1,1,1,1,0,1,0,0,1,1] (bodyOf Tryz.f9)),.lp (cp [1,1,1,1,1,1,1,1,1,1,1,1,1,0,1,0] (bodyOf Tryz.f9)),.blk 2,.code (cp [1,1,1,1,1,1,1,1,1,1,1,1,1,1] (bodyOf Tryz.f9))] (FinX Tryz.prog Tryz.f9 [] (bl r) []) ⟨[(3,.ptr 3 0),(4,.ptr 4 0),(6,i64 t6),(7,.ptr 7 0),(16,.msl 102 l102.length),(17,i64 0),(18,i64 t18),(19,i64 t19),(126,bl t126)],[(3,⟨true,0,[bl ze,i64 zf,i64 zs,i64 zt,i64 zas,.sl true 6 zaz.length ((eSol true).f zaz)]⟩),(4,⟨true,0,[bl za,i64 zu,i64 zv,i64 zw,i64 zam,.sl true 6 zax.length ((eSol true).f zax)]⟩),(7,⟨true,0,[bl zab,i64 zac,i64 zad,i64 zau,i64 zav,.sl true 6 zaw.length ((eSol true).f zaw)]⟩),(102,⟨true,4,(eSpot).f l102⟩)]⟩:=by
 unfold Dlaws_FnTop_6 at h
 refine x_frk 0 [] onil h (by kernel_rfl) (fun h=>?_) (fun h=>?_)
 ·exact x_to 7 [] onil (Tlaws_FnTop_7 n t6 ze zf zs zt zas zaz za zu zv zw zam zax zab zac zad zau zav zaw n (1,l102) r h) 
 ·obtain⟨v30,y30,h⟩:=bm h
  refine x_frk 15 [(6,.call [] [] (bl v30) [])] (ocons (Tlaws_isIn (Y:=Y) t6 (t18==1) (t19==1) _ y30) onil) h (by kernel_rfl) (fun h=>?_) (fun h=>?_)
  ·exact x_to 4 [] onil (Tlaws_FnTop_8 n t6 ze zf zs zt zas zaz za zu zv zw zam zax zab zac zad zau zav zaw l102 r h) 
  ·exact x_to 2 [] onil (Tlaws_FnTop_10 n t6 ze zf zs zt zas zaz za zu zv zw zam zax zab zac zad zau zav zaw l102 r h) 
def Dlaws_FnTop_1(n:Nat)(t0:List Int)(t6:Int)(ze:Bool)(zf zs zt zas:Int)(zaz:List Sol)(za:Bool)(zu zv zw zam:Int)(zax:List Sol)(zx zy zz zaa:Int)(zab:Bool)(zac zad zau zav:Int)(zaw:List Sol):Option Bool :=
 (Dimpl_SolidOk n (Sol.mk zab (Pl.mk zac zad zau zav) zaw)).bind fun v11=>frk (!v11) (some false) ((Dlaws_at t0 3).bind fun v12=>(Dlaws_at t0 4).bind fun v13=>(Dlaws_at t0 5).bind fun v14=>(Dlaws_at t0 6).bind fun v15=>(Dspec_SpotOf n (w64 ((Int.tmod v12 9)-4)) (w64 ((Int.tmod v13 9)-4)) (w64 ((Int.tmod v14 9)-4)) (w64 (1+(Int.tmod v15 3)))).bind fun v16=>(Dimpl_Where n (Sol.mk ze (Pl.mk zf zs zt zas) zaz) (Spot.mk zx zy zz zaa)).bind fun v17=>(Dimpl_Where n (Sol.mk za (Pl.mk zu zv zw zam) zax) (Spot.mk zx zy zz zaa)).bind fun v18=>frk (v17==0) (Dlaws_FnTop_2 n t6 ze zf zs zt zas zaz za zu zv zw zam zax zab zac zad zau zav zaw [(Spot.mk zx zy zz zaa),v16.1]) (Dlaws_FnTop_6 n t6 v17 v18 (v18==0) ze zf zs zt zas zaz za zu zv zw zam zax zab zac zad zau zav zaw [(Spot.mk zx zy zz zaa),v16.1]))
theorem Tlaws_FnTop_1{Y}(n:Nat)(t0:List Int)(t6:Int)(ze:Bool)(zf zs zt zas:Int)(zaz:List Sol)(za:Bool)(zu zv zw zam:Int)(zax:List Sol)(zx zy zz zaa:Int)(zab:Bool)(zac zad zau zav:Int)(zaw:List Sol)(r:Bool)(h:Dlaws_FnTop_1 n t0 t6 ze zf zs zt zas zaz za zu zv zw zam zax zx zy zz zaa zab zac zad zau zav zaw=some r):Wk Tryz.prog H Y 9 [.code (cp [1,1,1,1,1,1,1,1,1,1,0,0] (bodyOf Tryz.f9)),.code (cp [1,1,1,1,1,1,1,1,1,1,0,1] (bodyOf Tryz.f9)),.code (cp [1,1,1,1,1,1,1,1,1,1,1] (bodyOf Tryz.f9))] (FinX Tryz.prog Tryz.f9 [] (bl r) []) ⟨[(0,.sl false 1 t0.length ((eU8).f t0)),(3,.ptr 3 0),(4,.ptr 4 0),(5,.ptr 5 0),(6,i64 t6),(7,.ptr 7 0)],[(3,⟨true,0,[bl ze,i64 zf,i64 zs,i64 zt,i64 zas,.sl true 6 zaz.length ((eSol true).f zaz)]⟩),(4,⟨true,0,[bl za,i64 zu,i64 zv,i64 zw,i64 zam,.sl true 6 zax.length ((eSol true).f zax)]⟩),(5,⟨true,0,[i64 zx,i64 zy,i64 zz,i64 zaa]⟩),(7,⟨true,0,[bl zab,i64 zac,i64 zad,i64 zau,i64 zav,.sl true 6 zaw.length ((eSol true).f zaw)]⟩)]⟩:=by
 unfold Dlaws_FnTop_1 at h
 obtain⟨v11,y11,h⟩:=bm h
 refine x_frk 5 [(0,.rows [(eSol false).f zaw]),(0,.call [] [] (bl v11) [])] (ocons (Enc.share (eSol true) (eSol false) (sSol true) zaw) (ocons (Timpl_SolidOk (Y:=Y) n (Sol.mk zab (Pl.mk zac zad zau zav) zaw) _ y11) onil)) h (by kernel_rfl) (fun h=>?_) (fun h=>?_)
 ·replace h:=sj h;subst h
  exact x_end 4 [] [] onil onil 
 ·obtain⟨v12,y12,h⟩:=bm h
  obtain⟨v13,y13,h⟩:=bm h
  obtain⟨v14,y14,h⟩:=bm h
  obtain⟨v15,y15,h⟩:=bm h
  obtain⟨v16,y16,h⟩:=bm h
  obtain⟨v17,y17,h⟩:=bm h
  obtain⟨v18,y18,h⟩:=bm h
  refine x_frk 79 [(1,.call [] [] (i64 v12) []),(3,.call [] [] (i64 v13) []),(3,.call [] [] (i64 v14) []),(3,.call [] [] (i64 v15) []),(2,.call [] [] (.tup [.agg [i64 v16.1.X,i64 v16.1.Y,i64 v16.1.Z,i64 v16.1.W],bl v16.2]) []),(15,.rows [(eSol false).f zaz]),(4,.call [] [] (i64 v17) []),(1,.rows [(eSol false).f zax]),(4,.call [] [] (i64 v18) [])] (ocons (Tlaws_at (Y:=Y) t0 3 _ y12) (ocons (Tlaws_at (Y:=Y) t0 4 _ y13) (ocons (Tlaws_at (Y:=Y) t0 5 _ y14) (ocons (Tlaws_at (Y:=Y) t0 6 _ y15) (ocons (Tspec_SpotOf (Y:=Y) n (w64 ((Int.tmod v12 9)-4)) (w64 ((Int.tmod v13 9)-4)) (w64 ((Int.tmod v14 9)-4)) (w64 (1+(Int.tmod v15 3))) _ y16) (ocons (Enc.share (eSol true) (eSol false) (sSol true) zaz) (ocons (Timpl_Where (Y:=Y) n (Sol.mk ze (Pl.mk zf zs zt zas) zaz) (Spot.mk zx zy zz zaa) _ y17) (ocons (Enc.share (eSol true) (eSol false) (sSol true) zax) (ocons (Timpl_Where (Y:=Y) n (Sol.mk za (Pl.mk zu zv zw zam) zax) (Spot.mk zx zy zz zaa) _ y18) onil))))))))) h (by kernel_rfl) (fun h=>?_) (fun h=>?_)
  ·exact x_to 12 [] onil (Tlaws_FnTop_2 n t6 ze zf zs zt zas zaz za zu zv zw zam zax zab zac zad zau zav zaw [(Spot.mk zx zy zz zaa),v16.1] r h) 
  ·exact x_to 4 [] onil (Tlaws_FnTop_6 n t6 v17 v18 (v18==0) ze zf zs zt zas zaz za zu zv zw zam zax zab zac zad zau zav zaw [(Spot.mk zx zy zz zaa),v16.1] r h) 
def Dlaws_FnTop_12(n:Nat)(t0:List Int)(t6:Int)(t12:List Pl)(ze:Bool)(zf zs zt zas:Int)(zaz:List Sol)(za:Bool)(zu zv zw zam:Int)(zax:List Sol)(zx zy zz zaa:Int)(zab:Bool)(zac zad zau zav:Int)(zaw:List Sol)(l61:List Pl)(rec0:Int→Option Bool)(a:Int):Option Bool :=
 match a with
 | t13=>frk (decide (t13<(t12.length:Int))) ((lget t12 t13).bind fun v9=>(Dlaws_among n l61 v9).bind fun v10=>frk (!v10) (some false) (rec0 (w64 (t13+1)))) (Dlaws_FnTop_1 n t0 t6 ze zf zs zt zas zaz za zu zv zw zam zax zx zy zz zaa zab zac zad zau zav zaw)
theorem Tlaws_FnTop_12{Y}(n:Nat)(t0:List Int)(t6:Int)(t12:List Pl)(ze:Bool)(zf zs zt zas:Int)(zaz:List Sol)(za:Bool)(zu zv zw zam:Int)(zax:List Sol)(zx zy zz zaa:Int)(zab:Bool)(zac zad zau zav:Int)(zaw:List Sol)(l61:List Pl):∀(m:Nat) (a:Int) (r:Bool),loopN (Dlaws_FnTop_12 n t0 t6 t12 ze zf zs zt zas zaz za zu zv zw zam zax zx zy zz zaa zab zac zad zau zav zaw l61) m a=some r→Wk Tryz.prog H Y 9 [.code (cp [1,1,1,1,1,1,1,1,1,0,1,0] (bodyOf Tryz.f9)),.blk 0,.code (cp [1,1,1,1,1,1,1,1,1,1] (bodyOf Tryz.f9))] (FinX Tryz.prog Tryz.f9 [] (bl r) []) ⟨[(0,.sl false 1 t0.length ((eU8).f t0)),(3,.ptr 3 0),(4,.ptr 4 0),(5,.ptr 5 0),(6,i64 t6),(7,.ptr 7 0),(11,.msl 61 l61.length),(12,.sl false 4 t12.length ((ePl).f t12)),(13,i64 a)],[(3,⟨true,0,[bl ze,i64 zf,i64 zs,i64 zt,i64 zas,.sl true 6 zaz.length ((eSol true).f zaz)]⟩),(4,⟨true,0,[bl za,i64 zu,i64 zv,i64 zw,i64 zam,.sl true 6 zax.length ((eSol true).f zax)]⟩),(5,⟨true,0,[i64 zx,i64 zy,i64 zz,i64 zaa]⟩),(7,⟨true,0,[bl zab,i64 zac,i64 zad,i64 zau,i64 zav,.sl true 6 zaw.length ((eSol true).f zaw)]⟩),(61,⟨false,4,(ePl).f l61⟩)]⟩:=by
 refine loopN_ind (fun _rec0 hrec0 a r h=>?_)
 obtain⟨t13,rfl⟩:∃x,x=a:=⟨a,rfl⟩
 unfold Dlaws_FnTop_12 at h
 refine x_frk 9 [] onil h (by kernel_rfl) (fun h=>?_) (fun h=>?_)
 ·obtain⟨v9,y9,h⟩:=bm h
  obtain⟨v10,y10,h⟩:=bm h
  refine x_frk 13 [(3,.val (.cptr (ePl.c v9++(ePl).f ((t12).drop (Int.toNat t13+1))))),(1,.call [] [(ePl).f l61] (bl v10) [])] (ocons (ix ePl y9) (ocons (Tlaws_among (Y:=Y) n l61 v9 _ y10) (ocons (len_row (L:=l61) ePl) (ocons (Enc.share ePl ePl sPl l61) onil)))) h (by kernel_rfl) (fun h=>?_) (fun h=>?_)
  ·replace h:=sj h;subst h
   exact x_end 4 [] [] onil onil 
  ·exact x_to 8 [] onil (hrec0 (w64 (t13+1)) r h) 
 ·exact x_to 3 [] onil (Tlaws_FnTop_1 n t0 t6 ze zf zs zt zas zaz za zu zv zw zam zax zx zy zz zaa zab zac zad zau zav zaw r h) 
def Dlaws_FnTop_0(n:Nat)(t0:List Int)(t6:Int)(t8 t10 t53 ze:Bool)(zf zs zt zas:Int)(zaz:List Sol)(za:Bool)(zu zv zw zam:Int)(zax:List Sol)(zx zy zz zaa:Int)(zab:Bool)(zac zad zau zav:Int)(zaw:List Sol):Option Bool :=
 frk t53 (some (t8==t10)) ((Dimpl_PlanesOf n (Sol.mk ze (Pl.mk zf zs zt zas) zaz)).bind fun v5=>(Dimpl_PlanesOf n (Sol.mk za (Pl.mk zu zv zw zam) zax)).bind fun v6=>chk (apB 32 (v5.length+v6.length)) ((Dimpl_PlanesOf n (Sol.mk zab (Pl.mk zac zad zau zav) zaw)).bind fun v8=>loopN (Dlaws_FnTop_12 n t0 t6 v8 ze zf zs zt zas zaz za zu zv zw zam zax zx zy zz zaa zab zac zad zau zav zaw (v5++v6)) n 0))
theorem Tlaws_FnTop_0{Y}(n:Nat)(t0:List Int)(t6:Int)(t8 t10 t53 ze:Bool)(zf zs zt zas:Int)(zaz:List Sol)(za:Bool)(zu zv zw zam:Int)(zax:List Sol)(zx zy zz zaa:Int)(zab:Bool)(zac zad zau zav:Int)(zaw:List Sol)(r:Bool)(h:Dlaws_FnTop_0 n t0 t6 t8 t10 t53 ze zf zs zt zas zaz za zu zv zw zam zax zx zy zz zaa zab zac zad zau zav zaw=some r):Wk Tryz.prog H Y 9 [.code (cp [1,1,1,1,1,1,0,1] (bodyOf Tryz.f9)),.code (cp [1,1,1,1,1,1,1] (bodyOf Tryz.f9))] (FinX Tryz.prog Tryz.f9 [] (bl r) []) ⟨[(0,.sl false 1 t0.length ((eU8).f t0)),(3,.ptr 3 0),(4,.ptr 4 0),(5,.ptr 5 0),(6,i64 t6),(7,.ptr 7 0),(8,bl t8),(10,bl t10),(53,bl t53)],[(3,⟨true,0,[bl ze,i64 zf,i64 zs,i64 zt,i64 zas,.sl true 6 zaz.length ((eSol true).f zaz)]⟩),(4,⟨true,0,[bl za,i64 zu,i64 zv,i64 zw,i64 zam,.sl true 6 zax.length ((eSol true).f zax)]⟩),(5,⟨true,0,[i64 zx,i64 zy,i64 zz,i64 zaa]⟩),(7,⟨true,0,[bl zab,i64 zac,i64 zad,i64 zau,i64 zav,.sl true 6 zaw.length ((eSol true).f zaw)]⟩)]⟩:=by
 unfold Dlaws_FnTop_0 at h
 refine x_frk 0 [] onil h (by kernel_rfl) (fun h=>?_) (fun h=>?_)
 ·replace h:=sj h;subst h
  exact x_end 7 [] [] onil onil 
 ·obtain⟨v5,y5,h⟩:=bm h
  obtain⟨v6,y6,h⟩:=bm h
  obtain⟨c7,h⟩:=chk_some h
  obtain⟨v8,y8,h⟩:=bm h
  exact x_to 22 [(0,.rows [(eSol false).f zaz]),(0,.call [] [] (.sl true 4 v5.length ((ePl).f v5)) []),(0,.rows [(eSol false).f zax]),(0,.call [] [] (.sl false 4 v6.length ((ePl).f v6)) []),(0,.app false (List.length (v5++v6)) ((ePl).f (v5++v6))),(1,.rows [(eSol false).f zaw]),(0,.call [] [] (.sl false 4 v8.length ((ePl).f v8)) [])] (ocons (Enc.share (eSol true) (eSol false) (sSol true) zaz) (ocons (Timpl_PlanesOf (Y:=Y) n (Sol.mk ze (Pl.mk zf zs zt zas) zaz) _ y5) (ocons (Enc.share (eSol true) (eSol false) (sSol true) zax) (ocons (shSl (L:=v6) ePl ePl sPl (Timpl_PlanesOf (Y:=Y) n (Sol.mk za (Pl.mk zu zv zw zam) zax) _ y6)) (ocons (len_row' (L:=v5) ePl) (ocons (app_one (L:=v5) (M:=v6) ePl c7) (ocons (app_new (L:=v5) (M:=v6) ePl) (ocons (app_m (L:=v5) (M:=v6) ePl rfl) (ocons (len_row' (L:=v6) ePl) (ocons (Enc.share (eSol true) (eSol false) (sSol true) zaw) (ocons (shSl (L:=v8) ePl ePl sPl (Timpl_PlanesOf (Y:=Y) n (Sol.mk zab (Pl.mk zac zad zau zav) zaw) _ y8)) onil))))))))))) (Tlaws_FnTop_12 n t0 t6 v8 ze zf zs zt zas zaz za zu zv zw zam zax zx zy zz zaa zab zac zad zau zav zaw (v5++v6) n 0 r h) 
def Dlaws_FnTop(n:Nat)(a0:(List Int)):Option Bool :=
 (Dlaws_big a0).bind fun v0=>frk v0 (some true) ((Dspec_DrawTwo n a0).bind fun v1=>(Dlaws_at a0 2).bind fun v2=>(Dimpl_Put n v1.1 v1.2.1 (w64 (1+(Int.tmod v2 4)))).bind fun v3=>(Dspec_Put n v1.1 v1.2.1 (w64 (1+(Int.tmod v2 4)))).bind fun v4=>frk (!(v3.2==v4.2)) (some (v3.2==v4.2)) (Dlaws_FnTop_0 n a0 (w64 (1+(Int.tmod v2 4))) v3.2 v4.2 (!v3.2) v1.1.inn v1.1.pl.A v1.1.pl.B v1.1.pl.C v1.1.pl.D v1.1.kids v1.2.1.inn v1.2.1.pl.A v1.2.1.pl.B v1.2.1.pl.C v1.2.1.pl.D v1.2.1.kids v1.2.2.X v1.2.2.Y v1.2.2.Z v1.2.2.W v3.1.inn v3.1.pl.A v3.1.pl.B v3.1.pl.C v3.1.pl.D v3.1.kids))
theorem Tlaws_FnTop{Y}(n:Nat)(a0:(List Int))(r:Bool)(h:Dlaws_FnTop n a0=some r):Big Tryz.prog H Y (.call 9 [.sl false 1 a0.length ((eU8).f a0)] (lk []) (bl r) (lk [])):=by
 unfold Dlaws_FnTop at h
 refine x_call (fn:=Tryz.f9) (c:=bodyOf Tryz.f9) (bs0:=[]) Tryz.func9 (by kernel_rfl) (by kernel_rfl) ?_
 obtain⟨v0,y0,h⟩:=bm h
 refine x_frk 10 [(2,.call [] [] (bl v0) [])] (ocons (Tlaws_big (Y:=Y) a0 _ y0) onil) h (by kernel_rfl) (fun h=>?_) (fun h=>?_)
 ·replace h:=sj h;subst h
  exact x_end 4 [] [] onil onil 
 ·obtain⟨v1,y1,h⟩:=bm h
  obtain⟨v2,y2,h⟩:=bm h
  obtain⟨v3,y3,h⟩:=bm h
  obtain⟨v4,y4,h⟩:=bm h
  refine x_frk 57 [(1,.call [] [] (.tup [eS v1.1,eS v1.2.1,.agg [i64 v1.2.2.X,i64 v1.2.2.Y,i64 v1.2.2.Z,i64 v1.2.2.W]]) []),(11,.call [] [] (i64 v2) []),(3,.rows [(eSol false).f v1.1.kids]),(0,.rows [(eSol false).f v1.2.1.kids]),(1,.call [] [] (.tup [eS v3.1,bl v3.2]) []),(6,.rows [(eSol false).f v1.1.kids]),(0,.rows [(eSol false).f v1.2.1.kids]),(1,.call [] [] (.tup [eS v4.1,bl v4.2]) [])] (ocons (Tspec_DrawTwo (Y:=Y) n a0 _ y1) (ocons (Tlaws_at (Y:=Y) a0 2 _ y2) (ocons (Enc.share (eSol true) (eSol false) (sSol true) v1.1.kids) (ocons (Enc.share (eSol true) (eSol false) (sSol true) v1.2.1.kids) (ocons (Timpl_Put (Y:=Y) n v1.1 v1.2.1 (w64 (1+(Int.tmod v2 4))) _ y3) (ocons (Enc.share (eSol true) (eSol false) (sSol true) v1.1.kids) (ocons (Enc.share (eSol true) (eSol false) (sSol true) v1.2.1.kids) (ocons (Tspec_Put (Y:=Y) n v1.1 v1.2.1 (w64 (1+(Int.tmod v2 4))) _ y4) onil)))))))) h (by kernel_rfl) (fun h=>?_) (fun h=>?_)
  ·replace h:=sj h;subst h
   exact x_end 12 [] [] onil onil 
  ·exact x_to 4 [] onil (Tlaws_FnTop_0 n a0 (w64 (1+(Int.tmod v2 4))) v3.2 v4.2 (!v3.2) v1.1.inn v1.1.pl.A v1.1.pl.B v1.1.pl.C v1.1.pl.D v1.1.kids v1.2.1.inn v1.2.1.pl.A v1.2.1.pl.B v1.2.1.pl.C v1.2.1.pl.D v1.2.1.kids v1.2.2.X v1.2.2.Y v1.2.2.Z v1.2.2.W v3.1.inn v3.1.pl.A v3.1.pl.B v3.1.pl.C v3.1.pl.D v3.1.kids r h) 
end Evl.T
