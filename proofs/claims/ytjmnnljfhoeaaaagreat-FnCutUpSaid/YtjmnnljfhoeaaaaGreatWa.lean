
/- Walks. No condition. -/
import Derived.Test.YtjmnnljfhoeaaaaGreatWx
namespace Evl.T
open Go Evl Go.Proofs
set_option maxRecDepth 100000
def Dimpl_Solid_has_b(_n:Nat)(self:(Sol×Bool)→Option Bool)(a:(Sol×Bool)):Option Bool :=
 match a with
 | (a0,a1)=>(Dimpl_Solid_isLeaf a0).bind fun v0=>frk v0 (some (a0.inn==a1)) ((lget a0.kids 0).bind fun v1=>(self (v1,a1)).bind fun v2=>frk v2 (some true) ((lget a0.kids 1).bind fun v3=>(self (v3,a1)).bind fun v4=>some v4))
def Dimpl_Solid_has(n:Nat)(a0:Sol)(a1:Bool):Option Bool:=loopN (Dimpl_Solid_has_b n) n (a0,a1)
theorem Timpl_Solid_has_b{Y}(n:Nat):∀(m:Nat) (a:(Sol×Bool)) (r:Bool),loopN (Dimpl_Solid_has_b n) m a=some r→∀(q0:List AV),Big Tryz.prog H Y (.call 90 [.cptr ([bl a.1.inn,i64 a.1.pl.A,i64 a.1.pl.B,i64 a.1.pl.C,i64 a.1.pl.D,.sl false 6 a.1.kids.length ((eSol false).f a.1.kids)]++q0),bl a.2] (lk []) (bl r) (lk [])):=by
 refine loopN_ind (fun self hs a r h=>?_)
 have hself:∀(a:(Sol×Bool)) (q0:List AV) (r:Bool),self a=some r→Big Tryz.prog H Y (.call 90 [.cptr ([bl a.1.inn,i64 a.1.pl.A,i64 a.1.pl.B,i64 a.1.pl.C,i64 a.1.pl.D,.sl false 6 a.1.kids.length ((eSol false).f a.1.kids)]++q0),bl a.2] (lk []) (bl r) (lk [])):=fun a q0 r h=>hs a r h q0
 intro q0
 obtain⟨a0,a1⟩:=a
 unfold Dimpl_Solid_has_b at h
 refine x_call (fn:=Tryz.f90) (c:=bodyOf Tryz.f90) (bs0:=[]) Tryz.func90 (by kernel_rfl) (by kernel_rfl) ?_
 obtain⟨v0,y0,h⟩:=bm h
 refine x_frk 10 [(2,.call [] [] (bl v0) [])] (ocons (Timpl_Solid_isLeaf (Y:=Y) a0 q0 _ y0) onil) h (by kernel_rfl) (fun h=>?_) (fun h=>?_)
 ·replace h:=sj h;subst h
  exact x_end 10 [] [] onil onil 
 ·obtain⟨v1,y1,h⟩:=bm h
  obtain⟨v2,y2,h⟩:=bm h
  refine x_frk 11 [(4,.val (.cptr ((eSol false).c v1++(eSol false).f ((a0.kids).drop (Int.toNat 0+1))))),(1,.call [] [] (bl v2) [])] (ocons (ix (eSol false) y1) (ocons (hself (v1,a1) ((eSol false).f ((a0.kids).drop (Int.toNat 0+1))) _ y2) onil)) h (by kernel_rfl) (fun h=>?_) (fun h=>?_)
  ·replace h:=sj h;subst h
   exact x_end 10 [] [] onil onil 
  ·obtain⟨v3,y3,h⟩:=bm h
   obtain⟨v4,y4,h⟩:=bm h
   replace h:=sj h;subst h
   exact x_end 10 [(4,.val (.cptr ((eSol false).c v3++(eSol false).f ((a0.kids).drop (Int.toNat 1+1))))),(1,.call [] [] (bl v4) [])] [] (ocons (ix (eSol false) y3) (ocons (hself (v3,a1) ((eSol false).f ((a0.kids).drop (Int.toNat 1+1))) _ y4) onil)) onil 
theorem Timpl_Solid_has{Y}(n:Nat)(a0:Sol)(a1:Bool)(q0:List AV)(r:Bool)(h:Dimpl_Solid_has n a0 a1=some r):Big Tryz.prog H Y (.call 90 [.cptr ([bl a0.inn,i64 a0.pl.A,i64 a0.pl.B,i64 a0.pl.C,i64 a0.pl.D,.sl false 6 a0.kids.length ((eSol false).f a0.kids)]++q0),bl a1] (lk []) (bl r) (lk [])):=Timpl_Solid_has_b n n (a0,a1) r h q0
def Dimpl_isNothing(n:Nat)(a0:Sol)(a1:Sol)(a2:Int):Option Bool :=
 (Dimpl_Put n a0 a1 a2).bind fun v0=>frk v0.2 ((Dimpl_Solid_has n v0.1 true).bind fun v1=>some (!v1)) (some false)
theorem Timpl_isNothing{Y}(n:Nat)(a0:Sol)(a1:Sol)(a2:Int)(r:Bool)(h:Dimpl_isNothing n a0 a1 a2=some r):Big Tryz.prog H Y (.call 89 [eF a0,eF a1,i64 a2] (lk []) (bl r) (lk [])):=by
 unfold Dimpl_isNothing at h
 refine x_call (fn:=Tryz.f89) (c:=bodyOf Tryz.f89) (bs0:=[]) Tryz.func89 (by kernel_rfl) (by kernel_rfl) ?_
 obtain⟨v0,y0,h⟩:=bm h
 refine x_frk 23 [(6,.call [] [] (.tup [eS v0.1,bl v0.2]) [])] (ocons (Timpl_Put (Y:=Y) n a0 a1 a2 _ y0) onil) h (by kernel_rfl) (fun h=>?_) (fun h=>?_)
 ·obtain⟨v1,y1,h⟩:=bm h
  replace h:=sj h;subst h
  exact x_end 5 [(0,.call [] [(eSol false).f v0.1.kids] (bl v1) [])] [] (ocons (Timpl_Solid_has (Y:=Y) n v0.1 true [] _ y1) (ocons (Enc.share (eSol true) (eSol false) (sSol true) v0.1.kids) onil)) onil 
 ·replace h:=sj h;subst h
  exact x_end 5 [] [] onil onil 
def Dimpl_Inside(n:Nat)(a0:Sol)(a1:Sol):Option Bool :=
 (Dimpl_isNothing n a0 a1 3).bind fun v0=>some v0
theorem Timpl_Inside{Y}(n:Nat)(a0:Sol)(a1:Sol)(r:Bool)(h:Dimpl_Inside n a0 a1=some r):Big Tryz.prog H Y (.call 25 [eF a0,eF a1] (lk []) (bl r) (lk [])):=by
 unfold Dimpl_Inside at h
 refine x_call (fn:=Tryz.f25) (c:=bodyOf Tryz.f25) (bs0:=[]) Tryz.func25 (by kernel_rfl) (by kernel_rfl) ?_
 obtain⟨v0,y0,h⟩:=bm h
 replace h:=sj h;subst h
 exact x_end 13 [(5,.call [] [] (bl v0) [])] [] (ocons (Timpl_isNothing (Y:=Y) n a0 a1 3 _ y0) onil) onil 
def Dimpl_Apart(n:Nat)(a0:Sol)(a1:Sol):Option Bool :=
 (Dimpl_isNothing n a0 a1 1).bind fun v0=>some v0
theorem Timpl_Apart{Y}(n:Nat)(a0:Sol)(a1:Sol)(r:Bool)(h:Dimpl_Apart n a0 a1=some r):Big Tryz.prog H Y (.call 26 [eF a0,eF a1] (lk []) (bl r) (lk [])):=by
 unfold Dimpl_Apart at h
 refine x_call (fn:=Tryz.f26) (c:=bodyOf Tryz.f26) (bs0:=[]) Tryz.func26 (by kernel_rfl) (by kernel_rfl) ?_
 obtain⟨v0,y0,h⟩:=bm h
 replace h:=sj h;subst h
 exact x_end 13 [(5,.call [] [] (bl v0) [])] [] (ocons (Timpl_isNothing (Y:=Y) n a0 a1 1 _ y0) onil) onil 
def Dimpl_Same(n:Nat)(a0:Sol)(a1:Sol):Option Bool :=
 (Dimpl_isNothing n a0 a1 4).bind fun v0=>some v0
theorem Timpl_Same{Y}(n:Nat)(a0:Sol)(a1:Sol)(r:Bool)(h:Dimpl_Same n a0 a1=some r):Big Tryz.prog H Y (.call 24 [eF a0,eF a1] (lk []) (bl r) (lk [])):=by
 unfold Dimpl_Same at h
 refine x_call (fn:=Tryz.f24) (c:=bodyOf Tryz.f24) (bs0:=[]) Tryz.func24 (by kernel_rfl) (by kernel_rfl) ?_
 obtain⟨v0,y0,h⟩:=bm h
 replace h:=sj h;subst h
 exact x_end 13 [(5,.call [] [] (bl v0) [])] [] (ocons (Timpl_isNothing (Y:=Y) n a0 a1 4 _ y0) onil) onil 
def Dlaws_FnCutUp_0(n:Nat)(t7 t10:Bool)(za zu zv zw:Int):Option Bool :=
 frk (t7==t10) ((Dspec_PlaneOk n (Pl.mk za zu zv zw)).bind fun v4=>frk (!v4) (some true) ((Dimpl_PlaneOk n (Pl.mk za zu zv zw)).bind fun v5=>some v5)) (some false)
theorem Tlaws_FnCutUp_0{Y}(n:Nat)(t7 t10:Bool)(za zu zv zw:Int)(r:Bool)(h:Dlaws_FnCutUp_0 n t7 t10 za zu zv zw=some r):Wk Tryz.prog H Y 6 [.code (cp [1,1,1,1,1,0,1,0,0] (bodyOf Tryz.f6)),.code (cp [1,1,1,1,1,0,1,0,1] (bodyOf Tryz.f6)),.code (cp [1,1,1,1,1,1] (bodyOf Tryz.f6))] (FinX Tryz.prog Tryz.f6 [] (bl r) []) ⟨[(4,.ptr 4 0),(7,bl t7),(10,bl t10)],[(4,⟨true,0,[i64 za,i64 zu,i64 zv,i64 zw]⟩)]⟩:=by
 unfold Dlaws_FnCutUp_0 at h
 refine x_frk 5 [] onil h (by kernel_rfl) (fun h=>?_) (fun h=>?_)
 ·obtain⟨v4,y4,h⟩:=bm h
  refine x_frk 4 [(1,.call [] [] (bl v4) [])] (ocons (Tspec_PlaneOk (Y:=Y) n (Pl.mk za zu zv zw) _ y4) onil) h (by kernel_rfl) (fun h=>?_) (fun h=>?_)
  ·replace h:=sj h;subst h
   exact x_end 6 [] [] onil onil 
  ·obtain⟨v5,y5,h⟩:=bm h
   replace h:=sj h;subst h
   exact x_end 6 [(1,.call [] [] (bl v5) [])] [] (ocons (Timpl_PlaneOk (Y:=Y) n (Pl.mk za zu zv zw) _ y5) onil) onil 
 ·replace h:=sj h;subst h
  exact x_end 10 [] [] onil onil 
def Dlaws_FnCutUp_1(n:Nat)(t7 t10 t44 ze:Bool)(zf zs zt zas:Int)(zbl:List Sol)(za zu zv zw:Int)(zx:Bool)(zy zz zaa zat:Int)(zau:List Sol)(zah:Bool)(zai zaj zak zal:Int)(zax:List Sol):Option Bool :=
 frk t44 (frk (t7==t10) ((Dspec_PlaneOk n (Pl.mk za zu zv zw)).bind fun v6=>frk (!v6) (some true) ((Dimpl_PlaneOk n (Pl.mk za zu zv zw)).bind fun v7=>some v7)) (some false)) ((Dimpl_HalfOf n (Pl.mk za zu zv zw)).bind fun v8=>(Dimpl_All n [(Sol.mk zx (Pl.mk zy zz zaa zat) zau),(Sol.mk zah (Pl.mk zai zaj zak zal) zax)] 2).bind fun v9=>(Dspec_All n [(Sol.mk zx (Pl.mk zy zz zaa zat) zau),(Sol.mk zah (Pl.mk zai zaj zak zal) zax)] 2).bind fun v10=>frk (!(v9.2==v10.2)) (some false) ((Dimpl_Inside n (Sol.mk zx (Pl.mk zy zz zaa zat) zau) (Sol.mk ze (Pl.mk zf zs zt zas) zbl)).bind fun v11=>frk v11 ((Dimpl_Inside n (Sol.mk zah (Pl.mk zai zaj zak zal) zax) (Sol.mk ze (Pl.mk zf zs zt zas) zbl)).bind fun v12=>frk v12 ((Dimpl_Inside n (Sol.mk zx (Pl.mk zy zz zaa zat) zau) v8.1).bind fun v13=>frk v13 ((Dimpl_Apart n (Sol.mk zah (Pl.mk zai zaj zak zal) zax) v8.1).bind fun v14=>frk v14 ((Dimpl_Apart n (Sol.mk zx (Pl.mk zy zz zaa zat) zau) (Sol.mk zah (Pl.mk zai zaj zak zal) zax)).bind fun v15=>frk v15 (frk (!v9.2) (some true) ((Dimpl_Same n v9.1 (Sol.mk ze (Pl.mk zf zs zt zas) zbl)).bind fun v16=>some v16)) (some false)) (some false)) (some false)) (some false)) (some false)))
theorem Tlaws_FnCutUp_1{Y}(n:Nat)(t7 t10 t44 ze:Bool)(zf zs zt zas:Int)(zbl:List Sol)(za zu zv zw:Int)(zx:Bool)(zy zz zaa zat:Int)(zau:List Sol)(zah:Bool)(zai zaj zak zal:Int)(zax:List Sol)(r:Bool)(h:Dlaws_FnCutUp_1 n t7 t10 t44 ze zf zs zt zas zbl za zu zv zw zx zy zz zaa zat zau zah zai zaj zak zal zax=some r):Wk Tryz.prog H Y 6 [.code (cp [1,1,1,1,1,0,1] (bodyOf Tryz.f6)),.code (cp [1,1,1,1,1,1] (bodyOf Tryz.f6))] (FinX Tryz.prog Tryz.f6 [] (bl r) []) ⟨[(3,.ptr 3 0),(4,.ptr 4 0),(5,.ptr 5 0),(6,.ptr 6 0),(7,bl t7),(10,bl t10),(44,bl t44)],[(3,⟨true,0,[bl ze,i64 zf,i64 zs,i64 zt,i64 zas,.sl false 6 zbl.length ((eSol false).f zbl)]⟩),(4,⟨true,0,[i64 za,i64 zu,i64 zv,i64 zw]⟩),(5,⟨true,0,[bl zx,i64 zy,i64 zz,i64 zaa,i64 zat,.sl true 6 zau.length ((eSol true).f zau)]⟩),(6,⟨true,0,[bl zah,i64 zai,i64 zaj,i64 zak,i64 zal,.sl true 6 zax.length ((eSol true).f zax)]⟩)]⟩:=by
 unfold Dlaws_FnCutUp_1 at h
 refine x_frk 0 [] onil h (by kernel_rfl) (fun h=>?_) (fun h=>?_)
 ·refine x_frk 6 [] onil h (by kernel_rfl) (fun h=>?_) (fun h=>?_)
  ·obtain⟨v6,y6,h⟩:=bm h
   refine x_frk 4 [(1,.call [] [] (bl v6) [])] (ocons (Tspec_PlaneOk (Y:=Y) n (Pl.mk za zu zv zw) _ y6) onil) h (by kernel_rfl) (fun h=>?_) (fun h=>?_)
   ·replace h:=sj h;subst h
    exact x_end 6 [] [] onil onil 
   ·obtain⟨v7,y7,h⟩:=bm h
    replace h:=sj h;subst h
    exact x_end 6 [(1,.call [] [] (bl v7) [])] [] (ocons (Timpl_PlaneOk (Y:=Y) n (Pl.mk za zu zv zw) _ y7) onil) onil 
  ·replace h:=sj h;subst h
   exact x_end 10 [] [] onil onil 
 ·obtain⟨v8,y8,h⟩:=bm h
  obtain⟨v9,y9,h⟩:=bm h
  obtain⟨v10,y10,h⟩:=bm h
  refine x_frk 47 [(1,.call [] [] (.tup [eS v8.1,bl v8.2]) []),(6,.rows [(eSol false).f zau]),(0,.rows [(eSol false).f zax]),(1,.fixb 65 ⟨true,6,(eSol false).f [(Sol.mk zx (Pl.mk zy zz zaa zat) zau),(Sol.mk zah (Pl.mk zai zaj zak zal) zax)]⟩),(0,.call [] [(eSol false).f [(Sol.mk zx (Pl.mk zy zz zaa zat) zau),(Sol.mk zah (Pl.mk zai zaj zak zal) zax)]] (.tup [eS v9.1,bl v9.2]) []),(6,.rows [(eSol false).f zau]),(0,.rows [(eSol false).f zax]),(1,.fixb 72 ⟨true,6,(eSol false).f [(Sol.mk zx (Pl.mk zy zz zaa zat) zau),(Sol.mk zah (Pl.mk zai zaj zak zal) zax)]⟩),(0,.call [] [(eSol false).f [(Sol.mk zx (Pl.mk zy zz zaa zat) zau),(Sol.mk zah (Pl.mk zai zaj zak zal) zax)]] (.tup [eS v10.1,bl v10.2]) [])] (ocons (Timpl_HalfOf (Y:=Y) n (Pl.mk za zu zv zw) _ y8) (ocons (Enc.share (eSol true) (eSol false) (sSol true) zau) (ocons (Enc.share (eSol true) (eSol false) (sSol true) zax) (ocons (boxSol true false [(Sol.mk zx (Pl.mk zy zz zaa zat) zau),(Sol.mk zah (Pl.mk zai zaj zak zal) zax)]) (ocons (Timpl_All (Y:=Y) n [(Sol.mk zx (Pl.mk zy zz zaa zat) zau),(Sol.mk zah (Pl.mk zai zaj zak zal) zax)] 2 _ y9) (ocons (len_row (L:=[(Sol.mk zx (Pl.mk zy zz zaa zat) zau),(Sol.mk zah (Pl.mk zai zaj zak zal) zax)]) (eSol false)) (ocons (Enc.share (eSol false) (eSol false) (sSol false) [(Sol.mk zx (Pl.mk zy zz zaa zat) zau),(Sol.mk zah (Pl.mk zai zaj zak zal) zax)]) (ocons (show hasSh (.tup [eS v9.1,bl v9.2])=false by simp[eS,hasSh,hasShL,nSh,nShI,nShB,nShP,nShT,nShN,nShPs]) (ocons (Enc.share (eSol true) (eSol false) (sSol true) zau) (ocons (Enc.share (eSol true) (eSol false) (sSol true) zax) (ocons (boxSol true false [(Sol.mk zx (Pl.mk zy zz zaa zat) zau),(Sol.mk zah (Pl.mk zai zaj zak zal) zax)]) (ocons (Tspec_All (Y:=Y) n [(Sol.mk zx (Pl.mk zy zz zaa zat) zau),(Sol.mk zah (Pl.mk zai zaj zak zal) zax)] 2 _ y10) (ocons (len_row (L:=[(Sol.mk zx (Pl.mk zy zz zaa zat) zau),(Sol.mk zah (Pl.mk zai zaj zak zal) zax)]) (eSol false)) (ocons (Enc.share (eSol false) (eSol false) (sSol false) [(Sol.mk zx (Pl.mk zy zz zaa zat) zau),(Sol.mk zah (Pl.mk zai zaj zak zal) zax)]) (ocons (show hasSh (.tup [eS v10.1,bl v10.2])=false by simp[eS,hasSh,hasShL,nSh,nShI,nShB,nShP,nShT,nShN,nShPs]) onil))))))))))))))) h (by kernel_rfl) (fun h=>?_) (fun h=>?_)
  ·replace h:=sj h;subst h
   exact x_end 4 [] [] onil onil 
  ·obtain⟨v11,y11,h⟩:=bm h
   refine x_frk 7 [(0,.rows [(eSol false).f zau]),(1,.call [] [] (bl v11) [])] (ocons (Enc.share (eSol true) (eSol false) (sSol true) zau) (ocons (Timpl_Inside (Y:=Y) n (Sol.mk zx (Pl.mk zy zz zaa zat) zau) (Sol.mk ze (Pl.mk zf zs zt zas) zbl) _ y11) onil)) h (by kernel_rfl) (fun h=>?_) (fun h=>?_)
   ·obtain⟨v12,y12,h⟩:=bm h
    refine x_frk 5 [(0,.rows [(eSol false).f zax]),(1,.call [] [] (bl v12) [])] (ocons (Enc.share (eSol true) (eSol false) (sSol true) zax) (ocons (Timpl_Inside (Y:=Y) n (Sol.mk zah (Pl.mk zai zaj zak zal) zax) (Sol.mk ze (Pl.mk zf zs zt zas) zbl) _ y12) onil)) h (by kernel_rfl) (fun h=>?_) (fun h=>?_)
    ·obtain⟨v13,y13,h⟩:=bm h
     refine x_frk 5 [(0,.rows [(eSol false).f zau]),(0,.rows [(eSol false).f v8.1.kids]),(0,.call [] [] (bl v13) [])] (ocons (Enc.share (eSol true) (eSol false) (sSol true) zau) (ocons (Enc.share (eSol true) (eSol false) (sSol true) v8.1.kids) (ocons (Timpl_Inside (Y:=Y) n (Sol.mk zx (Pl.mk zy zz zaa zat) zau) v8.1 _ y13) onil))) h (by kernel_rfl) (fun h=>?_) (fun h=>?_)
     ·obtain⟨v14,y14,h⟩:=bm h
      refine x_frk 5 [(0,.rows [(eSol false).f zax]),(0,.rows [(eSol false).f v8.1.kids]),(0,.call [] [] (bl v14) [])] (ocons (Enc.share (eSol true) (eSol false) (sSol true) zax) (ocons (Enc.share (eSol true) (eSol false) (sSol true) v8.1.kids) (ocons (Timpl_Apart (Y:=Y) n (Sol.mk zah (Pl.mk zai zaj zak zal) zax) v8.1 _ y14) onil))) h (by kernel_rfl) (fun h=>?_) (fun h=>?_)
      ·obtain⟨v15,y15,h⟩:=bm h
       refine x_frk 5 [(0,.rows [(eSol false).f zau]),(0,.rows [(eSol false).f zax]),(0,.call [] [] (bl v15) [])] (ocons (Enc.share (eSol true) (eSol false) (sSol true) zau) (ocons (Enc.share (eSol true) (eSol false) (sSol true) zax) (ocons (Timpl_Apart (Y:=Y) n (Sol.mk zx (Pl.mk zy zz zaa zat) zau) (Sol.mk zah (Pl.mk zai zaj zak zal) zax) _ y15) onil))) h (by kernel_rfl) (fun h=>?_) (fun h=>?_)
       ·refine x_frk 3 [] onil h (by kernel_rfl) (fun h=>?_) (fun h=>?_)
        ·replace h:=sj h;subst h
         exact x_end 7 [] [] onil onil 
        ·obtain⟨v16,y16,h⟩:=bm h
         replace h:=sj h;subst h
         exact x_end 7 [(0,.rows [(eSol false).f v9.1.kids]),(1,.call [] [] (bl v16) [])] [] (ocons (Enc.share (eSol true) (eSol false) (sSol true) v9.1.kids) (ocons (Timpl_Same (Y:=Y) n v9.1 (Sol.mk ze (Pl.mk zf zs zt zas) zbl) _ y16) onil)) onil 
       ·replace h:=sj h;subst h
        exact x_end 10 [] [] onil onil 
      ·replace h:=sj h;subst h
       exact x_end 15 [] [] onil onil 
     ·replace h:=sj h;subst h
      exact x_end 20 [] [] onil onil 
    ·replace h:=sj h;subst h
     exact x_end 25 [] [] onil onil 
   ·replace h:=sj h;subst h
    exact x_end 30 [] [] onil onil 
def Dlaws_FnCutUp(n:Nat)(a0:(List Int)):Option Bool :=
 (Dlaws_big a0).bind fun v0=>frk v0 (some true) ((Dspec_DrawCut n a0).bind fun v1=>(Dimpl_Cut n v1.1 v1.2).bind fun v2=>(Dspec_Cut n v1.1 v1.2).bind fun v3=>frk (!(v2.2.2==v3.2.2)) (Dlaws_FnCutUp_0 n v2.2.2 v3.2.2 v1.2.A v1.2.B v1.2.C v1.2.D) (Dlaws_FnCutUp_1 n v2.2.2 v3.2.2 (!v2.2.2) v1.1.inn v1.1.pl.A v1.1.pl.B v1.1.pl.C v1.1.pl.D v1.1.kids v1.2.A v1.2.B v1.2.C v1.2.D v2.1.inn v2.1.pl.A v2.1.pl.B v2.1.pl.C v2.1.pl.D v2.1.kids v2.2.1.inn v2.2.1.pl.A v2.2.1.pl.B v2.2.1.pl.C v2.2.1.pl.D v2.2.1.kids))
theorem Tlaws_FnCutUp{Y}(n:Nat)(a0:(List Int))(r:Bool)(h:Dlaws_FnCutUp n a0=some r):Big Tryz.prog H Y (.call 6 [.sl false 1 a0.length ((eU8).f a0)] (lk []) (bl r) (lk [])):=by
 unfold Dlaws_FnCutUp at h
 refine x_call (fn:=Tryz.f6) (c:=bodyOf Tryz.f6) (bs0:=[]) Tryz.func6 (by kernel_rfl) (by kernel_rfl) ?_
 obtain⟨v0,y0,h⟩:=bm h
 refine x_frk 10 [(2,.call [] [] (bl v0) [])] (ocons (Tlaws_big (Y:=Y) a0 _ y0) onil) h (by kernel_rfl) (fun h=>?_) (fun h=>?_)
 ·replace h:=sj h;subst h
  exact x_end 4 [] [] onil onil 
 ·obtain⟨v1,y1,h⟩:=bm h
  obtain⟨v2,y2,h⟩:=bm h
  obtain⟨v3,y3,h⟩:=bm h
  refine x_frk 50 [(1,.call [] [] (.tup [eF v1.1,.agg [i64 v1.2.A,i64 v1.2.B,i64 v1.2.C,i64 v1.2.D]]) []),(9,.call [] [] (.tup [eS v2.1,eS v2.2.1,bl v2.2.2]) []),(11,.call [] [] (.tup [eS v3.1,eS v3.2.1,bl v3.2.2]) [])] (ocons (Tspec_DrawCut (Y:=Y) n a0 _ y1) (ocons (Timpl_Cut (Y:=Y) n v1.1 v1.2 _ y2) (ocons (Tspec_Cut (Y:=Y) n v1.1 v1.2 _ y3) onil))) h (by kernel_rfl) (fun h=>?_) (fun h=>?_)
  ·exact x_to 6 [] onil (Tlaws_FnCutUp_0 n v2.2.2 v3.2.2 v1.2.A v1.2.B v1.2.C v1.2.D r h) 
  ·exact x_to 4 [] onil (Tlaws_FnCutUp_1 n v2.2.2 v3.2.2 (!v2.2.2) v1.1.inn v1.1.pl.A v1.1.pl.B v1.1.pl.C v1.1.pl.D v1.1.kids v1.2.A v1.2.B v1.2.C v1.2.D v2.1.inn v2.1.pl.A v2.1.pl.B v2.1.pl.C v2.1.pl.D v2.1.kids v2.2.1.inn v2.2.1.pl.A v2.2.1.pl.B v2.2.1.pl.C v2.2.1.pl.D v2.2.1.kids r h) 
end Evl.T
