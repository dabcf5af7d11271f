
/- Walks. No condition. -/
import Derived.Test.YtjmnnljfhoeaaaaGreatWx
namespace Evl.T
open Go Evl Go.Proofs
set_option maxRecDepth 100000
def Dimpl_Put_0(_n:Nat)(_zah:Bool)(_zai _zaj _zak _zal:Int):Option (Sol×Bool) :=
 (Dimpl_Leaf false).bind fun v1=>some (v1,false)
theorem Timpl_Put_0{Y}(n:Nat)(zah:Bool)(zai zaj zak zal:Int)(r:(Sol×Bool))(h:Dimpl_Put_0 n zah zai zaj zak zal=some r):Wk Tryz.prog H Y 22 [.code (cp [1,0,1,0,0] (bodyOf Tryz.f22)),.code (cp [1,0,1,0,1] (bodyOf Tryz.f22)),.code (cp [1,1] (bodyOf Tryz.f22))] (FinX Tryz.prog Tryz.f22 [] (.tup [eS r.1,bl r.2]) []) ⟨[(6,.ptr 6 0)],[(6,⟨true,0,[bl zah,i64 zai,i64 zaj,i64 zak,i64 zal,.nil]⟩)]⟩:=by
 unfold Dimpl_Put_0 at h
 obtain⟨v1,y1,h⟩:=bm h
 replace h:=sj h;subst h
 exact x_end 5 [(0,.call [] [] (eS v1) [])] [] (ocons (Timpl_Leaf (Y:=Y) false _ y1) onil) onil 
def Dimpl_Put_1(n:Nat)(t2:Int)(t20 ze:Bool)(zf zs zt zax:Int)(zay:List Sol)(za:Bool)(zu zv zw zao:Int)(zap:List Sol)(_zah:Bool)(_zai _zaj _zak _zal:Int):Option (Sol×Bool) :=
 frk t20 ((Dimpl_Leaf false).bind fun v4=>some (v4,false)) ((Dimpl_put n (Sol.mk ze (Pl.mk zf zs zt zax) zay) (Sol.mk za (Pl.mk zu zv zw zao) zap) t2).bind fun v5=>some v5)
theorem Timpl_Put_1{Y}(n:Nat)(t2:Int)(t20 ze:Bool)(zf zs zt zax:Int)(zay:List Sol)(za:Bool)(zu zv zw zao:Int)(zap:List Sol)(zah:Bool)(zai zaj zak zal:Int)(r:(Sol×Bool))(h:Dimpl_Put_1 n t2 t20 ze zf zs zt zax zay za zu zv zw zao zap zah zai zaj zak zal=some r):Wk Tryz.prog H Y 22 [.code (cp [1,0,1] (bodyOf Tryz.f22)),.code (cp [1,1] (bodyOf Tryz.f22))] (FinX Tryz.prog Tryz.f22 [] (.tup [eS r.1,bl r.2]) []) ⟨[(2,i64 t2),(3,.ptr 3 0),(4,.ptr 4 0),(6,.ptr 6 0),(20,bl t20)],[(3,⟨true,0,[bl ze,i64 zf,i64 zs,i64 zt,i64 zax,.sl false 6 zay.length ((eSol false).f zay)]⟩),(4,⟨true,0,[bl za,i64 zu,i64 zv,i64 zw,i64 zao,.sl false 6 zap.length ((eSol false).f zap)]⟩),(6,⟨true,0,[bl zah,i64 zai,i64 zaj,i64 zak,i64 zal,.nil]⟩)]⟩:=by
 unfold Dimpl_Put_1 at h
 refine x_frk 0 [] onil h (by kernel_rfl) (fun h=>?_) (fun h=>?_)
 ·obtain⟨v4,y4,h⟩:=bm h
  replace h:=sj h;subst h
  exact x_end 6 [(0,.call [] [] (eS v4) [])] [] (ocons (Timpl_Leaf (Y:=Y) false _ y4) onil) onil 
 ·obtain⟨v5,y5,h⟩:=bm h
  replace h:=sj h;subst h
  exact x_end 12 [(3,.call [] [] (.tup [eS v5.1,bl v5.2]) [])] [] (ocons (Timpl_put (Y:=Y) n (Sol.mk ze (Pl.mk zf zs zt zax) zay) (Sol.mk za (Pl.mk zu zv zw zao) zap) t2 _ y5) onil) onil 
def Dimpl_Put(n:Nat)(a0:Sol)(a1:Sol)(a2:Int):Option (Sol×Bool) :=
 (Dimpl_isOp a2).bind fun v0=>frk (!v0) (Dimpl_Put_0 n false 0 0 0 0) ((Dimpl_SolidOk n a0).bind fun v2=>frk (!v2) (Dimpl_Put_0 n false 0 0 0 0) ((Dimpl_SolidOk n a1).bind fun v3=>Dimpl_Put_1 n a2 (!v3) a0.inn a0.pl.A a0.pl.B a0.pl.C a0.pl.D a0.kids a1.inn a1.pl.A a1.pl.B a1.pl.C a1.pl.D a1.kids false 0 0 0 0))
theorem Timpl_Put{Y}(n:Nat)(a0:Sol)(a1:Sol)(a2:Int)(r:(Sol×Bool))(h:Dimpl_Put n a0 a1 a2=some r):Big Tryz.prog H Y (.call 22 [eF a0,eF a1,i64 a2] (lk []) (.tup [eS r.1,bl r.2]) (lk [])):=by
 unfold Dimpl_Put at h
 refine x_call (fn:=Tryz.f22) (c:=bodyOf Tryz.f22) (bs0:=[]) Tryz.func22 (by kernel_rfl) (by kernel_rfl) ?_
 obtain⟨v0,y0,h⟩:=bm h
 refine x_frk 14 [(5,.call [] [] (bl v0) [])] (ocons (Timpl_isOp (Y:=Y) a2 _ y0) onil) h (by kernel_rfl) (fun h=>?_) (fun h=>?_)
 ·exact x_to 12 [] onil (Timpl_Put_0 n false 0 0 0 0 r h) 
 ·obtain⟨v2,y2,h⟩:=bm h
  refine x_frk 5 [(1,.call [] [] (bl v2) [])] (ocons (Timpl_SolidOk (Y:=Y) n a0 _ y2) onil) h (by kernel_rfl) (fun h=>?_) (fun h=>?_)
  ·exact x_to 7 [] onil (Timpl_Put_0 n false 0 0 0 0 r h) 
  ·obtain⟨v3,y3,h⟩:=bm h
   exact x_to 5 [(1,.call [] [] (bl v3) [])] (ocons (Timpl_SolidOk (Y:=Y) n a1 _ y3) onil) (Timpl_Put_1 n a2 (!v3) a0.inn a0.pl.A a0.pl.B a0.pl.C a0.pl.D a0.kids a1.inn a1.pl.A a1.pl.B a1.pl.C a1.pl.D a1.kids false 0 0 0 0 r h) 
def Dimpl_Solid_has_b(_n:Nat)(self:(Sol×Bool)→Option Bool)(a:(Sol×Bool)):Option Bool :=
 match a with
 | (a0,a1)=>(Dimpl_Solid_isLeaf a0).bind fun v0=>frk v0 (some (a0.inn==a1)) ((lget a0.kids 0).bind fun v1=>(self (v1,a1)).bind fun v2=>frk v2 (some true) ((lget a0.kids 1).bind fun v3=>(self (v3,a1)).bind fun v4=>some v4))
def Dimpl_Solid_has(n:Nat)(a0:Sol)(a1:Bool):Option Bool:=loopN (Dimpl_Solid_has_b n) n (a0,a1)
theorem Timpl_Solid_has_b{Y}(n:Nat):∀(m:Nat) (a:(Sol×Bool)) (r:Bool),loopN (Dimpl_Solid_has_b n) m a=some r→∀(q0:List AV),Big Tryz.prog H Y (.call 90 [.cptr ([bl a.1.inn,i64 a.1.pl.A,i64 a.1.pl.B,i64 a.1.pl.C,i64 a.1.pl.D,.sl false 6 a.1.kids.length ((eSol false).f a.1.kids)]++q0),bl a.2] (lk []) (bl r) (lk [])):=by
 refine loopN_ind (fun self hs a r h=>?_)
 have hself:∀(a:(Sol×Bool)) (q0:List AV) (r:Bool),self a=some r→Big Tryz.prog H Y (.call 90 [.cptr ([bl a.1.inn,i64 a.1.pl.A,i64 a.1.pl.B,i64 a.1.pl.C,i64 a.1.pl.D,.sl false 6 a.1.kids.length ((eSol false).f a.1.kids)]++q0),bl a.2] (lk []) (bl r) (lk [])):=fun a q0 r h=>hs a r h q0
 intro q0
 obtain⟨a0,a1⟩:=a
 unfold Dimpl_Solid_has_b at h
 refine x_call (fn:=Tryz.f90) (c:=bodyOf Tryz.f90) (bs0:=[]) Tryz.func90 (by kernel_rfl) (by kernel_rfl) ?_
 obtain⟨v0,y0,h⟩:=bm h
 refine x_frk 10 [(2,.call [] [] (bl v0) [])] (ocons (Timpl_Solid_isLeaf (Y:=Y) a0 q0 _ y0) onil) h (by kernel_rfl) (fun h=>?_) (fun h=>?_)
 ·replace h:=sj h;subst h
  exact x_end 10 [] [] onil onil 
 ·obtain⟨v1,y1,h⟩:=bm h
  obtain⟨v2,y2,h⟩:=bm h
  refine x_frk 11 [(4,.val (.cptr ((eSol false).c v1++(eSol false).f ((a0.kids).drop (Int.toNat 0+1))))),(1,.call [] [] (bl v2) [])] (ocons (ix (eSol false) y1) (ocons (hself (v1,a1) ((eSol false).f ((a0.kids).drop (Int.toNat 0+1))) _ y2) onil)) h (by kernel_rfl) (fun h=>?_) (fun h=>?_)
  ·replace h:=sj h;subst h
   exact x_end 10 [] [] onil onil 
  ·obtain⟨v3,y3,h⟩:=bm h
   obtain⟨v4,y4,h⟩:=bm h
   replace h:=sj h;subst h
   exact x_end 10 [(4,.val (.cptr ((eSol false).c v3++(eSol false).f ((a0.kids).drop (Int.toNat 1+1))))),(1,.call [] [] (bl v4) [])] [] (ocons (ix (eSol false) y3) (ocons (hself (v3,a1) ((eSol false).f ((a0.kids).drop (Int.toNat 1+1))) _ y4) onil)) onil 
theorem Timpl_Solid_has{Y}(n:Nat)(a0:Sol)(a1:Bool)(q0:List AV)(r:Bool)(h:Dimpl_Solid_has n a0 a1=some r):Big Tryz.prog H Y (.call 90 [.cptr ([bl a0.inn,i64 a0.pl.A,i64 a0.pl.B,i64 a0.pl.C,i64 a0.pl.D,.sl false 6 a0.kids.length ((eSol false).f a0.kids)]++q0),bl a1] (lk []) (bl r) (lk [])):=Timpl_Solid_has_b n n (a0,a1) r h q0
def Dimpl_isNothing(n:Nat)(a0:Sol)(a1:Sol)(a2:Int):Option Bool :=
 (Dimpl_Put n a0 a1 a2).bind fun v0=>frk v0.2 ((Dimpl_Solid_has n v0.1 true).bind fun v1=>some (!v1)) (some false)
theorem Timpl_isNothing{Y}(n:Nat)(a0:Sol)(a1:Sol)(a2:Int)(r:Bool)(h:Dimpl_isNothing n a0 a1 a2=some r):Big Tryz.prog H Y (.call 89 [eF a0,eF a1,i64 a2] (lk []) (bl r) (lk [])):=by
 unfold Dimpl_isNothing at h
 refine x_call (fn:=Tryz.f89) (c:=bodyOf Tryz.f89) (bs0:=[]) Tryz.func89 (by kernel_rfl) (by kernel_rfl) ?_
 obtain⟨v0,y0,h⟩:=bm h
 refine x_frk 23 [(6,.call [] [] (.tup [eS v0.1,bl v0.2]) [])] (ocons (Timpl_Put (Y:=Y) n a0 a1 a2 _ y0) onil) h (by kernel_rfl) (fun h=>?_) (fun h=>?_)
 ·obtain⟨v1,y1,h⟩:=bm h
  replace h:=sj h;subst h
  exact x_end 5 [(0,.call [] [(eSol false).f v0.1.kids] (bl v1) [])] [] (ocons (Timpl_Solid_has (Y:=Y) n v0.1 true [] _ y1) (ocons (Enc.share (eSol true) (eSol false) (sSol true) v0.1.kids) onil)) onil 
 ·replace h:=sj h;subst h
  exact x_end 5 [] [] onil onil 
def Dimpl_Same(n:Nat)(a0:Sol)(a1:Sol):Option Bool :=
 (Dimpl_isNothing n a0 a1 4).bind fun v0=>some v0
theorem Timpl_Same{Y}(n:Nat)(a0:Sol)(a1:Sol)(r:Bool)(h:Dimpl_Same n a0 a1=some r):Big Tryz.prog H Y (.call 24 [eF a0,eF a1] (lk []) (bl r) (lk [])):=by
 unfold Dimpl_Same at h
 refine x_call (fn:=Tryz.f24) (c:=bodyOf Tryz.f24) (bs0:=[]) Tryz.func24 (by kernel_rfl) (by kernel_rfl) ?_
 obtain⟨v0,y0,h⟩:=bm h
 replace h:=sj h;subst h
 exact x_end 13 [(5,.call [] [] (bl v0) [])] [] (ocons (Timpl_isNothing (Y:=Y) n a0 a1 4 _ y0) onil) onil 
def Dimpl_NodesOf(n:Nat)(a0:Sol):Option Int :=
 (Dimpl_SolidOk n a0).bind fun v0=>frk (!v0) (some 0) ((Dimpl_Solid_nodes n a0).bind fun v1=>some v1)
theorem Timpl_NodesOf{Y}(n:Nat)(a0:Sol)(r:Int)(h:Dimpl_NodesOf n a0=some r):Big Tryz.prog H Y (.call 60 [eF a0] (lk []) (i64 r) (lk [])):=by
 unfold Dimpl_NodesOf at h
 refine x_call (fn:=Tryz.f60) (c:=bodyOf Tryz.f60) (bs0:=[]) Tryz.func60 (by kernel_rfl) (by kernel_rfl) ?_
 obtain⟨v0,y0,h⟩:=bm h
 refine x_frk 12 [(3,.call [] [] (bl v0) [])] (ocons (Timpl_SolidOk (Y:=Y) n a0 _ y0) onil) h (by kernel_rfl) (fun h=>?_) (fun h=>?_)
 ·replace h:=sj h;subst h
  exact x_end 4 [] [] onil onil 
 ·obtain⟨v1,y1,h⟩:=bm h
  replace h:=sj h;subst h
  exact x_end 6 [(0,.call [] [] (i64 v1) [])] [] (ocons (Timpl_Solid_nodes (Y:=Y) n a0 [] _ y1) onil) onil 
def Dlaws_FnTidied_0(n:Nat)(t6 t8 ze:Bool)(zf zs zt zax:Int)(zay:List Sol)(zx:Bool)(zy zz zaa zaq:Int)(zar:List Sol):Option Bool :=
 (Dspec_Put n (Sol.mk zx (Pl.mk zy zz zaa zaq) zar) (Sol.mk ze (Pl.mk zf zs zt zax) zay) 4).bind fun v8=>frk (t6==t8) (some (!v8.2)) (some false)
theorem Tlaws_FnTidied_0{Y}(n:Nat)(t6 t8 ze:Bool)(zf zs zt zax:Int)(zay:List Sol)(zx:Bool)(zy zz zaa zaq:Int)(zar:List Sol)(r:Bool)(h:Dlaws_FnTidied_0 n t6 t8 ze zf zs zt zax zay zx zy zz zaa zaq zar=some r):Wk Tryz.prog H Y 10 [.code (cp [1,1,1,1,1,1,1,0,1,0,0] (bodyOf Tryz.f10)),.code (cp [1,1,1,1,1,1,1,0,1,0,1] (bodyOf Tryz.f10)),.code (cp [1,1,1,1,1,1,1,1] (bodyOf Tryz.f10))] (FinX Tryz.prog Tryz.f10 [] (bl r) []) ⟨[(3,.ptr 3 0),(5,.ptr 5 0),(6,bl t6),(8,bl t8)],[(3,⟨true,0,[bl ze,i64 zf,i64 zs,i64 zt,i64 zax,.sl false 6 zay.length ((eSol false).f zay)]⟩),(5,⟨true,0,[bl zx,i64 zy,i64 zz,i64 zaa,i64 zaq,.sl true 6 zar.length ((eSol true).f zar)]⟩)]⟩:=by
 unfold Dlaws_FnTidied_0 at h
 obtain⟨v8,y8,h⟩:=bm h
 refine x_frk 17 [(0,.rows [(eSol false).f zar]),(1,.call [] [] (.tup [eS v8.1,bl v8.2]) [])] (ocons (Enc.share (eSol true) (eSol false) (sSol true) zar) (ocons (Tspec_Put (Y:=Y) n (Sol.mk zx (Pl.mk zy zz zaa zaq) zar) (Sol.mk ze (Pl.mk zf zs zt zax) zay) 4 _ y8) onil)) h (by kernel_rfl) (fun h=>?_) (fun h=>?_)
 ·replace h:=sj h;subst h
  exact x_end 5 [] [] onil onil 
 ·replace h:=sj h;subst h
  exact x_end 5 [] [] onil onil 
def Dlaws_FnTidied_1(n:Nat)(t6 t8 t49 ze:Bool)(zf zs zt zax:Int)(zay:List Sol)(za:Bool)(zu zv zw zao:Int)(zap:List Sol)(zx:Bool)(zy zz zaa zaq:Int)(zar:List Sol):Option Bool :=
 frk t49 ((Dspec_Put n (Sol.mk zx (Pl.mk zy zz zaa zaq) zar) (Sol.mk ze (Pl.mk zf zs zt zax) zay) 4).bind fun v10=>frk (t6==t8) (some (!v10.2)) (some false)) ((Dimpl_SolidOk n (Sol.mk za (Pl.mk zu zv zw zao) zap)).bind fun v11=>frk v11 ((Dimpl_Same n (Sol.mk za (Pl.mk zu zv zw zao) zap) (Sol.mk ze (Pl.mk zf zs zt zax) zay)).bind fun v12=>frk v12 ((Dimpl_NodesOf n (Sol.mk za (Pl.mk zu zv zw zao) zap)).bind fun v13=>(Dimpl_Spare n (Sol.mk ze (Pl.mk zf zs zt zax) zay)).bind fun v14=>(Dimpl_NodesOf n (Sol.mk ze (Pl.mk zf zs zt zax) zay)).bind fun v15=>frk ((w64 (v13+v14))==v15) ((Dimpl_Spare n (Sol.mk ze (Pl.mk zf zs zt zax) zay)).bind fun v16=>frk (decide (v16≥0)) ((Dimpl_Tidy n (Sol.mk za (Pl.mk zu zv zw zao) zap)).bind fun v17=>(Dimpl_SameTree n v17 (Sol.mk za (Pl.mk zu zv zw zao) zap)).bind fun v18=>some v18) (some false)) (some false)) (some false)) (some false))
theorem Tlaws_FnTidied_1{Y}(n:Nat)(t6 t8 t49 ze:Bool)(zf zs zt zax:Int)(zay:List Sol)(za:Bool)(zu zv zw zao:Int)(zap:List Sol)(zx:Bool)(zy zz zaa zaq:Int)(zar:List Sol)(r:Bool)(h:Dlaws_FnTidied_1 n t6 t8 t49 ze zf zs zt zax zay za zu zv zw zao zap zx zy zz zaa zaq zar=some r):Wk Tryz.prog H Y 10 [.code (cp [1,1,1,1,1,1,1,0,1] (bodyOf Tryz.f10)),.code (cp [1,1,1,1,1,1,1,1] (bodyOf Tryz.f10))] (FinX Tryz.prog Tryz.f10 [] (bl r) []) ⟨[(3,.ptr 3 0),(4,.ptr 4 0),(5,.ptr 5 0),(6,bl t6),(8,bl t8),(49,bl t49)],[(3,⟨true,0,[bl ze,i64 zf,i64 zs,i64 zt,i64 zax,.sl false 6 zay.length ((eSol false).f zay)]⟩),(4,⟨true,0,[bl za,i64 zu,i64 zv,i64 zw,i64 zao,.sl true 6 zap.length ((eSol true).f zap)]⟩),(5,⟨true,0,[bl zx,i64 zy,i64 zz,i64 zaa,i64 zaq,.sl true 6 zar.length ((eSol true).f zar)]⟩)]⟩:=by
 unfold Dlaws_FnTidied_1 at h
 refine x_frk 0 [] onil h (by kernel_rfl) (fun h=>?_) (fun h=>?_)
 ·obtain⟨v10,y10,h⟩:=bm h
  refine x_frk 18 [(0,.rows [(eSol false).f zar]),(1,.call [] [] (.tup [eS v10.1,bl v10.2]) [])] (ocons (Enc.share (eSol true) (eSol false) (sSol true) zar) (ocons (Tspec_Put (Y:=Y) n (Sol.mk zx (Pl.mk zy zz zaa zaq) zar) (Sol.mk ze (Pl.mk zf zs zt zax) zay) 4 _ y10) onil)) h (by kernel_rfl) (fun h=>?_) (fun h=>?_)
  ·replace h:=sj h;subst h
   exact x_end 5 [] [] onil onil 
  ·replace h:=sj h;subst h
   exact x_end 5 [] [] onil onil 
 ·obtain⟨v11,y11,h⟩:=bm h
  refine x_frk 6 [(0,.rows [(eSol false).f zap]),(0,.call [] [] (bl v11) [])] (ocons (Enc.share (eSol true) (eSol false) (sSol true) zap) (ocons (Timpl_SolidOk (Y:=Y) n (Sol.mk za (Pl.mk zu zv zw zao) zap) _ y11) onil)) h (by kernel_rfl) (fun h=>?_) (fun h=>?_)
  ·obtain⟨v12,y12,h⟩:=bm h
   refine x_frk 5 [(0,.rows [(eSol false).f zap]),(1,.call [] [] (bl v12) [])] (ocons (Enc.share (eSol true) (eSol false) (sSol true) zap) (ocons (Timpl_Same (Y:=Y) n (Sol.mk za (Pl.mk zu zv zw zao) zap) (Sol.mk ze (Pl.mk zf zs zt zax) zay) _ y12) onil)) h (by kernel_rfl) (fun h=>?_) (fun h=>?_)
   ·obtain⟨v13,y13,h⟩:=bm h
    obtain⟨v14,y14,h⟩:=bm h
    obtain⟨v15,y15,h⟩:=bm h
    refine x_frk 10 [(0,.rows [(eSol false).f zap]),(0,.call [] [] (i64 v13) []),(1,.call [] [] (i64 v14) []),(2,.call [] [] (i64 v15) [])] (ocons (Enc.share (eSol true) (eSol false) (sSol true) zap) (ocons (Timpl_NodesOf (Y:=Y) n (Sol.mk za (Pl.mk zu zv zw zao) zap) _ y13) (ocons (Timpl_Spare (Y:=Y) n (Sol.mk ze (Pl.mk zf zs zt zax) zay) _ y14) (ocons (Timpl_NodesOf (Y:=Y) n (Sol.mk ze (Pl.mk zf zs zt zax) zay) _ y15) onil)))) h (by kernel_rfl) (fun h=>?_) (fun h=>?_)
    ·obtain⟨v16,y16,h⟩:=bm h
     refine x_frk 5 [(1,.call [] [] (i64 v16) [])] (ocons (Timpl_Spare (Y:=Y) n (Sol.mk ze (Pl.mk zf zs zt zax) zay) _ y16) onil) h (by kernel_rfl) (fun h=>?_) (fun h=>?_)
     ·obtain⟨v17,y17,h⟩:=bm h
      obtain⟨v18,y18,h⟩:=bm h
      replace h:=sj h;subst h
      exact x_end 7 [(0,.rows [(eSol false).f zap]),(0,.call [] [] (eS v17) []),(0,.rows [(eSol false).f zap]),(0,.call [] [(eSol false).f v17.kids] (bl v18) [])] [] (ocons (Enc.share (eSol true) (eSol false) (sSol true) zap) (ocons (Timpl_Tidy (Y:=Y) n (Sol.mk za (Pl.mk zu zv zw zao) zap) _ y17) (ocons (Enc.share (eSol true) (eSol false) (sSol true) zap) (ocons (Timpl_SameTree (Y:=Y) n v17 (Sol.mk za (Pl.mk zu zv zw zao) zap) _ y18) (ocons (Enc.share (eSol true) (eSol false) (sSol true) v17.kids) onil))))) onil 
     ·replace h:=sj h;subst h
      exact x_end 7 [] [] onil onil 
    ·replace h:=sj h;subst h
     exact x_end 12 [] [] onil onil 
   ·replace h:=sj h;subst h
    exact x_end 22 [] [] onil onil 
  ·replace h:=sj h;subst h
   exact x_end 27 [] [] onil onil 
def Dlaws_FnTidied_2(n:Nat)(ze:Bool)(zf zs zt zax:Int)(zay:List Sol)(za:Bool)(zu zv zw zao:Int)(zap:List Sol):Option Bool :=
 (Dimpl_SolidOk n (Sol.mk za (Pl.mk zu zv zw zao) zap)).bind fun v19=>frk v19 ((Dimpl_Same n (Sol.mk za (Pl.mk zu zv zw zao) zap) (Sol.mk ze (Pl.mk zf zs zt zax) zay)).bind fun v20=>frk v20 ((Dimpl_NodesOf n (Sol.mk za (Pl.mk zu zv zw zao) zap)).bind fun v21=>(Dimpl_Spare n (Sol.mk ze (Pl.mk zf zs zt zax) zay)).bind fun v22=>(Dimpl_NodesOf n (Sol.mk ze (Pl.mk zf zs zt zax) zay)).bind fun v23=>frk ((w64 (v21+v22))==v23) ((Dimpl_Spare n (Sol.mk ze (Pl.mk zf zs zt zax) zay)).bind fun v24=>frk (decide (v24≥0)) ((Dimpl_Tidy n (Sol.mk za (Pl.mk zu zv zw zao) zap)).bind fun v25=>(Dimpl_SameTree n v25 (Sol.mk za (Pl.mk zu zv zw zao) zap)).bind fun v26=>some v26) (some false)) (some false)) (some false)) (some false)
theorem Tlaws_FnTidied_2{Y}(n:Nat)(ze:Bool)(zf zs zt zax:Int)(zay:List Sol)(za:Bool)(zu zv zw zao:Int)(zap:List Sol)(r:Bool)(h:Dlaws_FnTidied_2 n ze zf zs zt zax zay za zu zv zw zao zap=some r):Wk Tryz.prog H Y 10 [.code (cp [1,1,1,1,1,1,1,1,0] (bodyOf Tryz.f10)),.code (cp [1,1,1,1,1,1,1,1,1] (bodyOf Tryz.f10))] (FinX Tryz.prog Tryz.f10 [] (bl r) []) ⟨[(3,.ptr 3 0),(4,.ptr 4 0)],[(3,⟨true,0,[bl ze,i64 zf,i64 zs,i64 zt,i64 zax,.sl false 6 zay.length ((eSol false).f zay)]⟩),(4,⟨true,0,[bl za,i64 zu,i64 zv,i64 zw,i64 zao,.sl true 6 zap.length ((eSol true).f zap)]⟩)]⟩:=by
 unfold Dlaws_FnTidied_2 at h
 obtain⟨v19,y19,h⟩:=bm h
 refine x_frk 4 [(0,.rows [(eSol false).f zap]),(0,.call [] [] (bl v19) [])] (ocons (Enc.share (eSol true) (eSol false) (sSol true) zap) (ocons (Timpl_SolidOk (Y:=Y) n (Sol.mk za (Pl.mk zu zv zw zao) zap) _ y19) onil)) h (by kernel_rfl) (fun h=>?_) (fun h=>?_)
 ·obtain⟨v20,y20,h⟩:=bm h
  refine x_frk 5 [(0,.rows [(eSol false).f zap]),(1,.call [] [] (bl v20) [])] (ocons (Enc.share (eSol true) (eSol false) (sSol true) zap) (ocons (Timpl_Same (Y:=Y) n (Sol.mk za (Pl.mk zu zv zw zao) zap) (Sol.mk ze (Pl.mk zf zs zt zax) zay) _ y20) onil)) h (by kernel_rfl) (fun h=>?_) (fun h=>?_)
  ·obtain⟨v21,y21,h⟩:=bm h
   obtain⟨v22,y22,h⟩:=bm h
   obtain⟨v23,y23,h⟩:=bm h
   refine x_frk 10 [(0,.rows [(eSol false).f zap]),(0,.call [] [] (i64 v21) []),(1,.call [] [] (i64 v22) []),(2,.call [] [] (i64 v23) [])] (ocons (Enc.share (eSol true) (eSol false) (sSol true) zap) (ocons (Timpl_NodesOf (Y:=Y) n (Sol.mk za (Pl.mk zu zv zw zao) zap) _ y21) (ocons (Timpl_Spare (Y:=Y) n (Sol.mk ze (Pl.mk zf zs zt zax) zay) _ y22) (ocons (Timpl_NodesOf (Y:=Y) n (Sol.mk ze (Pl.mk zf zs zt zax) zay) _ y23) onil)))) h (by kernel_rfl) (fun h=>?_) (fun h=>?_)
   ·obtain⟨v24,y24,h⟩:=bm h
    refine x_frk 5 [(1,.call [] [] (i64 v24) [])] (ocons (Timpl_Spare (Y:=Y) n (Sol.mk ze (Pl.mk zf zs zt zax) zay) _ y24) onil) h (by kernel_rfl) (fun h=>?_) (fun h=>?_)
    ·obtain⟨v25,y25,h⟩:=bm h
     obtain⟨v26,y26,h⟩:=bm h
     replace h:=sj h;subst h
     exact x_end 7 [(0,.rows [(eSol false).f zap]),(0,.call [] [] (eS v25) []),(0,.rows [(eSol false).f zap]),(0,.call [] [(eSol false).f v25.kids] (bl v26) [])] [] (ocons (Enc.share (eSol true) (eSol false) (sSol true) zap) (ocons (Timpl_Tidy (Y:=Y) n (Sol.mk za (Pl.mk zu zv zw zao) zap) _ y25) (ocons (Enc.share (eSol true) (eSol false) (sSol true) zap) (ocons (Timpl_SameTree (Y:=Y) n v25 (Sol.mk za (Pl.mk zu zv zw zao) zap) _ y26) (ocons (Enc.share (eSol true) (eSol false) (sSol true) v25.kids) onil))))) onil 
    ·replace h:=sj h;subst h
     exact x_end 7 [] [] onil onil 
   ·replace h:=sj h;subst h
    exact x_end 12 [] [] onil onil 
  ·replace h:=sj h;subst h
   exact x_end 22 [] [] onil onil 
 ·replace h:=sj h;subst h
  exact x_end 27 [] [] onil onil 
def Dlaws_FnTidied(n:Nat)(a0:(List Int)):Option Bool :=
 (Dlaws_big a0).bind fun v0=>frk v0 (some true) ((Dspec_DrawTidy n a0).bind fun v1=>(Dimpl_Tidy n v1).bind fun v2=>(Dspec_SolidOk n v1).bind fun v3=>frk (!v3) ((Dimpl_SolidOk n v1).bind fun v4=>frk (!v4) ((Dimpl_Spare n v1).bind fun v5=>some (v5==0)) (some false)) ((Dimpl_Again n v1).bind fun v6=>(Dspec_Again n v1).bind fun v7=>frk (!(v6.2==v7.2)) (Dlaws_FnTidied_0 n v6.2 v7.2 v1.inn v1.pl.A v1.pl.B v1.pl.C v1.pl.D v1.kids v6.1.inn v6.1.pl.A v6.1.pl.B v6.1.pl.C v6.1.pl.D v6.1.kids) (frk v6.2 ((Dimpl_Same n v6.1 v1).bind fun v9=>Dlaws_FnTidied_1 n v6.2 v7.2 (!v9) v1.inn v1.pl.A v1.pl.B v1.pl.C v1.pl.D v1.kids v2.inn v2.pl.A v2.pl.B v2.pl.C v2.pl.D v2.kids v6.1.inn v6.1.pl.A v6.1.pl.B v6.1.pl.C v6.1.pl.D v6.1.kids) (Dlaws_FnTidied_2 n v1.inn v1.pl.A v1.pl.B v1.pl.C v1.pl.D v1.kids v2.inn v2.pl.A v2.pl.B v2.pl.C v2.pl.D v2.kids))))
theorem Tlaws_FnTidied{Y}(n:Nat)(a0:(List Int))(r:Bool)(h:Dlaws_FnTidied n a0=some r):Big Tryz.prog H Y (.call 10 [.sl false 1 a0.length ((eU8).f a0)] (lk []) (bl r) (lk [])):=by
 unfold Dlaws_FnTidied at h
 refine x_call (fn:=Tryz.f10) (c:=bodyOf Tryz.f10) (bs0:=[]) Tryz.func10 (by kernel_rfl) (by kernel_rfl) ?_
 obtain⟨v0,y0,h⟩:=bm h
 refine x_frk 10 [(2,.call [] [] (bl v0) [])] (ocons (Tlaws_big (Y:=Y) a0 _ y0) onil) h (by kernel_rfl) (fun h=>?_) (fun h=>?_)
 ·replace h:=sj h;subst h
  exact x_end 4 [] [] onil onil 
 ·obtain⟨v1,y1,h⟩:=bm h
  obtain⟨v2,y2,h⟩:=bm h
  obtain⟨v3,y3,h⟩:=bm h
  refine x_frk 22 [(1,.call [] [] (eF v1) []),(3,.call [] [] (eS v2) []),(3,.call [] [] (bl v3) [])] (ocons (Tspec_DrawTidy (Y:=Y) n a0 _ y1) (ocons (Timpl_Tidy (Y:=Y) n v1 _ y2) (ocons (Tspec_SolidOk (Y:=Y) n v1 _ y3) onil))) h (by kernel_rfl) (fun h=>?_) (fun h=>?_)
  ·obtain⟨v4,y4,h⟩:=bm h
   refine x_frk 6 [(1,.call [] [] (bl v4) [])] (ocons (Timpl_SolidOk (Y:=Y) n v1 _ y4) onil) h (by kernel_rfl) (fun h=>?_) (fun h=>?_)
   ·obtain⟨v5,y5,h⟩:=bm h
    replace h:=sj h;subst h
    exact x_end 6 [(1,.call [] [] (i64 v5) [])] [] (ocons (Timpl_Spare (Y:=Y) n v1 _ y5) onil) onil 
   ·replace h:=sj h;subst h
    exact x_end 6 [] [] onil onil 
  ·obtain⟨v6,y6,h⟩:=bm h
   obtain⟨v7,y7,h⟩:=bm h
   refine x_frk 30 [(1,.call [] [] (.tup [eS v6.1,bl v6.2]) []),(7,.call [] [] (.tup [eS v7.1,bl v7.2]) [])] (ocons (Timpl_Again (Y:=Y) n v1 _ y6) (ocons (Tspec_Again (Y:=Y) n v1 _ y7) onil)) h (by kernel_rfl) (fun h=>?_) (fun h=>?_)
   ·exact x_to 11 [] onil (Tlaws_FnTidied_0 n v6.2 v7.2 v1.inn v1.pl.A v1.pl.B v1.pl.C v1.pl.D v1.kids v6.1.inn v6.1.pl.A v6.1.pl.B v6.1.pl.C v6.1.pl.D v6.1.kids r h) 
   ·refine x_frk 2 [] onil h (by kernel_rfl) (fun h=>?_) (fun h=>?_)
    ·obtain⟨v9,y9,h⟩:=bm h
     exact x_to 7 [(0,.rows [(eSol false).f v6.1.kids]),(1,.call [] [] (bl v9) [])] (ocons (Enc.share (eSol true) (eSol false) (sSol true) v6.1.kids) (ocons (Timpl_Same (Y:=Y) n v6.1 v1 _ y9) onil)) (Tlaws_FnTidied_1 n v6.2 v7.2 (!v9) v1.inn v1.pl.A v1.pl.B v1.pl.C v1.pl.D v1.kids v2.inn v2.pl.A v2.pl.B v2.pl.C v2.pl.D v2.kids v6.1.inn v6.1.pl.A v6.1.pl.B v6.1.pl.C v6.1.pl.D v6.1.kids r h) 
    ·exact x_to 10 [] onil (Tlaws_FnTidied_2 n v1.inn v1.pl.A v1.pl.B v1.pl.C v1.pl.D v1.kids v2.inn v2.pl.A v2.pl.B v2.pl.C v2.pl.D v2.kids r h) 
end Evl.T
