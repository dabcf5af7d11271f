
/- Walks. No condition. -/
import Derived.Test.YtjmnnljfhoeaaaaGreatWy
namespace Evl.T
open Go Evl Go.Proofs
set_option maxRecDepth 100000
def Dspec_Put_0(_n:Nat)(_zah:Bool)(_zai _zaj _zak _zal:Int):Option (Sol×Bool) :=
 (Dspec_Leaf false).bind fun v1=>some (v1,false)
theorem Tspec_Put_0{Y}(n:Nat)(zah:Bool)(zai zaj zak zal:Int)(r:(Sol×Bool))(h:Dspec_Put_0 n zah zai zaj zak zal=some r):Wk Tryz.prog H Y 23 [.code (cp [1,0,1,0,0] (bodyOf Tryz.f23)),.code (cp [1,0,1,0,1] (bodyOf Tryz.f23)),.code (cp [1,1] (bodyOf Tryz.f23))] (FinX Tryz.prog Tryz.f23 [] (.tup [eS r.1,bl r.2]) []) ⟨[(6,.ptr 6 0)],[(6,⟨true,0,[bl zah,i64 zai,i64 zaj,i64 zak,i64 zal,.nil]⟩)]⟩:=by
 unfold Dspec_Put_0 at h
 obtain⟨v1,y1,h⟩:=bm h
 replace h:=sj h;subst h
 exact x_end 5 [(0,.call [] [] (eS v1) [])] [] (ocons (Tspec_Leaf (Y:=Y) false _ y1) onil) onil 
def Dspec_Put_2(_n:Nat)(_zah:Bool)(_zai _zaj _zak _zal:Int):Option (Sol×Bool) :=
 (Dspec_Leaf false).bind fun v6=>some (v6,false)
theorem Tspec_Put_2{Y}(n:Nat)(zah:Bool)(zai zaj zak zal:Int)(r:(Sol×Bool))(h:Dspec_Put_2 n zah zai zaj zak zal=some r):Wk Tryz.prog H Y 23 [.code (cp [1,1,1,1,0,1,0,0] (bodyOf Tryz.f23)),.code (cp [1,1,1,1,0,1,0,1] (bodyOf Tryz.f23)),.code (cp [1,1,1,1,1] (bodyOf Tryz.f23))] (FinX Tryz.prog Tryz.f23 [] (.tup [eS r.1,bl r.2]) []) ⟨[(6,.ptr 6 0)],[(6,⟨true,0,[bl zah,i64 zai,i64 zaj,i64 zak,i64 zal,.nil]⟩)]⟩:=by
 unfold Dspec_Put_2 at h
 obtain⟨v6,y6,h⟩:=bm h
 replace h:=sj h;subst h
 exact x_end 5 [(0,.call [] [] (eS v6) [])] [] (ocons (Tspec_Leaf (Y:=Y) false _ y6) onil) onil 
def Dspec_Put_3(_n:Nat)(t40 _zah:Bool)(_zai _zaj _zak _zal:Int)(zae:Bool)(zaf zag zau zav:Int)(zaw:List Sol):Option (Sol×Bool) :=
 frk t40 ((Dspec_Leaf false).bind fun v8=>some (v8,false)) (some ((Sol.mk zae (Pl.mk zaf zag zau zav) zaw),true))
theorem Tspec_Put_3{Y}(n:Nat)(t40 zah:Bool)(zai zaj zak zal:Int)(zae:Bool)(zaf zag zau zav:Int)(zaw:List Sol)(r:(Sol×Bool))(h:Dspec_Put_3 n t40 zah zai zaj zak zal zae zaf zag zau zav zaw=some r):Wk Tryz.prog H Y 23 [.code (cp [1,1,1,1,0,1] (bodyOf Tryz.f23)),.code (cp [1,1,1,1,1] (bodyOf Tryz.f23))] (FinX Tryz.prog Tryz.f23 [] (.tup [eS r.1,bl r.2]) []) ⟨[(6,.ptr 6 0),(9,.ptr 9 0),(40,bl t40)],[(6,⟨true,0,[bl zah,i64 zai,i64 zaj,i64 zak,i64 zal,.nil]⟩),(9,⟨true,0,[bl zae,i64 zaf,i64 zag,i64 zau,i64 zav,.sl true 6 zaw.length ((eSol true).f zaw)]⟩)]⟩:=by
 unfold Dspec_Put_3 at h
 refine x_frk 0 [] onil h (by kernel_rfl) (fun h=>?_) (fun h=>?_)
 ·obtain⟨v8,y8,h⟩:=bm h
  replace h:=sj h;subst h
  exact x_end 6 [(0,.call [] [] (eS v8) [])] [] (ocons (Tspec_Leaf (Y:=Y) false _ y8) onil) onil 
 ·replace h:=sj h;subst h
  exact x_end 7 [] [] onil onil 
def Dspec_Put_1(n:Nat)(t2:Int)(t22 ze:Bool)(zf zs zt zax:Int)(zay:List Sol)(za:Bool)(zu zv zw zao:Int)(zap:List Sol)(zah:Bool)(zai zaj zak zal:Int):Option (Sol×Bool) :=
 frk t22 ((Dspec_Leaf false).bind fun v4=>some (v4,false)) ((Dspec_l11Both n (t2,false) (Sol.mk ze (Pl.mk zf zs zt zax) zay) (Sol.mk za (Pl.mk zu zv zw zao) zap) []).bind fun v5=>frk v5.2.2 (Dspec_Put_2 n zah zai zaj zak zal) ((Dspec_l8Count n v5.1 301).bind fun v7=>Dspec_Put_3 n (decide (v7>300)) zah zai zaj zak zal v5.1.inn v5.1.pl.A v5.1.pl.B v5.1.pl.C v5.1.pl.D v5.1.kids))
theorem Tspec_Put_1{Y}(n:Nat)(t2:Int)(t22 ze:Bool)(zf zs zt zax:Int)(zay:List Sol)(za:Bool)(zu zv zw zao:Int)(zap:List Sol)(zah:Bool)(zai zaj zak zal:Int)(r:(Sol×Bool))(h:Dspec_Put_1 n t2 t22 ze zf zs zt zax zay za zu zv zw zao zap zah zai zaj zak zal=some r):Wk Tryz.prog H Y 23 [.code (cp [1,0,1] (bodyOf Tryz.f23)),.code (cp [1,1] (bodyOf Tryz.f23))] (FinX Tryz.prog Tryz.f23 [] (.tup [eS r.1,bl r.2]) []) ⟨[(2,i64 t2),(3,.ptr 3 0),(4,.ptr 4 0),(6,.ptr 6 0),(22,bl t22)],[(3,⟨true,0,[bl ze,i64 zf,i64 zs,i64 zt,i64 zax,.sl false 6 zay.length ((eSol false).f zay)]⟩),(4,⟨true,0,[bl za,i64 zu,i64 zv,i64 zw,i64 zao,.sl false 6 zap.length ((eSol false).f zap)]⟩),(6,⟨true,0,[bl zah,i64 zai,i64 zaj,i64 zak,i64 zal,.nil]⟩)]⟩:=by
 unfold Dspec_Put_1 at h
 refine x_frk 0 [] onil h (by kernel_rfl) (fun h=>?_) (fun h=>?_)
 ·obtain⟨v4,y4,h⟩:=bm h
  replace h:=sj h;subst h
  exact x_end 6 [(0,.call [] [] (eS v4) [])] [] (ocons (Tspec_Leaf (Y:=Y) false _ y4) onil) onil 
 ·obtain⟨v5,y5,h⟩:=bm h
  refine x_frk 26 [(8,.call [] [(ePl).f []] (eS v5.1) [(1000,⟨true,0,[i64 v5.2.1,bl v5.2.2]⟩)])] (ocons (Tspec_l11Both (Y:=Y) n (t2,false) (Sol.mk ze (Pl.mk zf zs zt zax) zay) (Sol.mk za (Pl.mk zu zv zw zao) zap) [] _ y5) (ocons (len_row (L:=[]) ePl) (ocons (Enc.share ePl ePl sPl []) (ocons (show hasSh (eS v5.1)=false by simp[eS,hasSh,hasShL,nSh,nShI,nShB,nShP,nShT,nShN,nShPs]) onil)))) h (by kernel_rfl) (fun h=>?_) (fun h=>?_)
  ·exact x_to 7 [] onil (Tspec_Put_2 n zah zai zaj zak zal r h) 
  ·obtain⟨v7,y7,h⟩:=bm h
   exact x_to 5 [(0,.rows [(eSol false).f v5.1.kids]),(0,.call [] [] (i64 v7) [])] (ocons (Enc.share (eSol true) (eSol false) (sSol true) v5.1.kids) (ocons (Tspec_l8Count (Y:=Y) n v5.1 301 _ y7) onil)) (Tspec_Put_3 n (decide (v7>300)) zah zai zaj zak zal v5.1.inn v5.1.pl.A v5.1.pl.B v5.1.pl.C v5.1.pl.D v5.1.kids r h) 
def Dspec_Put(n:Nat)(a0:Sol)(a1:Sol)(a2:Int):Option (Sol×Bool) :=
 (Dspec_SolidOk n a0).bind fun v0=>frk (!v0) (Dspec_Put_0 n false 0 0 0 0) ((Dspec_SolidOk n a1).bind fun v2=>frk (!v2) (Dspec_Put_0 n false 0 0 0 0) ((Dspec_l1In a2 1 4).bind fun v3=>Dspec_Put_1 n a2 (!v3) a0.inn a0.pl.A a0.pl.B a0.pl.C a0.pl.D a0.kids a1.inn a1.pl.A a1.pl.B a1.pl.C a1.pl.D a1.kids false 0 0 0 0))
theorem Tspec_Put{Y}(n:Nat)(a0:Sol)(a1:Sol)(a2:Int)(r:(Sol×Bool))(h:Dspec_Put n a0 a1 a2=some r):Big Tryz.prog H Y (.call 23 [eF a0,eF a1,i64 a2] (lk []) (.tup [eS r.1,bl r.2]) (lk [])):=by
 unfold Dspec_Put at h
 refine x_call (fn:=Tryz.f23) (c:=bodyOf Tryz.f23) (bs0:=[]) Tryz.func23 (by kernel_rfl) (by kernel_rfl) ?_
 obtain⟨v0,y0,h⟩:=bm h
 refine x_frk 14 [(5,.call [] [] (bl v0) [])] (ocons (Tspec_SolidOk (Y:=Y) n a0 _ y0) onil) h (by kernel_rfl) (fun h=>?_) (fun h=>?_)
 ·exact x_to 12 [] onil (Tspec_Put_0 n false 0 0 0 0 r h) 
 ·obtain⟨v2,y2,h⟩:=bm h
  refine x_frk 5 [(1,.call [] [] (bl v2) [])] (ocons (Tspec_SolidOk (Y:=Y) n a1 _ y2) onil) h (by kernel_rfl) (fun h=>?_) (fun h=>?_)
  ·exact x_to 7 [] onil (Tspec_Put_0 n false 0 0 0 0 r h) 
  ·obtain⟨v3,y3,h⟩:=bm h
   exact x_to 5 [(1,.call [] [] (bl v3) [])] (ocons (Tspec_l1In (Y:=Y) a2 1 4 _ y3) onil) (Tspec_Put_1 n a2 (!v3) a0.inn a0.pl.A a0.pl.B a0.pl.C a0.pl.D a0.kids a1.inn a1.pl.A a1.pl.B a1.pl.C a1.pl.D a1.kids false 0 0 0 0 r h) 
def Dspec_l12Twin(n:Nat)(a0:((List Int)×Int×Int)):Option (Sol×((List Int)×Int×Int)) :=
 (Dspec_l8Grow n a0 [] 3).bind fun v0=>(Dspec_l3Draw n v0.2).bind fun v1=>(Dspec_Leaf true).bind fun v2=>(Dspec_Leaf true).bind fun v3=>(Dspec_l8Nodeo1o2 v1.1 v2 v3).bind fun v4=>(Dspec_Put n v4 v0.1 1).bind fun v5=>frk (!v5.2) (some (v0.1,v1.2)) (some (v5.1,v1.2))
theorem Tspec_l12Twin{Y}(n:Nat)(a0:((List Int)×Int×Int))(r:(Sol×((List Int)×Int×Int)))(h:Dspec_l12Twin n a0=some r):Big Tryz.prog H Y (.call 171 [.ptr 1000 0] (lk [(1000,⟨true,0,[.sl false 1 a0.1.length ((eU8).f a0.1),i64 a0.2.1,i64 a0.2.2]⟩)]) (eS r.1) (lk [(1000,⟨true,0,[.sl false 1 r.2.1.length ((eU8).f r.2.1),i64 r.2.2.1,i64 r.2.2.2]⟩)])):=by
 unfold Dspec_l12Twin at h
 refine x_call (fn:=Tryz.f171) (c:=bodyOf Tryz.f171) (bs0:=[(1000,⟨true,0,[.bad,.bad,.bad]⟩)]) Tryz.func171 (by kernel_rfl) (by kernel_rfl) ?_
 obtain⟨v0,y0,h⟩:=bm h
 obtain⟨v1,y1,h⟩:=bm h
 obtain⟨v2,y2,h⟩:=bm h
 obtain⟨v3,y3,h⟩:=bm h
 obtain⟨v4,y4,h⟩:=bm h
 obtain⟨v5,y5,h⟩:=bm h
 refine x_frk 40 [(3,.call [] [] (eS v0.1) [(1000,⟨true,0,[.sl false 1 v0.2.1.length ((eU8).f v0.2.1),i64 v0.2.2.1,i64 v0.2.2.2]⟩)]),(3,.call [] [] (.agg [i64 v1.1.A,i64 v1.1.B,i64 v1.1.C,i64 v1.1.D]) [(1000,⟨true,0,[.sl false 1 v1.2.1.length ((eU8).f v1.2.1),i64 v1.2.2.1,i64 v1.2.2.2]⟩)]),(3,.call [] [] (eS v2) []),(0,.call [] [] (eS v3) []),(0,.call [] [] (eS v4) []),(0,.rows [(eSol false).f v0.1.kids]),(0,.call [] [(eSol false).f v4.kids] (.tup [eS v5.1,bl v5.2]) [])] (ocons (Big.wka (show WkT [.ptr 1000 0,.sl true 4 0 ((ePl).f []),i64 3] [.ptr 1000 0,.sl false 4 0 ((ePl).f []),i64 3] from ⟨wkSameU _,wkShareU (L:=[]) ePl ePl sPl,wkSameU _,trivial⟩) (Tspec_l8Grow (Y:=Y) n a0 [] 3 _ y0)) (ocons (len_row (L:=[]) ePl) (ocons (Tspec_l3Draw (Y:=Y) n v0.2 _ y1) (ocons (Tspec_Leaf (Y:=Y) true _ y2) (ocons (Tspec_Leaf (Y:=Y) true _ y3) (ocons (Tspec_l8Nodeo1o2 (Y:=Y) v1.1 v2 v3 _ y4) (ocons (Enc.share (eSol true) (eSol false) (sSol true) v0.1.kids) (ocons (Tspec_Put (Y:=Y) n v4 v0.1 1 _ y5) (ocons (Enc.share (eSol true) (eSol false) (sSol true) v4.kids) onil))))))))) h (by kernel_rfl) (fun h=>?_) (fun h=>?_)
 ·replace h:=sj h;subst h
  exact x_end 5 [] [] onil onil 
 ·replace h:=sj h;subst h
  exact x_end 6 [] [] onil onil 
def Dspec_l6Cell_1(n:Nat)(rec0:(Int×List Pl×List Int×Int×Int)→Option ((List Pl)×((List Int)×Int×Int)))(a:(Int×List Pl×List Int×Int×Int)):Option ((List Pl)×((List Int)×Int×Int)) :=
 match a with
 | (t7,l29,zp,zq,zr)=>frk (decide (t7>0)) ((Dspec_l3Draw n (zp,zq,zr)).bind fun v3=>(Dspec_l6With n l29 v3.1).bind fun v4=>frk (!v4) (chk (apB 32 (l29.length+1)) (rec0 (w64 (t7-1),(l29++[v3.1]),v3.2.1,v3.2.2.1,v3.2.2.2))) (rec0 (w64 (t7-1),l29,v3.2.1,v3.2.2.1,v3.2.2.2))) (some (l29,(zp,zq,zr)))
theorem Tspec_l6Cell_1{Y}(n:Nat):∀(m:Nat) (a:(Int×List Pl×List Int×Int×Int)) (r:((List Pl)×((List Int)×Int×Int))),loopN (Dspec_l6Cell_1 n) m a=some r→Wk Tryz.prog H Y 81 [.code (cp [1,1,1,0,1,0] (bodyOf Tryz.f81)),.blk 0,.code (cp [1,1,1,1] (bodyOf Tryz.f81))] (FinX Tryz.prog Tryz.f81 [(1000,⟨true,0,[.bad,.bad,.bad]⟩)] (.sl true 4 r.1.length ((ePl).f r.1)) [(1000,⟨true,0,[.sl false 1 r.2.1.length ((eU8).f r.2.1),i64 r.2.2.1,i64 r.2.2.2]⟩)]) ⟨[(0,.ptr 1000 0),(5,.msl 29 a.2.1.length),(7,i64 a.1)],[(29,⟨true,4,(ePl).f a.2.1⟩),(1000,⟨true,0,[.sl false 1 a.2.2.1.length ((eU8).f a.2.2.1),i64 a.2.2.2.1,i64 a.2.2.2.2]⟩)]⟩:=by
 refine loopN_ind (fun _rec0 hrec0 a r h=>?_)
 obtain⟨t7,l29,zp,zq,zr⟩:=a
 unfold Dspec_l6Cell_1 at h
 refine x_frk 7 [] onil h (by kernel_rfl) (fun h=>?_) (fun h=>?_)
 ·obtain⟨v3,y3,h⟩:=bm h
  obtain⟨v4,y4,h⟩:=bm h
  refine x_frk 17 [(1,.call [] [] (.agg [i64 v3.1.A,i64 v3.1.B,i64 v3.1.C,i64 v3.1.D]) [(1000,⟨true,0,[.sl false 1 v3.2.1.length ((eU8).f v3.2.1),i64 v3.2.2.1,i64 v3.2.2.2]⟩)]),(4,.call [] [(ePl).f l29] (bl v4) [])] (ocons (Tspec_l3Draw (Y:=Y) n (zp,zq,zr) _ y3) (ocons (Tspec_l6With (Y:=Y) n l29 v3.1 _ y4) (ocons (len_row (L:=l29) ePl) (ocons (Enc.share ePl ePl sPl l29) onil)))) h (by kernel_rfl) (fun h=>?_) (fun h=>?_)
  ·obtain⟨c5,h⟩:=chk_some h
   exact x_to 15 [(3,.app false (List.length (l29++[v3.1])) ((ePl).f (l29++[v3.1]))),(4,.ren 46 29)] (ocons (len_row' (L:=l29) ePl) (ocons (app_one (L:=l29) (M:=[v3.1]) ePl c5) (ocons (app_new (L:=l29) (M:=[v3.1]) ePl) (ocons (app_m (L:=l29) (M:=[v3.1]) ePl rfl) (ocons (len_row' (L:=[v3.1]) ePl) (ocons (Enc.noOwn ePl (fun _=>rfl) [v3.1]) (ocons (show 46<1000∧29<1000 by decide) onil))))))) (hrec0 (w64 (t7-1),(l29++[v3.1]),v3.2.1,v3.2.2.1,v3.2.2.2) r h) 
  ·exact x_to 8 [] onil (hrec0 (w64 (t7-1),l29,v3.2.1,v3.2.2.1,v3.2.2.2) r h) 
 ·replace h:=sj h;subst h
  exact x_end 6 [] [] onil (ocons (len_row (L:=l29) ePl) onil) 
def Dspec_l6Cell_0(n:Nat)(t1:Int)(l29:List Pl)(zp:List Int)(zq zr:Int):Option ((List Pl)×((List Int)×Int×Int)) :=
 (Dspec_l1Below (zp,zq,zr) t1).bind fun v2=>loopN (Dspec_l6Cell_1 n) n (v2.1,l29,v2.2.1,v2.2.2.1,v2.2.2.2)
theorem Tspec_l6Cell_0{Y}(n:Nat)(t1:Int)(l29:List Pl)(zp:List Int)(zq zr:Int)(r:((List Pl)×((List Int)×Int×Int)))(h:Dspec_l6Cell_0 n t1 l29 zp zq zr=some r):Wk Tryz.prog H Y 81 [.code (cp [1,1,1,0,0] (bodyOf Tryz.f81)),.code (cp [1,1,1,0,1] (bodyOf Tryz.f81)),.code (cp [1,1,1,1] (bodyOf Tryz.f81))] (FinX Tryz.prog Tryz.f81 [(1000,⟨true,0,[.bad,.bad,.bad]⟩)] (.sl true 4 r.1.length ((ePl).f r.1)) [(1000,⟨true,0,[.sl false 1 r.2.1.length ((eU8).f r.2.1),i64 r.2.2.1,i64 r.2.2.2]⟩)]) ⟨[(0,.ptr 1000 0),(1,i64 t1),(5,.msl 29 l29.length)],[(29,⟨true,4,(ePl).f l29⟩),(1000,⟨true,0,[.sl false 1 zp.length ((eU8).f zp),i64 zq,i64 zr]⟩)]⟩:=by
 unfold Dspec_l6Cell_0 at h
 obtain⟨v2,y2,h⟩:=bm h
 exact x_to 7 [(2,.call [] [] (i64 v2.1) [(1000,⟨true,0,[.sl false 1 v2.2.1.length ((eU8).f v2.2.1),i64 v2.2.2.1,i64 v2.2.2.2]⟩)])] (ocons (Tspec_l1Below (Y:=Y) (zp,zq,zr) t1 _ y2) onil) (Tspec_l6Cell_1 n n (v2.1,l29,v2.2.1,v2.2.2.1,v2.2.2.2) r h) 
def Dspec_l6Cell_3(n:Nat)(rec0:(Int×List Pl×List Int×Int×Int)→Option ((List Pl)×((List Int)×Int×Int)))(a:(Int×List Pl×List Int×Int×Int)):Option ((List Pl)×((List Int)×Int×Int)) :=
 match a with
 | (t7,l9,zp,zq,zr)=>frk (decide (t7>0)) ((Dspec_l3Draw n (zp,zq,zr)).bind fun v7=>(Dspec_l6With n l9 v7.1).bind fun v8=>frk (!v8) (chk (apB 32 (l9.length+1)) (rec0 (w64 (t7-1),(l9++[v7.1]),v7.2.1,v7.2.2.1,v7.2.2.2))) (rec0 (w64 (t7-1),l9,v7.2.1,v7.2.2.1,v7.2.2.2))) (some (l9,(zp,zq,zr)))
theorem Tspec_l6Cell_3{Y}(n:Nat):∀(m:Nat) (a:(Int×List Pl×List Int×Int×Int)) (r:((List Pl)×((List Int)×Int×Int))),loopN (Dspec_l6Cell_3 n) m a=some r→Wk Tryz.prog H Y 81 [.code (cp [1,1,1,0,1,0] (bodyOf Tryz.f81)),.blk 0,.code (cp [1,1,1,1] (bodyOf Tryz.f81))] (FinX Tryz.prog Tryz.f81 [(1000,⟨true,0,[.bad,.bad,.bad]⟩)] (.sl true 4 r.1.length ((ePl).f r.1)) [(1000,⟨true,0,[.sl false 1 r.2.1.length ((eU8).f r.2.1),i64 r.2.2.1,i64 r.2.2.2]⟩)]) ⟨[(0,.ptr 1000 0),(5,.msl 9 a.2.1.length),(7,i64 a.1)],[(9,⟨true,4,(ePl).f a.2.1⟩),(1000,⟨true,0,[.sl false 1 a.2.2.1.length ((eU8).f a.2.2.1),i64 a.2.2.2.1,i64 a.2.2.2.2]⟩)]⟩:=by
 refine loopN_ind (fun _rec0 hrec0 a r h=>?_)
 obtain⟨t7,l9,zp,zq,zr⟩:=a
 unfold Dspec_l6Cell_3 at h
 refine x_frk 7 [] onil h (by kernel_rfl) (fun h=>?_) (fun h=>?_)
 ·obtain⟨v7,y7,h⟩:=bm h
  obtain⟨v8,y8,h⟩:=bm h
  refine x_frk 17 [(1,.call [] [] (.agg [i64 v7.1.A,i64 v7.1.B,i64 v7.1.C,i64 v7.1.D]) [(1000,⟨true,0,[.sl false 1 v7.2.1.length ((eU8).f v7.2.1),i64 v7.2.2.1,i64 v7.2.2.2]⟩)]),(4,.call [] [(ePl).f l9] (bl v8) [])] (ocons (Tspec_l3Draw (Y:=Y) n (zp,zq,zr) _ y7) (ocons (Tspec_l6With (Y:=Y) n l9 v7.1 _ y8) (ocons (len_row (L:=l9) ePl) (ocons (Enc.share ePl ePl sPl l9) onil)))) h (by kernel_rfl) (fun h=>?_) (fun h=>?_)
  ·obtain⟨c9,h⟩:=chk_some h
   exact x_to 15 [(3,.app false (List.length (l9++[v7.1])) ((ePl).f (l9++[v7.1]))),(4,.ren 46 9)] (ocons (len_row' (L:=l9) ePl) (ocons (app_one (L:=l9) (M:=[v7.1]) ePl c9) (ocons (app_new (L:=l9) (M:=[v7.1]) ePl) (ocons (app_m (L:=l9) (M:=[v7.1]) ePl rfl) (ocons (len_row' (L:=[v7.1]) ePl) (ocons (Enc.noOwn ePl (fun _=>rfl) [v7.1]) (ocons (show 46<1000∧9<1000 by decide) onil))))))) (hrec0 (w64 (t7-1),(l9++[v7.1]),v7.2.1,v7.2.2.1,v7.2.2.2) r h) 
  ·exact x_to 8 [] onil (hrec0 (w64 (t7-1),l9,v7.2.1,v7.2.2.1,v7.2.2.2) r h) 
 ·replace h:=sj h;subst h
  exact x_end 6 [] [] onil (ocons (len_row (L:=l9) ePl) onil) 
def Dspec_l6Cell_2(n:Nat)(t1:Int)(l9:List Pl)(zp:List Int)(zq zr:Int):Option ((List Pl)×((List Int)×Int×Int)) :=
 (Dspec_l1Below (zp,zq,zr) t1).bind fun v6=>loopN (Dspec_l6Cell_3 n) n (v6.1,l9,v6.2.1,v6.2.2.1,v6.2.2.2)
theorem Tspec_l6Cell_2{Y}(n:Nat)(t1:Int)(l9:List Pl)(zp:List Int)(zq zr:Int)(r:((List Pl)×((List Int)×Int×Int)))(h:Dspec_l6Cell_2 n t1 l9 zp zq zr=some r):Wk Tryz.prog H Y 81 [.code (cp [1,1,1,0,0] (bodyOf Tryz.f81)),.code (cp [1,1,1,0,1] (bodyOf Tryz.f81)),.code (cp [1,1,1,1] (bodyOf Tryz.f81))] (FinX Tryz.prog Tryz.f81 [(1000,⟨true,0,[.bad,.bad,.bad]⟩)] (.sl true 4 r.1.length ((ePl).f r.1)) [(1000,⟨true,0,[.sl false 1 r.2.1.length ((eU8).f r.2.1),i64 r.2.2.1,i64 r.2.2.2]⟩)]) ⟨[(0,.ptr 1000 0),(1,i64 t1),(5,.msl 9 l9.length)],[(9,⟨true,4,(ePl).f l9⟩),(1000,⟨true,0,[.sl false 1 zp.length ((eU8).f zp),i64 zq,i64 zr]⟩)]⟩:=by
 unfold Dspec_l6Cell_2 at h
 obtain⟨v6,y6,h⟩:=bm h
 exact x_to 7 [(2,.call [] [] (i64 v6.1) [(1000,⟨true,0,[.sl false 1 v6.2.1.length ((eU8).f v6.2.1),i64 v6.2.2.1,i64 v6.2.2.2]⟩)])] (ocons (Tspec_l1Below (Y:=Y) (zp,zq,zr) t1 _ y6) onil) (Tspec_l6Cell_3 n n (v6.1,l9,v6.2.1,v6.2.2.1,v6.2.2.2) r h) 
def Dspec_l6Cell(n:Nat)(a0:((List Int)×Int×Int))(a1:Int):Option ((List Pl)×((List Int)×Int×Int)) :=
 (Dspec_l1Once a0 4).bind fun v0=>frk (!v0.1) ((Dspec_l1Below v0.2 5).bind fun v1=>Dspec_l6Cell_0 n a1 [(Pl.mk 1 0 0 (w64 (1+v1.1))),(Pl.mk (-1) 0 0 (w64 (1+v1.1))),(Pl.mk 0 1 0 (w64 (1+v1.1))),(Pl.mk 0 (-1) 0 (w64 ((w64 (1+v1.1))+1))),(Pl.mk 0 0 1 (w64 (1+v1.1))),(Pl.mk 0 0 (-1) (w64 (1+v1.1)))] v1.2.1 v1.2.2.1 v1.2.2.2) (Dspec_l6Cell_2 n a1 [] v0.2.1 v0.2.2.1 v0.2.2.2)
theorem Tspec_l6Cell{Y}(n:Nat)(a0:((List Int)×Int×Int))(a1:Int)(r:((List Pl)×((List Int)×Int×Int)))(h:Dspec_l6Cell n a0 a1=some r):Big Tryz.prog H Y (.call 81 [.ptr 1000 0,i64 a1] (lk [(1000,⟨true,0,[.sl false 1 a0.1.length ((eU8).f a0.1),i64 a0.2.1,i64 a0.2.2]⟩)]) (.sl true 4 r.1.length ((ePl).f r.1)) (lk [(1000,⟨true,0,[.sl false 1 r.2.1.length ((eU8).f r.2.1),i64 r.2.2.1,i64 r.2.2.2]⟩)])):=by
 unfold Dspec_l6Cell at h
 refine x_call (fn:=Tryz.f81) (c:=bodyOf Tryz.f81) (bs0:=[(1000,⟨true,0,[.bad,.bad,.bad]⟩)]) Tryz.func81 (by kernel_rfl) (by kernel_rfl) ?_
 obtain⟨v0,y0,h⟩:=bm h
 refine x_frk 16 [(4,.call [] [] (bl v0.1) [(1000,⟨true,0,[.sl false 1 v0.2.1.length ((eU8).f v0.2.1),i64 v0.2.2.1,i64 v0.2.2.2]⟩)])] (ocons (Tspec_l1Once (Y:=Y) a0 4 _ y0) onil) h (by kernel_rfl) (fun h=>?_) (fun h=>?_)
 ·obtain⟨v1,y1,h⟩:=bm h
  exact x_to 26 [(1,.call [] [] (i64 v1.1) [(1000,⟨true,0,[.sl false 1 v1.2.1.length ((eU8).f v1.2.1),i64 v1.2.2.1,i64 v1.2.2.2]⟩)])] (ocons (Tspec_l1Below (Y:=Y) v0.2 5 _ y1) onil) (Tspec_l6Cell_0 n a1 [(Pl.mk 1 0 0 (w64 (1+v1.1))),(Pl.mk (-1) 0 0 (w64 (1+v1.1))),(Pl.mk 0 1 0 (w64 (1+v1.1))),(Pl.mk 0 (-1) 0 (w64 ((w64 (1+v1.1))+1))),(Pl.mk 0 0 1 (w64 (1+v1.1))),(Pl.mk 0 0 (-1) (w64 (1+v1.1)))] v1.2.1 v1.2.2.1 v1.2.2.2 r h) 
 ·exact x_to 3 [] onil (Tspec_l6Cell_2 n a1 [] v0.2.1 v0.2.2.1 v0.2.2.2 r h) 
def Dspec_l6Right_0(n:Nat)(t0:List Pl)(rec0:Int→Option Bool)(a:Int):Option Bool :=
 match a with
 | t3=>frk (decide (t3<(t0.length:Int))) ((lget t0 t3).bind fun v0=>(Dspec_PlaneOk n v0).bind fun v1=>frk (!v1) (some false) (rec0 (w64 (t3+1)))) (some (decide ((t0.length:Int)≤24)))
theorem Tspec_l6Right_0{Y}(n:Nat)(t0:List Pl):∀(m:Nat) (a:Int) (r:Bool),loopN (Dspec_l6Right_0 n t0) m a=some r→Wk Tryz.prog H Y 142 [.code (cp [1,0,1,0] (bodyOf Tryz.f142)),.blk 0,.code (cp [1,1] (bodyOf Tryz.f142))] (FinX Tryz.prog Tryz.f142 [] (bl r) []) ⟨[(0,.sl false 4 t0.length ((ePl).f t0)),(3,i64 a)],[]⟩:=by
 refine loopN_ind (fun _rec0 hrec0 a r h=>?_)
 obtain⟨t3,rfl⟩:∃x,x=a:=⟨a,rfl⟩
 unfold Dspec_l6Right_0 at h
 refine x_frk 9 [] onil h (by kernel_rfl) (fun h=>?_) (fun h=>?_)
 ·obtain⟨v0,y0,h⟩:=bm h
  obtain⟨v1,y1,h⟩:=bm h
  refine x_frk 12 [(2,.val (.cptr (ePl.c v0++(ePl).f ((t0).drop (Int.toNat t3+1))))),(1,.call [] [] (bl v1) [])] (ocons (ix ePl y0) (ocons (Tspec_PlaneOk (Y:=Y) n v0 _ y1) onil)) h (by kernel_rfl) (fun h=>?_) (fun h=>?_)
  ·replace h:=sj h;subst h
   exact x_end 4 [] [] onil onil 
  ·exact x_to 8 [] onil (hrec0 (w64 (t3+1)) r h) 
 ·replace h:=sj h;subst h
  exact x_end 8 [] [] onil onil 
def Dspec_l6Right(n:Nat)(a0:(List Pl)):Option Bool :=
 loopN (Dspec_l6Right_0 n a0) n 0
theorem Tspec_l6Right{Y}(n:Nat)(a0:(List Pl))(r:Bool)(h:Dspec_l6Right n a0=some r):Big Tryz.prog H Y (.call 142 [.sl false 4 a0.length ((ePl).f a0)] (lk []) (bl r) (lk [])):=by
 unfold Dspec_l6Right at h
 refine x_call (fn:=Tryz.f142) (c:=bodyOf Tryz.f142) (bs0:=[]) Tryz.func142 (by kernel_rfl) (by kernel_rfl) ?_
 exact x_to 10 [] onil (Tspec_l6Right_0 n a0 n 0 r h) 
def Dspec_l6Open_0(n:Nat)(t0:List Pl)(rec0:Int→Option Bool)(a:Int):Option Bool :=
 match a with
 | t3=>frk (decide (t3<(t0.length:Int))) ((lsl t0 0 t3).bind fun v0=>(lget t0 t3).bind fun v1=>(Dspec_l6With n v0 v1).bind fun v2=>frk v2 (some false) (rec0 (w64 (t3+1)))) (some true)
theorem Tspec_l6Open_0{Y}(n:Nat)(t0:List Pl):∀(m:Nat) (a:Int) (r:Bool),loopN (Dspec_l6Open_0 n t0) m a=some r→Wk Tryz.prog H Y 143 [.code (cp [1,0,1,0] (bodyOf Tryz.f143)),.blk 0,.code (cp [1,1] (bodyOf Tryz.f143))] (FinX Tryz.prog Tryz.f143 [] (bl r) []) ⟨[(0,.sl false 4 t0.length ((ePl).f t0)),(3,i64 a)],[]⟩:=by
 refine loopN_ind (fun _rec0 hrec0 a r h=>?_)
 obtain⟨t3,rfl⟩:∃x,x=a:=⟨a,rfl⟩
 unfold Dspec_l6Open_0 at h
 refine x_frk 9 [] onil h (by kernel_rfl) (fun h=>?_) (fun h=>?_)
 ·obtain⟨v0,y0,h⟩:=bm h
  obtain⟨v1,y1,h⟩:=bm h
  obtain⟨v2,y2,h⟩:=bm h
  refine x_frk 14 [(2,.val (.sl false 4 v0.length ((ePl).f v0))),(2,.val (.cptr (ePl.c v1++(ePl).f ((t0).drop (Int.toNat t3+1))))),(1,.call [] [] (bl v2) [])] (ocons (slF ePl y0) (ocons (ix ePl y1) (ocons (Tspec_l6With (Y:=Y) n v0 v1 _ y2) onil))) h (by kernel_rfl) (fun h=>?_) (fun h=>?_)
  ·replace h:=sj h;subst h
   exact x_end 4 [] [] onil onil 
  ·exact x_to 8 [] onil (hrec0 (w64 (t3+1)) r h) 
 ·replace h:=sj h;subst h
  exact x_end 5 [] [] onil onil 
def Dspec_l6Open(n:Nat)(a0:(List Pl)):Option Bool :=
 loopN (Dspec_l6Open_0 n a0) n 1
theorem Tspec_l6Open{Y}(n:Nat)(a0:(List Pl))(r:Bool)(h:Dspec_l6Open n a0=some r):Big Tryz.prog H Y (.call 143 [.sl false 4 a0.length ((ePl).f a0)] (lk []) (bl r) (lk [])):=by
 unfold Dspec_l6Open at h
 refine x_call (fn:=Tryz.f143) (c:=bodyOf Tryz.f143) (bs0:=[]) Tryz.func143 (by kernel_rfl) (by kernel_rfl) ?_
 exact x_to 10 [] onil (Tspec_l6Open_0 n a0 n 1 r h) 
def Dspec_l9Convex_0(_n:Nat)(self:((List Pl)×(List Pl))→Option Sol)(rec0:Int→Option Sol)(t0:List Pl)(t1:List Pl)(_za:Bool)(_zu _zv _zw _zao t5:Int)(t28:Bool):Option Sol :=
 frk t28 ((lget t0 t5).bind fun v5=>(lsl t0 (w64 (t5+1)) (t0.length:Int)).bind fun v6=>(lget t0 t5).bind fun v7=>(Dspec_l8Path t1 v7).bind fun v8=>(self (v6,v8)).bind fun v9=>(Dspec_Leaf false).bind fun v10=>(Dspec_l8Nodeo1o2 v5 v9 v10).bind fun v11=>some v11) (rec0 (w64 (t5+1)))
theorem Tspec_l9Convex_0{Y}(n:Nat)(self:((List Pl)×(List Pl))→Option Sol)(rec0:Int→Option Sol)(t0:List Pl)(t1:List Pl)(za:Bool)(zu zv zw zao:Int)(hself:∀(a:((List Pl)×(List Pl))) (r:Sol),self a=some r→Big Tryz.prog H Y (.call 144 [.sl false 4 a.1.length ((ePl).f a.1),.sl false 4 a.2.length ((ePl).f a.2)] (lk []) (eS r) (lk [])))(hrec0:∀(a:Int) (r:Sol),rec0 a=some r→Wk Tryz.prog H Y 144 [.code (cp [1,0,1,0] (bodyOf Tryz.f144)),.blk 0,.code (cp [1,1] (bodyOf Tryz.f144))] (FinX Tryz.prog Tryz.f144 [] (eS r) []) ⟨[(0,.sl false 4 t0.length ((ePl).f t0)),(1,.sl false 4 t1.length ((ePl).f t1)),(4,.ptr 4 0),(5,i64 a)],[(4,⟨true,0,[bl za,i64 zu,i64 zv,i64 zw,i64 zao,.nil]⟩)]⟩)(t5:Int)(t28:Bool)(r:Sol)(h:Dspec_l9Convex_0 n self rec0 t0 t1 za zu zv zw zao t5 t28=some r):Wk Tryz.prog H Y 144 [.code (cp [1,0,1,0,0,1,0,0,1] (bodyOf Tryz.f144)),.blk 1,.code (cp [1,0,1,0,0,1,1] (bodyOf Tryz.f144)),.lp (cp [1,0,1,0] (bodyOf Tryz.f144)),.blk 0,.code (cp [1,1] (bodyOf Tryz.f144))] (FinX Tryz.prog Tryz.f144 [] (eS r) []) ⟨[(0,.sl false 4 t0.length ((ePl).f t0)),(1,.sl false 4 t1.length ((ePl).f t1)),(4,.ptr 4 0),(5,i64 t5),(28,bl t28)],[(4,⟨true,0,[bl za,i64 zu,i64 zv,i64 zw,i64 zao,.nil]⟩)]⟩:=by
 unfold Dspec_l9Convex_0 at h
 refine x_frk 0 [] onil h (by kernel_rfl) (fun h=>?_) (fun h=>?_)
 ·obtain⟨v5,y5,h⟩:=bm h
  obtain⟨v6,y6,h⟩:=bm h
  obtain⟨v7,y7,h⟩:=bm h
  obtain⟨v8,y8,h⟩:=bm h
  obtain⟨v9,y9,h⟩:=bm h
  obtain⟨v10,y10,h⟩:=bm h
  obtain⟨v11,y11,h⟩:=bm h
  replace h:=sj h;subst h
  exact x_end 21 [(2,.val (.cptr (ePl.c v5++(ePl).f ((t0).drop (Int.toNat t5+1))))),(4,.val (.sl false 4 v6.length ((ePl).f v6))),(3,.val (.cptr (ePl.c v7++(ePl).f ((t0).drop (Int.toNat t5+1))))),(1,.call [] [] (.sl false 4 v8.length ((ePl).f v8)) []),(0,.call [] [] (eS v9) []),(0,.call [] [] (eS v10) []),(0,.call [] [] (eS v11) [])] [] (ocons (ix ePl y5) (ocons (slF ePl y6) (ocons (ix ePl y7) (ocons (shSl (L:=v8) ePl ePl sPl (Tspec_l8Path (Y:=Y) t1 v7 _ y8)) (ocons (hself (v6,v8) _ y9) (ocons (Tspec_Leaf (Y:=Y) false _ y10) (ocons (Tspec_l8Nodeo1o2 (Y:=Y) v5 v9 v10 _ y11) onil))))))) onil 
 ·exact x_to 8 [] onil (hrec0 (w64 (t5+1)) r h) 
def Dspec_l9Convex_1(_n:Nat)(_self:((List Pl)×(List Pl))→Option Sol)(_za:Bool)(_zu _zv _zw _zao:Int):Option Sol :=
 (Dspec_Leaf true).bind fun v12=>some v12
theorem Tspec_l9Convex_1{Y}(n:Nat)(self:((List Pl)×(List Pl))→Option Sol)(_hself:∀(a:((List Pl)×(List Pl))) (r:Sol),self a=some r→Big Tryz.prog H Y (.call 144 [.sl false 4 a.1.length ((ePl).f a.1),.sl false 4 a.2.length ((ePl).f a.2)] (lk []) (eS r) (lk [])))(za:Bool)(zu zv zw zao:Int)(r:Sol)(h:Dspec_l9Convex_1 n self za zu zv zw zao=some r):Wk Tryz.prog H Y 144 [.code (cp [1,1,0] (bodyOf Tryz.f144)),.code (cp [1,1,1] (bodyOf Tryz.f144))] (FinX Tryz.prog Tryz.f144 [] (eS r) []) ⟨[(4,.ptr 4 0)],[(4,⟨true,0,[bl za,i64 zu,i64 zv,i64 zw,i64 zao,.nil]⟩)]⟩:=by
 unfold Dspec_l9Convex_1 at h
 obtain⟨v12,y12,h⟩:=bm h
 replace h:=sj h;subst h
 exact x_end 4 [(0,.call [] [] (eS v12) [])] [] (ocons (Tspec_Leaf (Y:=Y) true _ y12) onil) onil 
def Dspec_l9Convex_2(n:Nat)(self:((List Pl)×(List Pl))→Option Sol)(t0:List Pl)(t1:List Pl)(za:Bool)(zu zv zw zao:Int)(rec0:Int→Option Sol)(a:Int):Option Sol :=
 match a with
 | t5=>frk (decide (t5<(t0.length:Int))) ((lget t0 t5).bind fun v0=>(Dspec_l3Flip v0).bind fun v1=>(Dspec_l6With n t1 v1).bind fun v2=>frk (!v2) ((lget t0 t5).bind fun v3=>(Dspec_l6With n t1 v3).bind fun v4=>Dspec_l9Convex_0 n self rec0 t0 t1 za zu zv zw zao t5 (!v4)) (rec0 (w64 (t5+1)))) (Dspec_l9Convex_1 n self za zu zv zw zao)
theorem Tspec_l9Convex_2{Y}(n:Nat)(self:((List Pl)×(List Pl))→Option Sol)(hself:∀(a:((List Pl)×(List Pl))) (r:Sol),self a=some r→Big Tryz.prog H Y (.call 144 [.sl false 4 a.1.length ((ePl).f a.1),.sl false 4 a.2.length ((ePl).f a.2)] (lk []) (eS r) (lk [])))(t0:List Pl)(t1:List Pl)(za:Bool)(zu zv zw zao:Int):∀(m:Nat) (a:Int) (r:Sol),loopN (Dspec_l9Convex_2 n self t0 t1 za zu zv zw zao) m a=some r→Wk Tryz.prog H Y 144 [.code (cp [1,0,1,0] (bodyOf Tryz.f144)),.blk 0,.code (cp [1,1] (bodyOf Tryz.f144))] (FinX Tryz.prog Tryz.f144 [] (eS r) []) ⟨[(0,.sl false 4 t0.length ((ePl).f t0)),(1,.sl false 4 t1.length ((ePl).f t1)),(4,.ptr 4 0),(5,i64 a)],[(4,⟨true,0,[bl za,i64 zu,i64 zv,i64 zw,i64 zao,.nil]⟩)]⟩:=by
 refine loopN_ind (fun rec0 hrec0 a r h=>?_)
 obtain⟨t5,rfl⟩:∃x,x=a:=⟨a,rfl⟩
 unfold Dspec_l9Convex_2 at h
 refine x_frk 9 [] onil h (by kernel_rfl) (fun h=>?_) (fun h=>?_)
 ·obtain⟨v0,y0,h⟩:=bm h
  obtain⟨v1,y1,h⟩:=bm h
  obtain⟨v2,y2,h⟩:=bm h
  refine x_frk 14 [(3,.val (.cptr (ePl.c v0++(ePl).f ((t0).drop (Int.toNat t5+1))))),(1,.call [] [] (.agg [i64 v1.A,i64 v1.B,i64 v1.C,i64 v1.D]) []),(0,.call [] [] (bl v2) [])] (ocons (ix ePl y0) (ocons (Tspec_l3Flip (Y:=Y) v0 _ y1) (ocons (Tspec_l6With (Y:=Y) n t1 v1 _ y2) onil))) h (by kernel_rfl) (fun h=>?_) (fun h=>?_)
  ·obtain⟨v3,y3,h⟩:=bm h
   obtain⟨v4,y4,h⟩:=bm h
   exact x_to 9 [(3,.val (.cptr (ePl.c v3++(ePl).f ((t0).drop (Int.toNat t5+1))))),(1,.call [] [] (bl v4) [])] (ocons (ix ePl y3) (ocons (Tspec_l6With (Y:=Y) n t1 v3 _ y4) onil)) (Tspec_l9Convex_0 n self rec0 t0 t1 za zu zv zw zao hself hrec0 t5 (!v4) r h) 
  ·exact x_to 18 [] onil (hrec0 (w64 (t5+1)) r h) 
 ·exact x_to 2 [] onil (Tspec_l9Convex_1 n self hself za zu zv zw zao r h) 
def Dspec_l9Convex_b(n:Nat)(self:((List Pl)×(List Pl))→Option Sol)(a:((List Pl)×(List Pl))):Option Sol :=
 match a with
 | (a0,a1)=>loopN (Dspec_l9Convex_2 n self a0 a1 false 0 0 0 0) n 0
def Dspec_l9Convex(n:Nat)(a0:(List Pl))(a1:(List Pl)):Option Sol:=loopN (Dspec_l9Convex_b n) n (a0,a1)
theorem Tspec_l9Convex_b{Y}(n:Nat):∀(m:Nat) (a:((List Pl)×(List Pl))) (r:Sol),loopN (Dspec_l9Convex_b n) m a=some r→∀(_:Unit),Big Tryz.prog H Y (.call 144 [.sl false 4 a.1.length ((ePl).f a.1),.sl false 4 a.2.length ((ePl).f a.2)] (lk []) (eS r) (lk [])):=by
 refine loopN_ind (fun self hs a r h=>?_)
 have hself:∀(a:((List Pl)×(List Pl))) (r:Sol),self a=some r→Big Tryz.prog H Y (.call 144 [.sl false 4 a.1.length ((ePl).f a.1),.sl false 4 a.2.length ((ePl).f a.2)] (lk []) (eS r) (lk [])):=fun a r h=>hs a r h ()
 intro _
 obtain⟨a0,a1⟩:=a
 unfold Dspec_l9Convex_b at h
 refine x_call (fn:=Tryz.f144) (c:=bodyOf Tryz.f144) (bs0:=[]) Tryz.func144 (by kernel_rfl) (by kernel_rfl) ?_
 exact x_to 10 [] onil (Tspec_l9Convex_2 n self hself a0 a1 false 0 0 0 0 n 0 r h) 
theorem Tspec_l9Convex{Y}(n:Nat)(a0:(List Pl))(a1:(List Pl))(r:Sol)(h:Dspec_l9Convex n a0 a1=some r):Big Tryz.prog H Y (.call 144 [.sl false 4 a0.length ((ePl).f a0),.sl false 4 a1.length ((ePl).f a1)] (lk []) (eS r) (lk [])):=Tspec_l9Convex_b n n (a0,a1) r h ()
def Dspec_Convex(n:Nat)(a0:(List Pl)):Option (Sol×Int) :=
 (Dspec_l6Right n a0).bind fun v0=>frk (!v0) (some ((Sol.mk false (Pl.mk 0 0 0 0) []),1)) ((Dspec_l6Open n a0).bind fun v1=>frk (!v1) ((Dspec_Leaf false).bind fun v2=>some (v2,2)) ((Dspec_l9Convex n a0 []).bind fun v3=>some (v3,0)))
theorem Tspec_Convex{Y}(n:Nat)(a0:(List Pl))(r:(Sol×Int))(h:Dspec_Convex n a0=some r):Big Tryz.prog H Y (.call 80 [.sl false 4 a0.length ((ePl).f a0)] (lk []) (.tup [eS r.1,i64 r.2]) (lk [])):=by
 unfold Dspec_Convex at h
 refine x_call (fn:=Tryz.f80) (c:=bodyOf Tryz.f80) (bs0:=[]) Tryz.func80 (by kernel_rfl) (by kernel_rfl) ?_
 obtain⟨v0,y0,h⟩:=bm h
 refine x_frk 12 [(3,.call [] [] (bl v0) [])] (ocons (Tspec_l6Right (Y:=Y) n a0 _ y0) onil) h (by kernel_rfl) (fun h=>?_) (fun h=>?_)
 ·replace h:=sj h;subst h
  exact x_end 6 [] [(true,6)] onil onil 
 ·obtain⟨v1,y1,h⟩:=bm h
  refine x_frk 8 [(1,.call [] [] (bl v1) [])] (ocons (Tspec_l6Open (Y:=Y) n a0 _ y1) onil) h (by kernel_rfl) (fun h=>?_) (fun h=>?_)
  ·obtain⟨v2,y2,h⟩:=bm h
   replace h:=sj h;subst h
   exact x_end 6 [(0,.call [] [] (eS v2) [])] [] (ocons (Tspec_Leaf (Y:=Y) false _ y2) onil) onil 
  ·obtain⟨v3,y3,h⟩:=bm h
   replace h:=sj h;subst h
   exact x_end 9 [(2,.call [] [(ePl).f []] (eS v3) [])] [] (ocons (Tspec_l9Convex (Y:=Y) n a0 [] _ y3) (ocons (len_row (L:=[]) ePl) (ocons (Enc.share ePl ePl sPl []) (ocons (show hasSh (eS v3)=false by simp[eS,hasSh,hasShL,nSh,nShI,nShB,nShP,nShT,nShN,nShPs]) onil)))) onil 
def Dspec_l8Copy_0(_n:Nat)(self1:Sol→Option Sol)(_zc:Bool)(_zd _zaz _zba _zbb:Int)(zbc:List Sol)(_zb:Bool)(_zm _zn _zo _zam:Int)(ze:Bool)(zf zs zt zax:Int)(rec0:(Int×List Sol)→Option Sol)(a:(Int×List Sol)):Option Sol :=
 match a with
 | (t4,l635)=>frk (decide (t4<(zbc.length:Int))) ((lget zbc t4).bind fun v0=>(self1 v0).bind fun v1=>chk (apB 64 (l635.length+1)) (rec0 (w64 (t4+1),(l635++[v1])))) (some (Sol.mk ze (Pl.mk zf zs zt zax) l635))
theorem Tspec_l8Copy_0{Y}(n:Nat)(self1:Sol→Option Sol)(hself1:∀(a:Sol) (r:Sol),self1 a=some r→Big Tryz.prog H Y (.call 82 [eF a] (lk []) (eS r) (lk [])))(zc:Bool)(zd zaz zba zbb:Int)(zbc:List Sol)(zb:Bool)(zm zn zo zam:Int)(ze:Bool)(zf zs zt zax:Int):∀(m:Nat) (a:(Int×List Sol)) (r:Sol),loopN (Dspec_l8Copy_0 n self1 zc zd zaz zba zbb zbc zb zm zn zo zam ze zf zs zt zax) m a=some r→Wk Tryz.prog H Y 82 [.code (cp [1,1,0,1,0] (bodyOf Tryz.f82)),.blk 0,.code (cp [1,1,1] (bodyOf Tryz.f82))] (FinX Tryz.prog Tryz.f82 [] (eS r) []) ⟨[(1,.ptr 1 0),(2,.ptr 2 0),(3,.ptr 3 0),(4,i64 a.1)],[(1,⟨true,0,[bl zc,i64 zd,i64 zaz,i64 zba,i64 zbb,.sl false 6 zbc.length ((eSol false).f zbc)]⟩),(2,⟨true,0,[bl zb,i64 zm,i64 zn,i64 zo,i64 zam,.nil]⟩),(3,⟨true,0,[bl ze,i64 zf,i64 zs,i64 zt,i64 zax,.msl 635 a.2.length]⟩),(635,⟨true,6,(eSol true).f a.2⟩)]⟩:=by
 refine loopN_ind (fun _rec0 hrec0 a r h=>?_)
 obtain⟨t4,l635⟩:=a
 unfold Dspec_l8Copy_0 at h
 refine x_frk 10 [] onil h (by kernel_rfl) (fun h=>?_) (fun h=>?_)
 ·obtain⟨v0,y0,h⟩:=bm h
  obtain⟨v1,y1,h⟩:=bm h
  obtain⟨c2,h⟩:=chk_some h
  exact x_to 26 [(5,.val (.cptr ((eSol false).c v0++(eSol false).f ((zbc).drop (Int.toNat t4+1))))),(1,.call [] [] (eS v1) []),(1,.fixb 25 ⟨true,6,(eSol true).f [v1]⟩),(0,.app true (List.length (l635++[v1])) ((eSol true).f (l635++[v1]))),(5,.ren 26 635)] (ocons (ix (eSol false) y0) (ocons (hself1 v0 _ y1) (ocons (boxSol true true [v1]) (ocons (len_row' (L:=l635) (eSol true)) (ocons (app_one (L:=l635) (M:=[v1]) (eSol true) c2) (ocons (app_new (L:=l635) (M:=[v1]) (eSol true)) (ocons (app_m (L:=l635) (M:=[v1]) (eSol true) rfl) (ocons (len_row' (L:=[v1]) (eSol true)) (ocons (show 26<1000∧635<1000 by decide) onil))))))))) (hrec0 (w64 (t4+1),(l635++[v1])) r h) 
 ·replace h:=sj h;subst h
  exact x_end 6 [] [] onil (ocons (len_row (L:=l635) (eSol true)) onil) 
def Dspec_l8Copy_b(n:Nat)(self1:Sol→Option Sol)(a:Sol):Option Sol :=
 match a with
 | a0=>loopN (Dspec_l8Copy_0 n self1 a0.inn a0.pl.A a0.pl.B a0.pl.C a0.pl.D a0.kids false 0 0 0 0 a0.inn a0.pl.A a0.pl.B a0.pl.C a0.pl.D) n (0,[])
def Dspec_l8Copy(n:Nat)(a0:Sol):Option Sol:=loopN (Dspec_l8Copy_b n) n a0
theorem Tspec_l8Copy_b{Y}(n:Nat):∀(m:Nat) (a:Sol) (r:Sol),loopN (Dspec_l8Copy_b n) m a=some r→∀(_:Unit),Big Tryz.prog H Y (.call 82 [eF a] (lk []) (eS r) (lk [])):=by
 refine loopN_ind (fun self1 hs a r h=>?_)
 have hself1:∀(a:Sol) (r:Sol),self1 a=some r→Big Tryz.prog H Y (.call 82 [eF a] (lk []) (eS r) (lk [])):=fun a r h=>hs a r h ()
 intro _
 obtain⟨a0,rfl⟩:∃x,x=a:=⟨a,rfl⟩
 unfold Dspec_l8Copy_b at h
 refine x_call (fn:=Tryz.f82) (c:=bodyOf Tryz.f82) (bs0:=[]) Tryz.func82 (by kernel_rfl) (by kernel_rfl) ?_
 exact x_to 22 [(9,.virtc 3 ⟨true,0,[bl a0.inn,i64 a0.pl.A,i64 a0.pl.B,i64 a0.pl.C,i64 a0.pl.D,.nil]⟩ 5 635 6)] (ocons (rflB ⟨true,0,[bl a0.inn,i64 a0.pl.A,i64 a0.pl.B,i64 a0.pl.C,i64 a0.pl.D,.nil]⟩) (ocons (⟨rfl,rfl,by decide,by decide,by decide⟩:(⟨true,0,[bl a0.inn,i64 a0.pl.A,i64 a0.pl.B,i64 a0.pl.C,i64 a0.pl.D,.nil]⟩:Box).cs[5]?=some .nil∧(⟨true,0,[bl a0.inn,i64 a0.pl.A,i64 a0.pl.B,i64 a0.pl.C,i64 a0.pl.D,.nil]⟩:Box).sz=0∧3≠635∧635<1000∧6≠0) onil)) (Tspec_l8Copy_0 n self1 hself1 a0.inn a0.pl.A a0.pl.B a0.pl.C a0.pl.D a0.kids false 0 0 0 0 a0.inn a0.pl.A a0.pl.B a0.pl.C a0.pl.D n (0,[]) r h) 
theorem Tspec_l8Copy{Y}(n:Nat)(a0:Sol)(r:Sol)(h:Dspec_l8Copy n a0=some r):Big Tryz.prog H Y (.call 82 [eF a0] (lk []) (eS r) (lk [])):=Tspec_l8Copy_b n n a0 r h ()
def Dspec_l3DrawAny(n:Nat)(a0:((List Int)×Int×Int)):Option (Pl×((List Int)×Int×Int)) :=
 (Dspec_l3Draw n a0).bind fun v0=>(Dspec_l1Below v0.2 20).bind fun v1=>frk (v1.1==0) ((Dspec_l1Int v1.2 [0,500,501,(-9223372036854775808)]).bind fun v2=>some ((Pl.mk v2.1 v0.1.B v0.1.C v0.1.D),v2.2)) (frk (v1.1==1) ((Dspec_l1Int v1.2 [501,9223372036854775807]).bind fun v3=>some ((Pl.mk v0.1.A v0.1.B v0.1.C v3.1),v3.2)) (frk (v1.1==2) (some ((Pl.mk 0 0 0 1),v1.2)) (frk (v1.1==3) (some ((Pl.mk 2 (-4) 0 6),v1.2)) (some (v0.1,v1.2)))))
theorem Tspec_l3DrawAny{Y}(n:Nat)(a0:((List Int)×Int×Int))(r:(Pl×((List Int)×Int×Int)))(h:Dspec_l3DrawAny n a0=some r):Big Tryz.prog H Y (.call 95 [.ptr 1000 0] (lk [(1000,⟨true,0,[.sl false 1 a0.1.length ((eU8).f a0.1),i64 a0.2.1,i64 a0.2.2]⟩)]) (.agg [i64 r.1.A,i64 r.1.B,i64 r.1.C,i64 r.1.D]) (lk [(1000,⟨true,0,[.sl false 1 r.2.1.length ((eU8).f r.2.1),i64 r.2.2.1,i64 r.2.2.2]⟩)])):=by
 unfold Dspec_l3DrawAny at h
 refine x_call (fn:=Tryz.f95) (c:=bodyOf Tryz.f95) (bs0:=[(1000,⟨true,0,[.bad,.bad,.bad]⟩)]) Tryz.func95 (by kernel_rfl) (by kernel_rfl) ?_
 obtain⟨v0,y0,h⟩:=bm h
 obtain⟨v1,y1,h⟩:=bm h
 refine x_frk 23 [(2,.call [] [] (.agg [i64 v0.1.A,i64 v0.1.B,i64 v0.1.C,i64 v0.1.D]) [(1000,⟨true,0,[.sl false 1 v0.2.1.length ((eU8).f v0.2.1),i64 v0.2.2.1,i64 v0.2.2.2]⟩)]),(3,.call [] [] (i64 v1.1) [(1000,⟨true,0,[.sl false 1 v1.2.1.length ((eU8).f v1.2.1),i64 v1.2.2.1,i64 v1.2.2.2]⟩)])] (ocons (Tspec_l3Draw (Y:=Y) n a0 _ y0) (ocons (Tspec_l1Below (Y:=Y) v0.2 20 _ y1) onil)) h (by kernel_rfl) (fun h=>?_) (fun h=>?_)
 ·obtain⟨v2,y2,h⟩:=bm h
  replace h:=sj h;subst h
  exact x_end 13 [(2,.call [] [] (i64 v2.1) [(1000,⟨true,0,[.sl false 1 v2.2.1.length ((eU8).f v2.2.1),i64 v2.2.2.1,i64 v2.2.2.2]⟩)])] [] (ocons (Big.wka (show WkT [.ptr 1000 0,.sl true 1 4 ((eInt).f [0,500,501,(-9223372036854775808)])] [.ptr 1000 0,.sl false 1 4 ((eInt).f [0,500,501,(-9223372036854775808)])] from ⟨wkSameU _,wkShareU (L:=[0,500,501,(-9223372036854775808)]) eInt eInt sInt,trivial⟩) (Tspec_l1Int (Y:=Y) v1.2 [0,500,501,(-9223372036854775808)] _ y2)) (ocons (len_row (L:=[0,500,501,(-9223372036854775808)]) eInt) onil)) onil 
 ·refine x_frk 5 [] onil h (by kernel_rfl) (fun h=>?_) (fun h=>?_)
  ·obtain⟨v3,y3,h⟩:=bm h
   replace h:=sj h;subst h
   exact x_end 13 [(2,.call [] [] (i64 v3.1) [(1000,⟨true,0,[.sl false 1 v3.2.1.length ((eU8).f v3.2.1),i64 v3.2.2.1,i64 v3.2.2.2]⟩)])] [] (ocons (Big.wka (show WkT [.ptr 1000 0,.sl true 1 2 ((eInt).f [501,9223372036854775807])] [.ptr 1000 0,.sl false 1 2 ((eInt).f [501,9223372036854775807])] from ⟨wkSameU _,wkShareU (L:=[501,9223372036854775807]) eInt eInt sInt,trivial⟩) (Tspec_l1Int (Y:=Y) v1.2 [501,9223372036854775807] _ y3)) (ocons (len_row (L:=[501,9223372036854775807]) eInt) onil)) onil 
  ·refine x_frk 5 [] onil h (by kernel_rfl) (fun h=>?_) (fun h=>?_)
   ·replace h:=sj h;subst h
    exact x_end 10 [] [] onil onil 
   ·refine x_frk 5 [] onil h (by kernel_rfl) (fun h=>?_) (fun h=>?_)
    ·replace h:=sj h;subst h
     exact x_end 10 [] [] onil onil 
    ·replace h:=sj h;subst h
     exact x_end 7 [] [] onil onil 
def Dspec_l8Node(a0:Pl)(a1:Sol)(a2:Sol):Option Sol :=
 some (Sol.mk false a0 [a1,a2])
theorem Tspec_l8Node{Y}(a0:Pl)(a1:Sol)(a2:Sol)(r:Sol)(h:Dspec_l8Node a0 a1 a2=some r):Big Tryz.prog H Y (.call 140 [.agg [i64 a0.A,i64 a0.B,i64 a0.C,i64 a0.D],eF a1,eF a2] (lk []) (eF r) (lk [])):=by
 unfold Dspec_l8Node at h
 refine x_call (fn:=Tryz.f140) (c:=bodyOf Tryz.f140) (bs0:=[]) Tryz.func140 (by kernel_rfl) (by kernel_rfl) ?_
 replace h:=sj h;subst h
 exact x_endS 17 [(8,.fixb 10 ⟨true,6,(eSol false).f [a1,a2]⟩)] (ocons (boxSol true false [a1,a2]) onil) (ocons (len_row (L:=[a1,a2]) (eSol false)) onil) (show WkV (.agg [bl false,i64 a0.A,i64 a0.B,i64 a0.C,i64 a0.D,.sl true 6 2 ((eSol false).f [a1,a2])]) _ from .inl (.inr ⟨_,_,rfl,rfl,⟨.inl rfl,.inl rfl,.inl rfl,.inl rfl,.inl rfl,wkShareC (L:=[a1,a2]) (eSol false) (eSol false) (sSol false),trivial⟩⟩)) (by kernel_rfl)
def Dspec_l8Bend_1(_n:Nat)(self:(((List Int)×Int×Int)×Sol)→Option (Sol×((List Int)×Int×Int)))(t6:Int)(_za:Bool)(_zu _zv _zw _zao:Int)(zx:Bool)(zy zz zaa zaq:Int)(zar:List Sol)(zp:List Int)(zq zr:Int):Option (Sol×((List Int)×Int×Int)) :=
 (lget zar t6).bind fun v3=>(self ((zp,zq,zr),v3)).bind fun v4=>(lget zar t6).bind fun _v5=>some ((Sol.mk zx (Pl.mk zy zz zaa zaq) (zar.set (Int.toNat t6) v4.1)),v4.2)
theorem Tspec_l8Bend_1{Y}(n:Nat)(self:(((List Int)×Int×Int)×Sol)→Option (Sol×((List Int)×Int×Int)))(hself:∀(a:(((List Int)×Int×Int)×Sol)) (r:(Sol×((List Int)×Int×Int))),self a=some r→Big Tryz.prog H Y (.call 130 [.ptr 1000 0,eF a.2] (lk [(1000,⟨true,0,[.sl false 1 a.1.1.length ((eU8).f a.1.1),i64 a.1.2.1,i64 a.1.2.2]⟩)]) (eF r.1) (lk [(1000,⟨true,0,[.sl false 1 r.2.1.length ((eU8).f r.2.1),i64 r.2.2.1,i64 r.2.2.2]⟩)])))(t6:Int)(za:Bool)(zu zv zw zao:Int)(zx:Bool)(zy zz zaa zaq:Int)(zar:List Sol)(zp:List Int)(zq zr:Int)(r:(Sol×((List Int)×Int×Int)))(h:Dspec_l8Bend_1 n self t6 za zu zv zw zao zx zy zz zaa zaq zar zp zq zr=some r):Wk Tryz.prog H Y 130 [.code (cp [1,1,0,1,0,1,0] (bodyOf Tryz.f130)),.code (cp [1,1,0,1,0,1,1] (bodyOf Tryz.f130)),.code (cp [1,1,1] (bodyOf Tryz.f130))] (FinX Tryz.prog Tryz.f130 [(1000,⟨true,0,[.bad,.bad,.bad]⟩)] (eF r.1) [(1000,⟨true,0,[.sl false 1 r.2.1.length ((eU8).f r.2.1),i64 r.2.2.1,i64 r.2.2.2]⟩)]) ⟨[(0,.ptr 1000 0),(4,.ptr 4 0),(5,.ptr 5 0),(6,i64 t6)],[(4,⟨true,0,[bl za,i64 zu,i64 zv,i64 zw,i64 zao,.nil]⟩),(5,⟨true,0,[bl zx,i64 zy,i64 zz,i64 zaa,i64 zaq,.sl true 6 zar.length ((eSol true).f zar)]⟩),(1000,⟨true,0,[.sl false 1 zp.length ((eU8).f zp),i64 zq,i64 zr]⟩)]⟩:=by
 unfold Dspec_l8Bend_1 at h
 obtain⟨v3,y3,h⟩:=bm h
 obtain⟨v4,y4,h⟩:=bm h
 obtain⟨_v5,y5,h⟩:=bm h
 replace h:=sj h;subst h
 exact x_endS 25 [(0,.adoptc 5 ⟨true,0,[bl zx,i64 zy,i64 zz,i64 zaa,i64 zaq,.sl true 6 zar.length ((eSol true).f zar)]⟩ 5 655 zar.length 6 ((eSol true).f zar)),(0,.openb 655 ⟨false,6,(eSol true).f zar⟩),(0,.wkb 655 ⟨true,6,(eSol true).f zar⟩ ⟨true,6,(eSol false).f zar⟩),(7,.unit),(0,.cells [bl v3.inn,i64 v3.pl.A,i64 v3.pl.B,i64 v3.pl.C,i64 v3.pl.D,.sl false 6 v3.kids.length ((eSol false).f v3.kids)]),(0,.call [] [] (eF v4.1) [(1000,⟨true,0,[.sl false 1 v4.2.1.length ((eU8).f v4.2.1),i64 v4.2.2.1,i64 v4.2.2.2]⟩)]),(0,.unit),(0,.cells ((eSol false).f (zar.set (Int.toNat t6) v4.1))),(0,.fix 20 (.msl 655 (zar.set (Int.toNat t6) v4.1).length)),(0,.fix 24 (.msl 655 (zar.set (Int.toNat t6) v4.1).length)),(0,.fixb 5 ⟨true,0,[bl zx,i64 zy,i64 zz,i64 zaa,i64 zaq,.msl 655 (zar.set (Int.toNat t6) v4.1).length]⟩)] (ocons (rflB ⟨true,0,[bl zx,i64 zy,i64 zz,i64 zaa,i64 zaq,.sl true 6 zar.length ((eSol true).f zar)]⟩) (ocons (⟨rfl,rfl,by decide,by decide,by decide⟩:(⟨true,0,[bl zx,i64 zy,i64 zz,i64 zaa,i64 zaq,.sl true 6 zar.length ((eSol true).f zar)]⟩:Box).cs[5]?=some (.sl true 6 zar.length ((eSol true).f zar))∧(⟨true,0,[bl zx,i64 zy,i64 zz,i64 zaa,i64 zaq,.sl true 6 zar.length ((eSol true).f zar)]⟩:Box).sz=0∧5≠655∧655<1000∧6≠0) (ocons (⟨rfl,(show (6:Nat)≠0 by decide),rfl⟩:some (⟨false,6,(eSol true).f zar⟩:Box)=some ⟨false,6,(eSol true).f zar⟩∧(⟨false,6,(eSol true).f zar⟩:Box).sz≠0∧H.fl 130=true) (ocons (nu8Sol true zar) (ocons (nSh zar) (ocons (u8Lk zp) (ocons (rflB ⟨true,6,(eSol true).f zar⟩) (ocons (wkRowB (L:=zar) (st:=true) (z:=6) (eSol true) (eSol false) (sSol true)) (ocons (inr y3) (ocons (ldA (eSol false) y3 0 6 rfl rfl) (ocons (hself ((zp,zq,zr),v3) _ y4) (ocons (inr y5) (ocons (stA (eSol false) y5 0 6 [bl v4.1.inn,i64 v4.1.pl.A,i64 v4.1.pl.B,i64 v4.1.pl.C,i64 v4.1.pl.D,.sl false 6 v4.1.kids.length ((eSol false).f v4.1.kids)] v4.1 rfl rfl) (ocons (setLen 655 zar (Int.toNat t6) v4.1) (ocons (setLen 655 zar (Int.toNat t6) v4.1) (ocons (congrArg (fun v=>some (⟨true,0,[bl zx,i64 zy,i64 zz,i64 zaa,i64 zaq,v]⟩:Box)) (setLen 655 zar (Int.toNat t6) v4.1)) onil)))))))))))))))) (ocons (len_row (L:=(zar.set (Int.toNat t6) v4.1)) (eSol false)) onil) (show WkV (.agg [bl zx,i64 zy,i64 zz,i64 zaa,i64 zaq,.sl true 6 (zar.set (Int.toNat t6) v4.1).length ((eSol false).f (zar.set (Int.toNat t6) v4.1))]) _ from .inl (.inr ⟨_,_,rfl,rfl,⟨.inl rfl,.inl rfl,.inl rfl,.inl rfl,.inl rfl,wkShareC (L:=(zar.set (Int.toNat t6) v4.1)) (eSol false) (eSol false) (sSol false),trivial⟩⟩)) (by kernel_rfl)
def Dspec_l8Bend_2(_n:Nat)(_self:(((List Int)×Int×Int)×Sol)→Option (Sol×((List Int)×Int×Int)))(_za:Bool)(_zu _zv _zw _zao:Int)(zx:Bool)(zy zz zaa zaq:Int)(zar:List Sol)(zp:List Int)(zq zr:Int):Option (Sol×((List Int)×Int×Int)) :=
 chk (apB 64 (zar.length+1)) (some ((Sol.mk zx (Pl.mk zy zz zaa zaq) (zar++[(Sol.mk false (Pl.mk 0 0 0 0) [])])),(zp,zq,zr)))
theorem Tspec_l8Bend_2{Y}(n:Nat)(self:(((List Int)×Int×Int)×Sol)→Option (Sol×((List Int)×Int×Int)))(_hself:∀(a:(((List Int)×Int×Int)×Sol)) (r:(Sol×((List Int)×Int×Int))),self a=some r→Big Tryz.prog H Y (.call 130 [.ptr 1000 0,eF a.2] (lk [(1000,⟨true,0,[.sl false 1 a.1.1.length ((eU8).f a.1.1),i64 a.1.2.1,i64 a.1.2.2]⟩)]) (eF r.1) (lk [(1000,⟨true,0,[.sl false 1 r.2.1.length ((eU8).f r.2.1),i64 r.2.2.1,i64 r.2.2.2]⟩)])))(za:Bool)(zu zv zw zao:Int)(zx:Bool)(zy zz zaa zaq:Int)(zar:List Sol)(zp:List Int)(zq zr:Int)(r:(Sol×((List Int)×Int×Int)))(h:Dspec_l8Bend_2 n self za zu zv zw zao zx zy zz zaa zaq zar zp zq zr=some r):Wk Tryz.prog H Y 130 [.code (cp [1,1,1,0,1,0,1,1,1,1,1,0] (bodyOf Tryz.f130)),.blk 0,.code (cp [1,1,1,1] (bodyOf Tryz.f130))] (FinX Tryz.prog Tryz.f130 [(1000,⟨true,0,[.bad,.bad,.bad]⟩)] (eF r.1) [(1000,⟨true,0,[.sl false 1 r.2.1.length ((eU8).f r.2.1),i64 r.2.2.1,i64 r.2.2.2]⟩)]) ⟨[(4,.ptr 4 0),(5,.ptr 5 0)],[(4,⟨true,0,[bl za,i64 zu,i64 zv,i64 zw,i64 zao,.nil]⟩),(5,⟨true,0,[bl zx,i64 zy,i64 zz,i64 zaa,i64 zaq,.sl true 6 zar.length ((eSol true).f zar)]⟩),(1000,⟨true,0,[.sl false 1 zp.length ((eU8).f zp),i64 zq,i64 zr]⟩)]⟩:=by
 unfold Dspec_l8Bend_2 at h
 obtain⟨c8,h⟩:=chk_some h
 replace h:=sj h;subst h
 exact x_endS 17 [(0,.adoptc 5 ⟨true,0,[bl zx,i64 zy,i64 zz,i64 zaa,i64 zaq,.sl true 6 zar.length ((eSol true).f zar)]⟩ 5 655 zar.length 6 ((eSol true).f zar)),(4,.app true (List.length (zar++[(Sol.mk false (Pl.mk 0 0 0 0) [])])) ((eSol true).f zar++[bl false,i64 0,i64 0,i64 0,i64 0,.nil])),(2,.wkb 50 ⟨false,6,(eSol true).f zar++[bl false,i64 0,i64 0,i64 0,i64 0,.nil]⟩ ⟨false,6,(eSol true).f (zar++[(Sol.mk false (Pl.mk 0 0 0 0) [])])⟩)] (ocons (rflB ⟨true,0,[bl zx,i64 zy,i64 zz,i64 zaa,i64 zaq,.sl true 6 zar.length ((eSol true).f zar)]⟩) (ocons (⟨rfl,rfl,by decide,by decide,by decide⟩:(⟨true,0,[bl zx,i64 zy,i64 zz,i64 zaa,i64 zaq,.sl true 6 zar.length ((eSol true).f zar)]⟩:Box).cs[5]?=some (.sl true 6 zar.length ((eSol true).f zar))∧(⟨true,0,[bl zx,i64 zy,i64 zz,i64 zaa,i64 zaq,.sl true 6 zar.length ((eSol true).f zar)]⟩:Box).sz=0∧5≠655∧655<1000∧6≠0) (ocons (len_row' (L:=zar) (eSol true)) (ocons (app_one (L:=zar) (M:=[(Sol.mk false (Pl.mk 0 0 0 0) [])]) (eSol true) c8) (ocons (@rfl _ ((eSol true).f zar++[bl false,i64 0,i64 0,i64 0,i64 0,.nil])) (ocons (app_m (L:=zar) (M:=[(Sol.mk false (Pl.mk 0 0 0 0) [])]) (eSol true) rfl) (ocons (len_row' (L:=[(Sol.mk false (Pl.mk 0 0 0 0) [])]) (eSol true)) (ocons (rflB (⟨false,6,(eSol true).f zar++[bl false,i64 0,i64 0,i64 0,i64 0,.nil]⟩)) (ocons (wkAppNil false false 0 0 0 0 zar) onil))))))))) (ocons (len_row (L:=(zar++[(Sol.mk false (Pl.mk 0 0 0 0) [])])) (eSol true)) onil) (show WkV (.agg [bl zx,i64 zy,i64 zz,i64 zaa,i64 zaq,.sl true 6 (zar++[(Sol.mk false (Pl.mk 0 0 0 0) [])]).length ((eSol true).f (zar++[(Sol.mk false (Pl.mk 0 0 0 0) [])]))]) _ from .inl (.inr ⟨_,_,rfl,rfl,⟨.inl rfl,.inl rfl,.inl rfl,.inl rfl,.inl rfl,wkShareC (L:=(zar++[(Sol.mk false (Pl.mk 0 0 0 0) [])])) (eSol true) (eSol false) (sSol true),trivial⟩⟩)) (by kernel_rfl)
def Dspec_l8Bend_0(n:Nat)(self:(((List Int)×Int×Int)×Sol)→Option (Sol×((List Int)×Int×Int)))(t16 za:Bool)(zu zv zw zao:Int)(zx:Bool)(zy zz zaa zaq:Int)(zar:List Sol)(zp:List Int)(zq zr:Int):Option (Sol×((List Int)×Int×Int)) :=
 frk t16 ((Dspec_l1Below (zp,zq,zr) 2).bind fun v2=>Dspec_l8Bend_1 n self v2.1 za zu zv zw zao zx zy zz zaa zaq zar v2.2.1 v2.2.2.1 v2.2.2.2) ((Dspec_l1Below (zp,zq,zr) 6).bind fun v6=>frk (v6.1==0) (some ((Sol.mk (!zx) (Pl.mk zy zz zaa zaq) zar),v6.2)) (frk (v6.1==1) ((Dspec_l3DrawAny n v6.2).bind fun v7=>some ((Sol.mk zx v7.1 zar),v7.2)) (frk (v6.1==2) (Dspec_l8Bend_2 n self za zu zv zw zao zx zy zz zaa zaq zar v6.2.1 v6.2.2.1 v6.2.2.2) (frk (v6.1==3) ((Dspec_Leaf true).bind fun v9=>(Dspec_l8Node (Pl.mk zy zz zaa zaq) (Sol.mk zx (Pl.mk zy zz zaa zaq) zar) v9).bind fun v10=>some (v10,v6.2)) (frk (v6.1==4) (some ((Sol.mk zx (Pl.mk zy zz zaa zaq) []),v6.2)) (some ((Sol.mk zx (Pl.mk zy zz zaa zaq) zar),v6.2)))))))
theorem Tspec_l8Bend_0{Y}(n:Nat)(self:(((List Int)×Int×Int)×Sol)→Option (Sol×((List Int)×Int×Int)))(hself:∀(a:(((List Int)×Int×Int)×Sol)) (r:(Sol×((List Int)×Int×Int))),self a=some r→Big Tryz.prog H Y (.call 130 [.ptr 1000 0,eF a.2] (lk [(1000,⟨true,0,[.sl false 1 a.1.1.length ((eU8).f a.1.1),i64 a.1.2.1,i64 a.1.2.2]⟩)]) (eF r.1) (lk [(1000,⟨true,0,[.sl false 1 r.2.1.length ((eU8).f r.2.1),i64 r.2.2.1,i64 r.2.2.2]⟩)])))(t16 za:Bool)(zu zv zw zao:Int)(zx:Bool)(zy zz zaa zaq:Int)(zar:List Sol)(zp:List Int)(zq zr:Int)(r:(Sol×((List Int)×Int×Int)))(h:Dspec_l8Bend_0 n self t16 za zu zv zw zao zx zy zz zaa zaq zar zp zq zr=some r):Wk Tryz.prog H Y 130 [.code (cp [1,1,0,1] (bodyOf Tryz.f130)),.code (cp [1,1,1] (bodyOf Tryz.f130))] (FinX Tryz.prog Tryz.f130 [(1000,⟨true,0,[.bad,.bad,.bad]⟩)] (eF r.1) [(1000,⟨true,0,[.sl false 1 r.2.1.length ((eU8).f r.2.1),i64 r.2.2.1,i64 r.2.2.2]⟩)]) ⟨[(0,.ptr 1000 0),(4,.ptr 4 0),(5,.ptr 5 0),(16,bl t16)],[(4,⟨true,0,[bl za,i64 zu,i64 zv,i64 zw,i64 zao,.nil]⟩),(5,⟨true,0,[bl zx,i64 zy,i64 zz,i64 zaa,i64 zaq,.sl true 6 zar.length ((eSol true).f zar)]⟩),(1000,⟨true,0,[.sl false 1 zp.length ((eU8).f zp),i64 zq,i64 zr]⟩)]⟩:=by
 unfold Dspec_l8Bend_0 at h
 refine x_frk 0 [] onil h (by kernel_rfl) (fun h=>?_) (fun h=>?_)
 ·obtain⟨v2,y2,h⟩:=bm h
  exact x_to 7 [(1,.call [] [] (i64 v2.1) [(1000,⟨true,0,[.sl false 1 v2.2.1.length ((eU8).f v2.2.1),i64 v2.2.2.1,i64 v2.2.2.2]⟩)])] (ocons (Tspec_l1Below (Y:=Y) (zp,zq,zr) 2 _ y2) onil) (Tspec_l8Bend_1 n self hself v2.1 za zu zv zw zao zx zy zz zaa zaq zar v2.2.1 v2.2.2.1 v2.2.2.2 r h) 
 ·obtain⟨v6,y6,h⟩:=bm h
  refine x_frk 13 [(1,.call [] [] (i64 v6.1) [(1000,⟨true,0,[.sl false 1 v6.2.1.length ((eU8).f v6.2.1),i64 v6.2.2.1,i64 v6.2.2.2]⟩)])] (ocons (Tspec_l1Below (Y:=Y) (zp,zq,zr) 6 _ y6) onil) h (by kernel_rfl) (fun h=>?_) (fun h=>?_)
  ·replace h:=sj h;subst h
   exact x_endS 13 [] onil onil (show WkV (.agg [bl (!zx),i64 zy,i64 zz,i64 zaa,i64 zaq,.sl true 6 zar.length ((eSol true).f zar)]) _ from .inl (.inr ⟨_,_,rfl,rfl,⟨.inl rfl,.inl rfl,.inl rfl,.inl rfl,.inl rfl,wkShareC (L:=zar) (eSol true) (eSol false) (sSol true),trivial⟩⟩)) (by kernel_rfl)
  ·refine x_frk 5 [] onil h (by kernel_rfl) (fun h=>?_) (fun h=>?_)
   ·obtain⟨v7,y7,h⟩:=bm h
    replace h:=sj h;subst h
    exact x_endS 12 [(1,.call [] [] (.agg [i64 v7.1.A,i64 v7.1.B,i64 v7.1.C,i64 v7.1.D]) [(1000,⟨true,0,[.sl false 1 v7.2.1.length ((eU8).f v7.2.1),i64 v7.2.2.1,i64 v7.2.2.2]⟩)])] (ocons (Tspec_l3DrawAny (Y:=Y) n v6.2 _ y7) onil) onil (show WkV (.agg [bl zx,i64 v7.1.A,i64 v7.1.B,i64 v7.1.C,i64 v7.1.D,.sl true 6 zar.length ((eSol true).f zar)]) _ from .inl (.inr ⟨_,_,rfl,rfl,⟨.inl rfl,.inl rfl,.inl rfl,.inl rfl,.inl rfl,wkShareC (L:=zar) (eSol true) (eSol false) (sSol true),trivial⟩⟩)) (by kernel_rfl)
   ·refine x_frk 5 [] onil h (by kernel_rfl) (fun h=>?_) (fun h=>?_)
    ·exact x_to 0 [] onil (Tspec_l8Bend_2 n self hself za zu zv zw zao zx zy zz zaa zaq zar v6.2.1 v6.2.2.1 v6.2.2.2 r h) 
    ·refine x_frk 5 [] onil h (by kernel_rfl) (fun h=>?_) (fun h=>?_)
     ·obtain⟨v9,y9,h⟩:=bm h
      obtain⟨v10,y10,h⟩:=bm h
      replace h:=sj h;subst h
      exact x_end 14 [(2,.rows [(eSol false).f zar]),(0,.call [] [] (eS v9) []),(0,.call [] [] (eF v10) [])] [] (ocons (Enc.share (eSol true) (eSol false) (sSol true) zar) (ocons (Tspec_Leaf (Y:=Y) true _ y9) (ocons (Big.wka (show WkT [.agg [i64 zy,i64 zz,i64 zaa,i64 zaq],.agg [bl zx,i64 zy,i64 zz,i64 zaa,i64 zaq,.sl false 6 zar.length ((eSol false).f zar)],eS v9] [.agg [i64 zy,i64 zz,i64 zaa,i64 zaq],.agg [bl zx,i64 zy,i64 zz,i64 zaa,i64 zaq,.sl false 6 zar.length ((eSol false).f zar)],eF v9] from ⟨wkSameU _,wkSameU _,.inr ⟨_,_,rfl,rfl,⟨.inl rfl,.inl rfl,.inl rfl,.inl rfl,.inl rfl,wkShareC (L:=v9.kids) (eSol true) (eSol false) (sSol true),trivial⟩⟩,trivial⟩) (Tspec_l8Node (Y:=Y) (Pl.mk zy zz zaa zaq) (Sol.mk zx (Pl.mk zy zz zaa zaq) zar) v9 _ y10)) onil))) onil 
     ·refine x_frk 5 [] onil h (by kernel_rfl) (fun h=>?_) (fun h=>?_)
      ·replace h:=sj h;subst h
       exact x_endS 11 [] onil (ocons (len_row (L:=[]) (eSol true)) onil) (show WkV (.agg [bl zx,i64 zy,i64 zz,i64 zaa,i64 zaq,.sl true 6 0 ((eSol true).f [])]) _ from .inl (.inr ⟨_,_,rfl,rfl,⟨.inl rfl,.inl rfl,.inl rfl,.inl rfl,.inl rfl,wkShareC (L:=[]) (eSol true) (eSol false) (sSol true),trivial⟩⟩)) (by kernel_rfl)
      ·replace h:=sj h;subst h
       exact x_endS 7 [] onil onil (show WkV (.agg [bl zx,i64 zy,i64 zz,i64 zaa,i64 zaq,.sl true 6 zar.length ((eSol true).f zar)]) _ from .inl (.inr ⟨_,_,rfl,rfl,⟨.inl rfl,.inl rfl,.inl rfl,.inl rfl,.inl rfl,wkShareC (L:=zar) (eSol true) (eSol false) (sSol true),trivial⟩⟩)) (by kernel_rfl)
def Dspec_l8Bend_3(n:Nat)(self:(((List Int)×Int×Int)×Sol)→Option (Sol×((List Int)×Int×Int)))(za:Bool)(zu zv zw zao:Int)(zx:Bool)(zy zz zaa zaq:Int)(zar:List Sol)(zp:List Int)(zq zr:Int):Option (Sol×((List Int)×Int×Int)) :=
 (Dspec_l1Below (zp,zq,zr) 6).bind fun v11=>frk (v11.1==0) (some ((Sol.mk (!zx) (Pl.mk zy zz zaa zaq) zar),v11.2)) (frk (v11.1==1) ((Dspec_l3DrawAny n v11.2).bind fun v12=>some ((Sol.mk zx v12.1 zar),v12.2)) (frk (v11.1==2) (Dspec_l8Bend_2 n self za zu zv zw zao zx zy zz zaa zaq zar v11.2.1 v11.2.2.1 v11.2.2.2) (frk (v11.1==3) ((Dspec_Leaf true).bind fun v13=>(Dspec_l8Node (Pl.mk zy zz zaa zaq) (Sol.mk zx (Pl.mk zy zz zaa zaq) zar) v13).bind fun v14=>some (v14,v11.2)) (frk (v11.1==4) (some ((Sol.mk zx (Pl.mk zy zz zaa zaq) []),v11.2)) (some ((Sol.mk zx (Pl.mk zy zz zaa zaq) zar),v11.2))))))
theorem Tspec_l8Bend_3{Y}(n:Nat)(self:(((List Int)×Int×Int)×Sol)→Option (Sol×((List Int)×Int×Int)))(hself:∀(a:(((List Int)×Int×Int)×Sol)) (r:(Sol×((List Int)×Int×Int))),self a=some r→Big Tryz.prog H Y (.call 130 [.ptr 1000 0,eF a.2] (lk [(1000,⟨true,0,[.sl false 1 a.1.1.length ((eU8).f a.1.1),i64 a.1.2.1,i64 a.1.2.2]⟩)]) (eF r.1) (lk [(1000,⟨true,0,[.sl false 1 r.2.1.length ((eU8).f r.2.1),i64 r.2.2.1,i64 r.2.2.2]⟩)])))(za:Bool)(zu zv zw zao:Int)(zx:Bool)(zy zz zaa zaq:Int)(zar:List Sol)(zp:List Int)(zq zr:Int)(r:(Sol×((List Int)×Int×Int)))(h:Dspec_l8Bend_3 n self za zu zv zw zao zx zy zz zaa zaq zar zp zq zr=some r):Wk Tryz.prog H Y 130 [.code (cp [1,1,1,0,0] (bodyOf Tryz.f130)),.code (cp [1,1,1,0,1] (bodyOf Tryz.f130)),.code (cp [1,1,1,1] (bodyOf Tryz.f130))] (FinX Tryz.prog Tryz.f130 [(1000,⟨true,0,[.bad,.bad,.bad]⟩)] (eF r.1) [(1000,⟨true,0,[.sl false 1 r.2.1.length ((eU8).f r.2.1),i64 r.2.2.1,i64 r.2.2.2]⟩)]) ⟨[(0,.ptr 1000 0),(4,.ptr 4 0),(5,.ptr 5 0)],[(4,⟨true,0,[bl za,i64 zu,i64 zv,i64 zw,i64 zao,.nil]⟩),(5,⟨true,0,[bl zx,i64 zy,i64 zz,i64 zaa,i64 zaq,.sl true 6 zar.length ((eSol true).f zar)]⟩),(1000,⟨true,0,[.sl false 1 zp.length ((eU8).f zp),i64 zq,i64 zr]⟩)]⟩:=by
 unfold Dspec_l8Bend_3 at h
 obtain⟨v11,y11,h⟩:=bm h
 refine x_frk 10 [(1,.call [] [] (i64 v11.1) [(1000,⟨true,0,[.sl false 1 v11.2.1.length ((eU8).f v11.2.1),i64 v11.2.2.1,i64 v11.2.2.2]⟩)])] (ocons (Tspec_l1Below (Y:=Y) (zp,zq,zr) 6 _ y11) onil) h (by kernel_rfl) (fun h=>?_) (fun h=>?_)
 ·replace h:=sj h;subst h
  exact x_endS 13 [] onil onil (show WkV (.agg [bl (!zx),i64 zy,i64 zz,i64 zaa,i64 zaq,.sl true 6 zar.length ((eSol true).f zar)]) _ from .inl (.inr ⟨_,_,rfl,rfl,⟨.inl rfl,.inl rfl,.inl rfl,.inl rfl,.inl rfl,wkShareC (L:=zar) (eSol true) (eSol false) (sSol true),trivial⟩⟩)) (by kernel_rfl)
 ·refine x_frk 5 [] onil h (by kernel_rfl) (fun h=>?_) (fun h=>?_)
  ·obtain⟨v12,y12,h⟩:=bm h
   replace h:=sj h;subst h
   exact x_endS 12 [(1,.call [] [] (.agg [i64 v12.1.A,i64 v12.1.B,i64 v12.1.C,i64 v12.1.D]) [(1000,⟨true,0,[.sl false 1 v12.2.1.length ((eU8).f v12.2.1),i64 v12.2.2.1,i64 v12.2.2.2]⟩)])] (ocons (Tspec_l3DrawAny (Y:=Y) n v11.2 _ y12) onil) onil (show WkV (.agg [bl zx,i64 v12.1.A,i64 v12.1.B,i64 v12.1.C,i64 v12.1.D,.sl true 6 zar.length ((eSol true).f zar)]) _ from .inl (.inr ⟨_,_,rfl,rfl,⟨.inl rfl,.inl rfl,.inl rfl,.inl rfl,.inl rfl,wkShareC (L:=zar) (eSol true) (eSol false) (sSol true),trivial⟩⟩)) (by kernel_rfl)
  ·refine x_frk 5 [] onil h (by kernel_rfl) (fun h=>?_) (fun h=>?_)
   ·exact x_to 0 [] onil (Tspec_l8Bend_2 n self hself za zu zv zw zao zx zy zz zaa zaq zar v11.2.1 v11.2.2.1 v11.2.2.2 r h) 
   ·refine x_frk 5 [] onil h (by kernel_rfl) (fun h=>?_) (fun h=>?_)
    ·obtain⟨v13,y13,h⟩:=bm h
     obtain⟨v14,y14,h⟩:=bm h
     replace h:=sj h;subst h
     exact x_end 14 [(2,.rows [(eSol false).f zar]),(0,.call [] [] (eS v13) []),(0,.call [] [] (eF v14) [])] [] (ocons (Enc.share (eSol true) (eSol false) (sSol true) zar) (ocons (Tspec_Leaf (Y:=Y) true _ y13) (ocons (Big.wka (show WkT [.agg [i64 zy,i64 zz,i64 zaa,i64 zaq],.agg [bl zx,i64 zy,i64 zz,i64 zaa,i64 zaq,.sl false 6 zar.length ((eSol false).f zar)],eS v13] [.agg [i64 zy,i64 zz,i64 zaa,i64 zaq],.agg [bl zx,i64 zy,i64 zz,i64 zaa,i64 zaq,.sl false 6 zar.length ((eSol false).f zar)],eF v13] from ⟨wkSameU _,wkSameU _,.inr ⟨_,_,rfl,rfl,⟨.inl rfl,.inl rfl,.inl rfl,.inl rfl,.inl rfl,wkShareC (L:=v13.kids) (eSol true) (eSol false) (sSol true),trivial⟩⟩,trivial⟩) (Tspec_l8Node (Y:=Y) (Pl.mk zy zz zaa zaq) (Sol.mk zx (Pl.mk zy zz zaa zaq) zar) v13 _ y14)) onil))) onil 
    ·refine x_frk 5 [] onil h (by kernel_rfl) (fun h=>?_) (fun h=>?_)
     ·replace h:=sj h;subst h
      exact x_endS 11 [] onil (ocons (len_row (L:=[]) (eSol true)) onil) (show WkV (.agg [bl zx,i64 zy,i64 zz,i64 zaa,i64 zaq,.sl true 6 0 ((eSol true).f [])]) _ from .inl (.inr ⟨_,_,rfl,rfl,⟨.inl rfl,.inl rfl,.inl rfl,.inl rfl,.inl rfl,wkShareC (L:=[]) (eSol true) (eSol false) (sSol true),trivial⟩⟩)) (by kernel_rfl)
     ·replace h:=sj h;subst h
      exact x_endS 7 [] onil onil (show WkV (.agg [bl zx,i64 zy,i64 zz,i64 zaa,i64 zaq,.sl true 6 zar.length ((eSol true).f zar)]) _ from .inl (.inr ⟨_,_,rfl,rfl,⟨.inl rfl,.inl rfl,.inl rfl,.inl rfl,.inl rfl,wkShareC (L:=zar) (eSol true) (eSol false) (sSol true),trivial⟩⟩)) (by kernel_rfl)
def Dspec_l8Bend_b(n:Nat)(self:(((List Int)×Int×Int)×Sol)→Option (Sol×((List Int)×Int×Int)))(a:(((List Int)×Int×Int)×Sol)):Option (Sol×((List Int)×Int×Int)) :=
 match a with
 | (a0,a1)=>(Dspec_l8Copy n a1).bind fun v0=>frk ((v0.kids.length:Int)==2) ((Dspec_l1Once a0 2).bind fun v1=>Dspec_l8Bend_0 n self v1.1 false 0 0 0 0 v0.inn v0.pl.A v0.pl.B v0.pl.C v0.pl.D v0.kids v1.2.1 v1.2.2.1 v1.2.2.2) (Dspec_l8Bend_3 n self false 0 0 0 0 v0.inn v0.pl.A v0.pl.B v0.pl.C v0.pl.D v0.kids a0.1 a0.2.1 a0.2.2)
def Dspec_l8Bend(n:Nat)(a0:((List Int)×Int×Int))(a1:Sol):Option (Sol×((List Int)×Int×Int)):=loopN (Dspec_l8Bend_b n) n (a0,a1)
theorem Tspec_l8Bend_b{Y}(n:Nat):∀(m:Nat) (a:(((List Int)×Int×Int)×Sol)) (r:(Sol×((List Int)×Int×Int))),loopN (Dspec_l8Bend_b n) m a=some r→∀(_:Unit),Big Tryz.prog H Y (.call 130 [.ptr 1000 0,eF a.2] (lk [(1000,⟨true,0,[.sl false 1 a.1.1.length ((eU8).f a.1.1),i64 a.1.2.1,i64 a.1.2.2]⟩)]) (eF r.1) (lk [(1000,⟨true,0,[.sl false 1 r.2.1.length ((eU8).f r.2.1),i64 r.2.2.1,i64 r.2.2.2]⟩)])):=by
 refine loopN_ind (fun self hs a r h=>?_)
 have hself:∀(a:(((List Int)×Int×Int)×Sol)) (r:(Sol×((List Int)×Int×Int))),self a=some r→Big Tryz.prog H Y (.call 130 [.ptr 1000 0,eF a.2] (lk [(1000,⟨true,0,[.sl false 1 a.1.1.length ((eU8).f a.1.1),i64 a.1.2.1,i64 a.1.2.2]⟩)]) (eF r.1) (lk [(1000,⟨true,0,[.sl false 1 r.2.1.length ((eU8).f r.2.1),i64 r.2.2.1,i64 r.2.2.2]⟩)])):=fun a r h=>hs a r h ()
 intro _
 obtain⟨a0,a1⟩:=a
 unfold Dspec_l8Bend_b at h
 refine x_call (fn:=Tryz.f130) (c:=bodyOf Tryz.f130) (bs0:=[(1000,⟨true,0,[.bad,.bad,.bad]⟩)]) Tryz.func130 (by kernel_rfl) (by kernel_rfl) ?_
 obtain⟨v0,y0,h⟩:=bm h
 refine x_frk 20 [(3,.call [] [] (eS v0) []),(3,.rows [(eSol false).f v0.kids])] (ocons (Tspec_l8Copy (Y:=Y) n a1 _ y0) (ocons (Enc.share (eSol true) (eSol false) (sSol true) v0.kids) onil)) h (by kernel_rfl) (fun h=>?_) (fun h=>?_)
 ·obtain⟨v1,y1,h⟩:=bm h
  exact x_to 4 [(1,.call [] [] (bl v1.1) [(1000,⟨true,0,[.sl false 1 v1.2.1.length ((eU8).f v1.2.1),i64 v1.2.2.1,i64 v1.2.2.2]⟩)])] (ocons (Tspec_l1Once (Y:=Y) a0 2 _ y1) onil) (Tspec_l8Bend_0 n self hself v1.1 false 0 0 0 0 v0.inn v0.pl.A v0.pl.B v0.pl.C v0.pl.D v0.kids v1.2.1 v1.2.2.1 v1.2.2.2 r h) 
 ·exact x_to 8 [] onil (Tspec_l8Bend_3 n self hself false 0 0 0 0 v0.inn v0.pl.A v0.pl.B v0.pl.C v0.pl.D v0.kids a0.1 a0.2.1 a0.2.2 r h) 
theorem Tspec_l8Bend{Y}(n:Nat)(a0:((List Int)×Int×Int))(a1:Sol)(r:(Sol×((List Int)×Int×Int)))(h:Dspec_l8Bend n a0 a1=some r):Big Tryz.prog H Y (.call 130 [.ptr 1000 0,eF a1] (lk [(1000,⟨true,0,[.sl false 1 a0.1.length ((eU8).f a0.1),i64 a0.2.1,i64 a0.2.2]⟩)]) (eF r.1) (lk [(1000,⟨true,0,[.sl false 1 r.2.1.length ((eU8).f r.2.1),i64 r.2.2.1,i64 r.2.2.2]⟩)])):=Tspec_l8Bend_b n n (a0,a1) r h ()
def Dspec_l8DrawAny_0(n:Nat)(_za:Bool)(_zu _zv _zw _zao:Int)(zx:Bool)(zy zz zaa zaq:Int)(zar:List Sol)(zp:List Int)(zq zr:Int):Option (Sol×((List Int)×Int×Int)) :=
 (Dspec_l1Once (zp,zq,zr) 10).bind fun v5=>frk v5.1 ((Dspec_l8Bend n v5.2 (Sol.mk zx (Pl.mk zy zz zaa zaq) zar)).bind fun v6=>some v6) (some ((Sol.mk zx (Pl.mk zy zz zaa zaq) zar),v5.2))
theorem Tspec_l8DrawAny_0{Y}(n:Nat)(za:Bool)(zu zv zw zao:Int)(zx:Bool)(zy zz zaa zaq:Int)(zar:List Sol)(zp:List Int)(zq zr:Int)(r:(Sol×((List Int)×Int×Int)))(h:Dspec_l8DrawAny_0 n za zu zv zw zao zx zy zz zaa zaq zar zp zq zr=some r):Wk Tryz.prog H Y 62 [.code (cp [1,1,1,0,0] (bodyOf Tryz.f62)),.code (cp [1,1,1,0,1] (bodyOf Tryz.f62)),.code (cp [1,1,1,1] (bodyOf Tryz.f62))] (FinX Tryz.prog Tryz.f62 [(1000,⟨true,0,[.bad,.bad,.bad]⟩)] (eF r.1) [(1000,⟨true,0,[.sl false 1 r.2.1.length ((eU8).f r.2.1),i64 r.2.2.1,i64 r.2.2.2]⟩)]) ⟨[(0,.ptr 1000 0),(4,.ptr 4 0),(5,.ptr 5 0)],[(4,⟨true,0,[bl za,i64 zu,i64 zv,i64 zw,i64 zao,.nil]⟩),(5,⟨true,0,[bl zx,i64 zy,i64 zz,i64 zaa,i64 zaq,.sl true 6 zar.length ((eSol true).f zar)]⟩),(1000,⟨true,0,[.sl false 1 zp.length ((eU8).f zp),i64 zq,i64 zr]⟩)]⟩:=by
 unfold Dspec_l8DrawAny_0 at h
 obtain⟨v5,y5,h⟩:=bm h
 refine x_frk 4 [(1,.call [] [] (bl v5.1) [(1000,⟨true,0,[.sl false 1 v5.2.1.length ((eU8).f v5.2.1),i64 v5.2.2.1,i64 v5.2.2.2]⟩)])] (ocons (Tspec_l1Once (Y:=Y) (zp,zq,zr) 10 _ y5) onil) h (by kernel_rfl) (fun h=>?_) (fun h=>?_)
 ·obtain⟨v6,y6,h⟩:=bm h
  replace h:=sj h;subst h
  exact x_end 12 [(0,.wkb 5 ⟨true,0,[bl zx,i64 zy,i64 zz,i64 zaa,i64 zaq,.sl true 6 zar.length ((eSol true).f zar)]⟩ ⟨true,0,[bl zx,i64 zy,i64 zz,i64 zaa,i64 zaq,.sl false 6 zar.length ((eSol false).f zar)]⟩),(2,.call [] [] (eF v6.1) [(1000,⟨true,0,[.sl false 1 v6.2.1.length ((eU8).f v6.2.1),i64 v6.2.2.1,i64 v6.2.2.2]⟩)])] [] (ocons (rflB ⟨true,0,[bl zx,i64 zy,i64 zz,i64 zaa,i64 zaq,.sl true 6 zar.length ((eSol true).f zar)]⟩) (ocons (show WkB ⟨true,0,[bl zx,i64 zy,i64 zz,i64 zaa,i64 zaq,.sl true 6 zar.length ((eSol true).f zar)]⟩ ⟨true,0,[bl zx,i64 zy,i64 zz,i64 zaa,i64 zaq,.sl false 6 zar.length ((eSol false).f zar)]⟩ from ⟨rfl,rfl,⟨.inl rfl,.inl rfl,.inl rfl,.inl rfl,.inl rfl,wkShareC (L:=zar) (eSol true) (eSol false) (sSol true),trivial⟩⟩) (ocons (Tspec_l8Bend (Y:=Y) n v5.2 (Sol.mk zx (Pl.mk zy zz zaa zaq) zar) _ y6) onil))) onil 
 ·replace h:=sj h;subst h
  exact x_endS 6 [] onil onil (show WkV (.agg [bl zx,i64 zy,i64 zz,i64 zaa,i64 zaq,.sl true 6 zar.length ((eSol true).f zar)]) _ from .inl (.inr ⟨_,_,rfl,rfl,⟨.inl rfl,.inl rfl,.inl rfl,.inl rfl,.inl rfl,wkShareC (L:=zar) (eSol true) (eSol false) (sSol true),trivial⟩⟩)) (by kernel_rfl)
def Dspec_l8DrawAny(n:Nat)(a0:((List Int)×Int×Int))(a1:Int):Option (Sol×((List Int)×Int×Int)) :=
 (Dspec_l1Below a0 a1).bind fun v0=>(Dspec_l8Grow n v0.2 [] (w64 (1+v0.1))).bind fun v1=>(Dspec_l1Once v1.2 4).bind fun v2=>frk v2.1 ((Dspec_l6Cell n v2.2 3).bind fun v3=>(Dspec_Convex n v3.1).bind fun v4=>Dspec_l8DrawAny_0 n false 0 0 0 0 v4.1.inn v4.1.pl.A v4.1.pl.B v4.1.pl.C v4.1.pl.D v4.1.kids v3.2.1 v3.2.2.1 v3.2.2.2) (Dspec_l8DrawAny_0 n false 0 0 0 0 v1.1.inn v1.1.pl.A v1.1.pl.B v1.1.pl.C v1.1.pl.D v1.1.kids v2.2.1 v2.2.2.1 v2.2.2.2)
theorem Tspec_l8DrawAny{Y}(n:Nat)(a0:((List Int)×Int×Int))(a1:Int)(r:(Sol×((List Int)×Int×Int)))(h:Dspec_l8DrawAny n a0 a1=some r):Big Tryz.prog H Y (.call 62 [.ptr 1000 0,i64 a1] (lk [(1000,⟨true,0,[.sl false 1 a0.1.length ((eU8).f a0.1),i64 a0.2.1,i64 a0.2.2]⟩)]) (eF r.1) (lk [(1000,⟨true,0,[.sl false 1 r.2.1.length ((eU8).f r.2.1),i64 r.2.2.1,i64 r.2.2.2]⟩)])):=by
 unfold Dspec_l8DrawAny at h
 refine x_call (fn:=Tryz.f62) (c:=bodyOf Tryz.f62) (bs0:=[(1000,⟨true,0,[.bad,.bad,.bad]⟩)]) Tryz.func62 (by kernel_rfl) (by kernel_rfl) ?_
 obtain⟨v0,y0,h⟩:=bm h
 obtain⟨v1,y1,h⟩:=bm h
 obtain⟨v2,y2,h⟩:=bm h
 refine x_frk 22 [(5,.call [] [] (i64 v0.1) [(1000,⟨true,0,[.sl false 1 v0.2.1.length ((eU8).f v0.2.1),i64 v0.2.2.1,i64 v0.2.2.2]⟩)]),(1,.call [] [] (eS v1.1) [(1000,⟨true,0,[.sl false 1 v1.2.1.length ((eU8).f v1.2.1),i64 v1.2.2.1,i64 v1.2.2.2]⟩)]),(3,.call [] [] (bl v2.1) [(1000,⟨true,0,[.sl false 1 v2.2.1.length ((eU8).f v2.2.1),i64 v2.2.2.1,i64 v2.2.2.2]⟩)])] (ocons (Tspec_l1Below (Y:=Y) a0 a1 _ y0) (ocons (Big.wka (show WkT [.ptr 1000 0,.sl true 4 0 ((ePl).f []),i64 (w64 (1+v0.1))] [.ptr 1000 0,.sl false 4 0 ((ePl).f []),i64 (w64 (1+v0.1))] from ⟨wkSameU _,wkShareU (L:=[]) ePl ePl sPl,wkSameU _,trivial⟩) (Tspec_l8Grow (Y:=Y) n v0.2 [] (w64 (1+v0.1)) _ y1)) (ocons (len_row (L:=[]) ePl) (ocons (Tspec_l1Once (Y:=Y) v1.2 4 _ y2) onil)))) h (by kernel_rfl) (fun h=>?_) (fun h=>?_)
 ·obtain⟨v3,y3,h⟩:=bm h
  obtain⟨v4,y4,h⟩:=bm h
  exact x_to 11 [(1,.call [] [] (.sl false 4 v3.1.length ((ePl).f v3.1)) [(1000,⟨true,0,[.sl false 1 v3.2.1.length ((eU8).f v3.2.1),i64 v3.2.2.1,i64 v3.2.2.2]⟩)]),(0,.call [] [] (.tup [eS v4.1,i64 v4.2]) [])] (ocons (shSl (L:=v3.1) ePl ePl sPl (Tspec_l6Cell (Y:=Y) n v2.2 3 _ y3)) (ocons (Tspec_Convex (Y:=Y) n v3.1 _ y4) onil)) (Tspec_l8DrawAny_0 n false 0 0 0 0 v4.1.inn v4.1.pl.A v4.1.pl.B v4.1.pl.C v4.1.pl.D v4.1.kids v3.2.1 v3.2.2.1 v3.2.2.2 r h) 
 ·exact x_to 3 [] onil (Tspec_l8DrawAny_0 n false 0 0 0 0 v1.1.inn v1.1.pl.A v1.1.pl.B v1.1.pl.C v1.1.pl.D v1.1.kids v2.2.1 v2.2.2.1 v2.2.2.2 r h) 
def Dspec_l12Draw(n:Nat)(a0:(List Int)):Option Sol :=
 (Dspec_l1New n a0).bind fun v0=>(Dspec_l1Once v0 2).bind fun v1=>frk v1.1 ((Dspec_l12Twin n v1.2).bind fun v2=>some v2.1) ((Dspec_l8DrawAny n v1.2 5).bind fun v3=>some v3.1)
theorem Tspec_l12Draw{Y}(n:Nat)(a0:(List Int))(r:Sol)(h:Dspec_l12Draw n a0=some r):Big Tryz.prog H Y (.call 124 [.sl false 1 a0.length ((eU8).f a0)] (lk []) (eF r) (lk [])):=by
 unfold Dspec_l12Draw at h
 refine x_call (fn:=Tryz.f124) (c:=bodyOf Tryz.f124) (bs0:=[]) Tryz.func124 (by kernel_rfl) (by kernel_rfl) ?_
 obtain⟨v0,y0,h⟩:=bm h
 obtain⟨v1,y1,h⟩:=bm h
 refine x_frk 16 [(2,.call [] [] (.nbx [.sl false 1 v0.1.length ((eU8).f v0.1),i64 v0.2.1,i64 v0.2.2]) []),(2,.call [] [] (bl v1.1) [(1000,⟨true,0,[.sl false 1 v1.2.1.length ((eU8).f v1.2.1),i64 v1.2.2.1,i64 v1.2.2.2]⟩)])] (ocons (Tspec_l1New (Y:=Y) n a0 _ y0) (ocons (Tspec_l1Once (Y:=Y) v0 2 _ y1) onil)) h (by kernel_rfl) (fun h=>?_) (fun h=>?_)
 ·obtain⟨v2,y2,h⟩:=bm h
  replace h:=sj h;subst h
  exact x_endS 6 [(1,.call [] [] (eS v2.1) [(1000,⟨true,0,[.sl false 1 v2.2.1.length ((eU8).f v2.2.1),i64 v2.2.2.1,i64 v2.2.2.2]⟩)])] (ocons (Tspec_l12Twin (Y:=Y) n v1.2 _ y2) onil) onil (show WkV (eS v2.1) _ from .inl (.inr ⟨_,_,rfl,rfl,⟨.inl rfl,.inl rfl,.inl rfl,.inl rfl,.inl rfl,wkShareC (L:=v2.1.kids) (eSol true) (eSol false) (sSol true),trivial⟩⟩)) (by kernel_rfl)
 ·obtain⟨v3,y3,h⟩:=bm h
  replace h:=sj h;subst h
  exact x_end 7 [(1,.call [] [] (eF v3.1) [(1000,⟨true,0,[.sl false 1 v3.2.1.length ((eU8).f v3.2.1),i64 v3.2.2.1,i64 v3.2.2.2]⟩)])] [] (ocons (Tspec_l8DrawAny (Y:=Y) n v1.2 5 _ y3) onil) onil 
def Dspec_DrawTidy(n:Nat)(a0:(List Int)):Option Sol :=
 (Dspec_l12Draw n a0).bind fun v0=>some v0
theorem Tspec_DrawTidy{Y}(n:Nat)(a0:(List Int))(r:Sol)(h:Dspec_DrawTidy n a0=some r):Big Tryz.prog H Y (.call 55 [.sl false 1 a0.length ((eU8).f a0)] (lk []) (eF r) (lk [])):=by
 unfold Dspec_DrawTidy at h
 refine x_call (fn:=Tryz.f55) (c:=bodyOf Tryz.f55) (bs0:=[]) Tryz.func55 (by kernel_rfl) (by kernel_rfl) ?_
 obtain⟨v0,y0,h⟩:=bm h
 replace h:=sj h;subst h
 exact x_end 10 [(2,.call [] [] (eF v0) [])] [] (ocons (Tspec_l12Draw (Y:=Y) n a0 _ y0) onil) onil 
def Dimpl_Solid_isLeaf(a0:Sol):Option Bool :=
 some ((a0.kids.length:Int)==0)
theorem Timpl_Solid_isLeaf{Y}(a0:Sol)(q0:List AV)(r:Bool)(h:Dimpl_Solid_isLeaf a0=some r):Big Tryz.prog H Y (.call 131 [.cptr ([bl a0.inn,i64 a0.pl.A,i64 a0.pl.B,i64 a0.pl.C,i64 a0.pl.D,.sl false 6 a0.kids.length ((eSol false).f a0.kids)]++q0)] (lk []) (bl r) (lk [])):=by
 unfold Dimpl_Solid_isLeaf at h
 refine x_call (fn:=Tryz.f131) (c:=bodyOf Tryz.f131) (bs0:=[]) Tryz.func131 (by kernel_rfl) (by kernel_rfl) ?_
 replace h:=sj h;subst h
 exact x_end 14 [] [] onil onil 
def Dimpl_inRange(a0 a1 a2:Int):Option Bool :=
 frk (decide (a0≥a1)) (some (decide (a0≤a2))) (some false)
theorem Timpl_inRange{Y}(a0 a1 a2:Int)(r:Bool)(h:Dimpl_inRange a0 a1 a2=some r):Big Tryz.prog H Y (.call 102 [i64 a0,i64 a1,i64 a2] (lk []) (bl r) (lk [])):=by
 unfold Dimpl_inRange at h
 refine x_call (fn:=Tryz.f102) (c:=bodyOf Tryz.f102) (bs0:=[]) Tryz.func102 (by kernel_rfl) (by kernel_rfl) ?_
 refine x_frk 10 [] onil h (by kernel_rfl) (fun h=>?_) (fun h=>?_)
 ·replace h:=sj h;subst h
  exact x_end 6 [] [] onil onil 
 ·replace h:=sj h;subst h
  exact x_end 6 [] [] onil onil 
def Dimpl_isCoef(a0:Int):Option Bool :=
 (Dimpl_inRange a0 (-500) 500).bind fun v0=>some v0
theorem Timpl_isCoef{Y}(a0:Int)(r:Bool)(h:Dimpl_isCoef a0=some r):Big Tryz.prog H Y (.call 99 [i64 a0] (lk []) (bl r) (lk [])):=by
 unfold Dimpl_isCoef at h
 refine x_call (fn:=Tryz.f99) (c:=bodyOf Tryz.f99) (bs0:=[]) Tryz.func99 (by kernel_rfl) (by kernel_rfl) ?_
 obtain⟨v0,y0,h⟩:=bm h
 replace h:=sj h;subst h
 exact x_end 10 [(2,.call [] [] (bl v0) [])] [] (ocons (Timpl_inRange (Y:=Y) a0 (-500) 500 _ y0) onil) onil 
def Dimpl_divisor_0(_n:Nat)(rec0:(Int×Int)→Option Int)(_t6:List Int)(_t7 t8:Int)(rec1:(Int×Int)→Option Int)(a:(Int×Int)):Option Int :=
 match a with
 | (t3,t5)=>frk (t5 != 0) ((rm .i64 t3 t5).bind fun v1=>rec1 (t5,v1)) (rec0 (t3,w64 (t8+1)))
theorem Timpl_divisor_0{Y}(n:Nat)(rec0:(Int×Int)→Option Int)(t6:List Int)(t7:Int)(hrec0:∀(a:(Int×Int)) (r:Int),rec0 a=some r→Wk Tryz.prog H Y 100 [.code (cp [1,1,0,1,0] (bodyOf Tryz.f100)),.blk 0,.code (cp [1,1,1] (bodyOf Tryz.f100))] (FinX Tryz.prog Tryz.f100 [] (i64 r) []) ⟨[(3,i64 a.1),(6,.sl false 1 t6.length ((eInt).f t6)),(7,i64 t7),(8,i64 a.2)],[]⟩)(t8:Int):∀(m:Nat) (a:(Int×Int)) (r:Int),loopN (Dimpl_divisor_0 n rec0 t6 t7 t8) m a=some r→Wk Tryz.prog H Y 100 [.code (cp [1,1,0,1,0,0,1,1,0,0,1,1,0] (bodyOf Tryz.f100)),.blk 2,.blk 1,.code (cp [1,1,0,1,0,0,1,1,1] (bodyOf Tryz.f100)),.lp (cp [1,1,0,1,0] (bodyOf Tryz.f100)),.blk 0,.code (cp [1,1,1] (bodyOf Tryz.f100))] (FinX Tryz.prog Tryz.f100 [] (i64 r) []) ⟨[(3,i64 a.1),(5,i64 a.2),(6,.sl false 1 t6.length ((eInt).f t6)),(7,i64 t7),(8,i64 t8)],[]⟩:=by
 refine loopN_ind (fun _rec1 hrec1 a r h=>?_)
 obtain⟨t3,t5⟩:=a
 unfold Dimpl_divisor_0 at h
 refine x_frk 7 [] onil h (by kernel_rfl) (fun h=>?_) (fun h=>?_)
 ·obtain⟨v1,y1,h⟩:=bm h
  exact x_to 12 [(3,.val (i64 v1))] (ocons (rmOk y1) onil) (hrec1 (t5,v1) r h) 
 ·exact x_to 7 [] onil (hrec0 (t3,w64 (t8+1)) r h) 
def Dimpl_divisor_1(n:Nat)(t6:List Int)(t7:Int)(rec0:(Int×Int)→Option Int)(a:(Int×Int)):Option Int :=
 match a with
 | (t3,t8)=>frk (decide (t8<t7)) ((lget t6 t8).bind fun v0=>loopN (Dimpl_divisor_0 n rec0 t6 t7 t8) n (t3,maxN v0 [w64 (0-v0)])) (some t3)
theorem Timpl_divisor_1{Y}(n:Nat)(t6:List Int)(t7:Int):∀(m:Nat) (a:(Int×Int)) (r:Int),loopN (Dimpl_divisor_1 n t6 t7) m a=some r→Wk Tryz.prog H Y 100 [.code (cp [1,1,0,1,0] (bodyOf Tryz.f100)),.blk 0,.code (cp [1,1,1] (bodyOf Tryz.f100))] (FinX Tryz.prog Tryz.f100 [] (i64 r) []) ⟨[(3,i64 a.1),(6,.sl false 1 t6.length ((eInt).f t6)),(7,i64 t7),(8,i64 a.2)],[]⟩:=by
 refine loopN_ind (fun rec0 hrec0 a r h=>?_)
 obtain⟨t3,t8⟩:=a
 unfold Dimpl_divisor_1 at h
 refine x_frk 6 [] onil h (by kernel_rfl) (fun h=>?_) (fun h=>?_)
 ·obtain⟨v0,y0,h⟩:=bm h
  exact x_to 18 [(0,.val (.cptr (eInt.c v0++(eInt).f ((t6).drop (Int.toNat t8+1))))),(5,.val (.lit (.int .i64 (maxN v0 [w64 (0-v0)]))))] (ocons (ix eInt y0) (ocons (maxNok .i64 [w64 (0-v0)] v0) onil)) (Timpl_divisor_0 n rec0 t6 t7 hrec0 t8 n (t3,maxN v0 [w64 (0-v0)]) r h) 
 ·replace h:=sj h;subst h
  exact x_end 6 [] [] onil onil 
def Dimpl_divisor(n:Nat)(a0:(List Int)):Option Int :=
 loopN (Dimpl_divisor_1 n a0 (a0.length:Int)) n (0,0)
theorem Timpl_divisor{Y}(n:Nat)(a0:(List Int))(r:Int)(h:Dimpl_divisor n a0=some r):Big Tryz.prog H Y (.call 100 [.sl false 1 a0.length ((eInt).f a0)] (lk []) (i64 r) (lk [])):=by
 unfold Dimpl_divisor at h
 refine x_call (fn:=Tryz.f100) (c:=bodyOf Tryz.f100) (bs0:=[]) Tryz.func100 (by kernel_rfl) (by kernel_rfl) ?_
 exact x_to 16 [] onil (Timpl_divisor_1 n a0 (a0.length:Int) n (0,0) r h) 
def Dimpl_PlaneOk_0(n:Nat)(t24:Bool)(zc zd zaz zba:Int):Option Bool :=
 frk t24 (some false) (frk (zc != 0) ((Dimpl_divisor n [zc,zd,zaz,zba]).bind fun v4=>some (v4==1)) (frk (zd != 0) ((Dimpl_divisor n [zc,zd,zaz,zba]).bind fun v5=>some (v5==1)) (frk (zaz != 0) ((Dimpl_divisor n [zc,zd,zaz,zba]).bind fun v6=>some (v6==1)) (some false))))
theorem Timpl_PlaneOk_0{Y}(n:Nat)(t24:Bool)(zc zd zaz zba:Int)(r:Bool)(h:Dimpl_PlaneOk_0 n t24 zc zd zaz zba=some r):Wk Tryz.prog H Y 38 [.code (cp [1,0,1] (bodyOf Tryz.f38)),.code (cp [1,1] (bodyOf Tryz.f38))] (FinX Tryz.prog Tryz.f38 [] (bl r) []) ⟨[(1,.ptr 1 0),(24,bl t24)],[(1,⟨true,0,[i64 zc,i64 zd,i64 zaz,i64 zba]⟩)]⟩:=by
 unfold Dimpl_PlaneOk_0 at h
 refine x_frk 0 [] onil h (by kernel_rfl) (fun h=>?_) (fun h=>?_)
 ·replace h:=sj h;subst h
  exact x_end 4 [] [] onil onil 
 ·refine x_frk 7 [] onil h (by kernel_rfl) (fun h=>?_) (fun h=>?_)
  ·obtain⟨v4,y4,h⟩:=bm h
   replace h:=sj h;subst h
   exact x_end 24 [(19,.call [] [(eInt).f [zc,zd,zaz,zba]] (i64 v4) [])] [] (ocons (Timpl_divisor (Y:=Y) n [zc,zd,zaz,zba] _ y4) (ocons (len_row (L:=[zc,zd,zaz,zba]) eInt) (ocons (Enc.share eInt eInt sInt [zc,zd,zaz,zba]) onil))) onil 
  ·refine x_frk 5 [] onil h (by kernel_rfl) (fun h=>?_) (fun h=>?_)
   ·obtain⟨v5,y5,h⟩:=bm h
    replace h:=sj h;subst h
    exact x_end 19 [(14,.call [] [(eInt).f [zc,zd,zaz,zba]] (i64 v5) [])] [] (ocons (Timpl_divisor (Y:=Y) n [zc,zd,zaz,zba] _ y5) (ocons (len_row (L:=[zc,zd,zaz,zba]) eInt) (ocons (Enc.share eInt eInt sInt [zc,zd,zaz,zba]) onil))) onil 
   ·refine x_frk 5 [] onil h (by kernel_rfl) (fun h=>?_) (fun h=>?_)
    ·obtain⟨v6,y6,h⟩:=bm h
     replace h:=sj h;subst h
     exact x_end 14 [(9,.call [] [(eInt).f [zc,zd,zaz,zba]] (i64 v6) [])] [] (ocons (Timpl_divisor (Y:=Y) n [zc,zd,zaz,zba] _ y6) (ocons (len_row (L:=[zc,zd,zaz,zba]) eInt) (ocons (Enc.share eInt eInt sInt [zc,zd,zaz,zba]) onil))) onil 
    ·replace h:=sj h;subst h
     exact x_end 14 [] [] onil onil 
def Dimpl_PlaneOk(n:Nat)(a0:Pl):Option Bool :=
 (Dimpl_isCoef a0.A).bind fun v0=>frk (!v0) (some false) ((Dimpl_isCoef a0.B).bind fun v1=>frk (!v1) (some false) ((Dimpl_isCoef a0.C).bind fun v2=>frk (!v2) (some false) ((Dimpl_isCoef a0.D).bind fun v3=>Dimpl_PlaneOk_0 n (!v3) a0.A a0.B a0.C a0.D)))
theorem Timpl_PlaneOk{Y}(n:Nat)(a0:Pl)(r:Bool)(h:Dimpl_PlaneOk n a0=some r):Big Tryz.prog H Y (.call 38 [.agg [i64 a0.A,i64 a0.B,i64 a0.C,i64 a0.D]] (lk []) (bl r) (lk [])):=by
 unfold Dimpl_PlaneOk at h
 refine x_call (fn:=Tryz.f38) (c:=bodyOf Tryz.f38) (bs0:=[]) Tryz.func38 (by kernel_rfl) (by kernel_rfl) ?_
 obtain⟨v0,y0,h⟩:=bm h
 refine x_frk 13 [(4,.call [] [] (bl v0) [])] (ocons (Timpl_isCoef (Y:=Y) a0.A _ y0) onil) h (by kernel_rfl) (fun h=>?_) (fun h=>?_)
 ·replace h:=sj h;subst h
  exact x_end 23 [] [] onil onil 
 ·obtain⟨v1,y1,h⟩:=bm h
  refine x_frk 6 [(2,.call [] [] (bl v1) [])] (ocons (Timpl_isCoef (Y:=Y) a0.B _ y1) onil) h (by kernel_rfl) (fun h=>?_) (fun h=>?_)
  ·replace h:=sj h;subst h
   exact x_end 17 [] [] onil onil 
  ·obtain⟨v2,y2,h⟩:=bm h
   refine x_frk 6 [(2,.call [] [] (bl v2) [])] (ocons (Timpl_isCoef (Y:=Y) a0.C _ y2) onil) h (by kernel_rfl) (fun h=>?_) (fun h=>?_)
   ·replace h:=sj h;subst h
    exact x_end 11 [] [] onil onil 
   ·obtain⟨v3,y3,h⟩:=bm h
    exact x_to 6 [(2,.call [] [] (bl v3) [])] (ocons (Timpl_isCoef (Y:=Y) a0.D _ y3) onil) (Timpl_PlaneOk_0 n (!v3) a0.A a0.B a0.C a0.D r h) 
def Dimpl_flip(a0:Pl):Option Pl :=
 some (Pl.mk (w64 (0-a0.A)) (w64 (0-a0.B)) (w64 (0-a0.C)) (w64 (0-a0.D)))
theorem Timpl_flip{Y}(a0:Pl)(r:Pl)(h:Dimpl_flip a0=some r):Big Tryz.prog H Y (.call 136 [.agg [i64 a0.A,i64 a0.B,i64 a0.C,i64 a0.D]] (lk []) (.agg [i64 r.A,i64 r.B,i64 r.C,i64 r.D]) (lk [])):=by
 unfold Dimpl_flip at h
 refine x_call (fn:=Tryz.f136) (c:=bodyOf Tryz.f136) (bs0:=[]) Tryz.func136 (by kernel_rfl) (by kernel_rfl) ?_
 replace h:=sj h;subst h
 exact x_end 22 [] [] onil onil 
def Dimpl_normal(a0:Pl):Option (Int×Int×Int) :=
 some (a0.A,a0.B,a0.C)
theorem Timpl_normal{Y}(a0:Pl)(r:(Int×Int×Int))(h:Dimpl_normal a0=some r):Big Tryz.prog H Y (.call 69 [.agg [i64 a0.A,i64 a0.B,i64 a0.C,i64 a0.D]] (lk []) (.agg [i64 r.1,i64 r.2.1,i64 r.2.2]) (lk [])):=by
 unfold Dimpl_normal at h
 refine x_call (fn:=Tryz.f69) (c:=bodyOf Tryz.f69) (bs0:=[]) Tryz.func69 (by kernel_rfl) (by kernel_rfl) ?_
 replace h:=sj h;subst h
 exact x_end 16 [] [] onil onil 
def Dimpl_crossOf(a0:(Int×Int×Int))(a1:(Int×Int×Int)):Option (Int×Int×Int) :=
 some (w64 ((w64 (a0.2.1*a1.2.2))-(w64 (a0.2.2*a1.2.1))),w64 ((w64 (a0.2.2*a1.1))-(w64 (a0.1*a1.2.2))),w64 ((w64 (a0.1*a1.2.1))-(w64 (a0.2.1*a1.1))))
theorem Timpl_crossOf{Y}(a0:(Int×Int×Int))(a1:(Int×Int×Int))(r:(Int×Int×Int))(h:Dimpl_crossOf a0 a1=some r):Big Tryz.prog H Y (.call 202 [.agg [i64 a0.1,i64 a0.2.1,i64 a0.2.2],.agg [i64 a1.1,i64 a1.2.1,i64 a1.2.2]] (lk []) (.agg [i64 r.1,i64 r.2.1,i64 r.2.2]) (lk [])):=by
 unfold Dimpl_crossOf at h
 refine x_call (fn:=Tryz.f202) (c:=bodyOf Tryz.f202) (bs0:=[]) Tryz.func202 (by kernel_rfl) (by kernel_rfl) ?_
 replace h:=sj h;subst h
 exact x_end 44 [] [] onil onil 
def Dimpl_dot(a0:(Int×Int×Int))(a1:(Int×Int×Int)):Option Int :=
 some (w64 ((w64 ((w64 (a0.1*a1.1))+(w64 (a0.2.1*a1.2.1))))+(w64 (a0.2.2*a1.2.2))))
theorem Timpl_dot{Y}(a0:(Int×Int×Int))(a1:(Int×Int×Int))(r:Int)(h:Dimpl_dot a0 a1=some r):Big Tryz.prog H Y (.call 204 [.agg [i64 a0.1,i64 a0.2.1,i64 a0.2.2],.agg [i64 a1.1,i64 a1.2.1,i64 a1.2.2]] (lk []) (i64 r) (lk [])):=by
 unfold Dimpl_dot at h
 refine x_call (fn:=Tryz.f204) (c:=bodyOf Tryz.f204) (bs0:=[]) Tryz.func204 (by kernel_rfl) (by kernel_rfl) ?_
 replace h:=sj h;subst h
 exact x_end 27 [] [] onil onil 
def Dcmp_isNaN(a0:Int):Option Bool :=
 some (a0 != a0)
theorem Tcmp_isNaN{Y}(a0:Int)(r:Bool)(h:Dcmp_isNaN a0=some r):Big Tryz.prog H Y (.call 219 [i64 a0] (lk []) (bl r) (lk [])):=by
 unfold Dcmp_isNaN at h
 refine x_call (fn:=Tryz.f219) (c:=bodyOf Tryz.f219) (bs0:=[]) Tryz.func219 (by kernel_rfl) (by kernel_rfl) ?_
 replace h:=sj h;subst h
 exact x_end 11 [] [] onil onil 
def Dcmp_Compare(a0 a1:Int):Option Int :=
 (Dcmp_isNaN a0).bind fun v0=>(Dcmp_isNaN a1).bind fun v1=>frk v0 (frk v1 (some 0) (some (-1))) (frk v1 (some 1) (frk (decide (a0<a1)) (some (-1)) (frk (decide (a0>a1)) (some 1) (some 0))))
theorem Tcmp_Compare{Y}(a0 a1 r:Int)(h:Dcmp_Compare a0 a1=some r):Big Tryz.prog H Y (.call 194 [i64 a0,i64 a1] (lk []) (i64 r) (lk [])):=by
 unfold Dcmp_Compare at h
 refine x_call (fn:=Tryz.f194) (c:=bodyOf Tryz.f194) (bs0:=[]) Tryz.func194 (by kernel_rfl) (by kernel_rfl) ?_
 obtain⟨v0,y0,h⟩:=bm h
 obtain⟨v1,y1,h⟩:=bm h
 refine x_frk 21 [(2,.call [] [] (bl v0) []),(2,.call [] [] (bl v1) [])] (ocons (Tcmp_isNaN (Y:=Y) a0 _ y0) (ocons (Tcmp_isNaN (Y:=Y) a1 _ y1) onil)) h (by kernel_rfl) (fun h=>?_) (fun h=>?_)
 ·refine x_frk 5 [] onil h (by kernel_rfl) (fun h=>?_) (fun h=>?_)
  ·replace h:=sj h;subst h
   exact x_end 4 [] [] onil onil 
  ·replace h:=sj h;subst h
   exact x_end 5 [] [] onil onil 
 ·refine x_frk 6 [] onil h (by kernel_rfl) (fun h=>?_) (fun h=>?_)
  ·replace h:=sj h;subst h
   exact x_end 4 [] [] onil onil 
  ·refine x_frk 8 [] onil h (by kernel_rfl) (fun h=>?_) (fun h=>?_)
   ·replace h:=sj h;subst h
    exact x_end 4 [] [] onil onil 
   ·refine x_frk 8 [] onil h (by kernel_rfl) (fun h=>?_) (fun h=>?_)
    ·replace h:=sj h;subst h
     exact x_end 4 [] [] onil onil 
    ·replace h:=sj h;subst h
     exact x_end 5 [] [] onil onil 
def Dimpl_sign(a0:Int):Option Int :=
 (Dcmp_Compare a0 0).bind fun v0=>some v0
theorem Timpl_sign{Y}(a0 r:Int)(h:Dimpl_sign a0=some r):Big Tryz.prog H Y (.call 207 [i64 a0] (lk []) (i64 r) (lk [])):=by
 unfold Dimpl_sign at h
 refine x_call (fn:=Tryz.f207) (c:=bodyOf Tryz.f207) (bs0:=[]) Tryz.func207 (by kernel_rfl) (by kernel_rfl) ?_
 obtain⟨v0,y0,h⟩:=bm h
 replace h:=sj h;subst h
 exact x_end 10 [(2,.call [] [] (i64 v0) [])] [] (ocons (Tcmp_Compare (Y:=Y) a0 0 _ y0) onil) onil 
def Dimpl_parallel(a0:Pl)(a1:Pl):Option Int :=
 (Dimpl_normal a0).bind fun v0=>(Dimpl_normal a1).bind fun v1=>(Dimpl_crossOf v0 v1).bind fun v2=>frk (!(v2.1==0&&(v2.2.1==0&&(v2.2.2==0&&true)))) (some 0) ((Dimpl_normal a0).bind fun v3=>(Dimpl_normal a1).bind fun v4=>(Dimpl_dot v3 v4).bind fun v5=>(Dimpl_sign v5).bind fun v6=>some v6)
theorem Timpl_parallel{Y}(a0:Pl)(a1:Pl)(r:Int)(h:Dimpl_parallel a0 a1=some r):Big Tryz.prog H Y (.call 200 [.agg [i64 a0.A,i64 a0.B,i64 a0.C,i64 a0.D],.agg [i64 a1.A,i64 a1.B,i64 a1.C,i64 a1.D]] (lk []) (i64 r) (lk [])):=by
 unfold Dimpl_parallel at h
 refine x_call (fn:=Tryz.f200) (c:=bodyOf Tryz.f200) (bs0:=[]) Tryz.func200 (by kernel_rfl) (by kernel_rfl) ?_
 obtain⟨v0,y0,h⟩:=bm h
 obtain⟨v1,y1,h⟩:=bm h
 obtain⟨v2,y2,h⟩:=bm h
 refine x_frk 17 [(4,.call [] [] (.agg [i64 v0.1,i64 v0.2.1,i64 v0.2.2]) []),(1,.call [] [] (.agg [i64 v1.1,i64 v1.2.1,i64 v1.2.2]) []),(0,.call [] [] (.agg [i64 v2.1,i64 v2.2.1,i64 v2.2.2]) [])] (ocons (Timpl_normal (Y:=Y) a0 _ y0) (ocons (Timpl_normal (Y:=Y) a1 _ y1) (ocons (Timpl_crossOf (Y:=Y) v0 v1 _ y2) onil))) h (by kernel_rfl) (fun h=>?_) (fun h=>?_)
 ·replace h:=sj h;subst h
  exact x_end 4 [] [] onil onil 
 ·obtain⟨v3,y3,h⟩:=bm h
  obtain⟨v4,y4,h⟩:=bm h
  obtain⟨v5,y5,h⟩:=bm h
  obtain⟨v6,y6,h⟩:=bm h
  replace h:=sj h;subst h
  exact x_end 11 [(1,.call [] [] (.agg [i64 v3.1,i64 v3.2.1,i64 v3.2.2]) []),(1,.call [] [] (.agg [i64 v4.1,i64 v4.2.1,i64 v4.2.2]) []),(0,.call [] [] (i64 v5) []),(0,.call [] [] (i64 v6) [])] [] (ocons (Timpl_normal (Y:=Y) a0 _ y3) (ocons (Timpl_normal (Y:=Y) a1 _ y4) (ocons (Timpl_dot (Y:=Y) v3 v4 _ y5) (ocons (Timpl_sign (Y:=Y) v5 _ y6) onil)))) onil 
def Dimpl_clash2(_n:Nat)(a0:Pl)(a1:Pl):Option Bool :=
 (Dimpl_parallel a0 a1).bind fun v0=>frk (decide (v0≥0)) (some false) ((Dimpl_normal a0).bind fun v1=>(Dimpl_normal a1).bind fun v2=>frk (v1.1 != 0) (some (decide ((w64 ((w64 (a0.D*(maxN v2.1 [w64 (0-v2.1)])))+(w64 (a1.D*(maxN v1.1 [w64 (0-v1.1)])))))≤0))) (frk (v1.2.1 != 0) (some (decide ((w64 ((w64 (a0.D*(maxN v2.2.1 [w64 (0-v2.2.1)])))+(w64 (a1.D*(maxN v1.2.1 [w64 (0-v1.2.1)])))))≤0))) (frk (v1.2.2 != 0) (some (decide ((w64 ((w64 (a0.D*(maxN v2.2.2 [w64 (0-v2.2.2)])))+(w64 (a1.D*(maxN v1.2.2 [w64 (0-v1.2.2)])))))≤0))) (some false))))
theorem Timpl_clash2{Y}(n:Nat)(a0:Pl)(a1:Pl)(r:Bool)(h:Dimpl_clash2 n a0 a1=some r):Big Tryz.prog H Y (.call 177 [.agg [i64 a0.A,i64 a0.B,i64 a0.C,i64 a0.D],.agg [i64 a1.A,i64 a1.B,i64 a1.C,i64 a1.D]] (lk []) (bl r) (lk [])):=by
 unfold Dimpl_clash2 at h
 refine x_call (fn:=Tryz.f177) (c:=bodyOf Tryz.f177) (bs0:=[]) Tryz.func177 (by kernel_rfl) (by kernel_rfl) ?_
 obtain⟨v0,y0,h⟩:=bm h
 refine x_frk 14 [(5,.call [] [] (i64 v0) [])] (ocons (Timpl_parallel (Y:=Y) a0 a1 _ y0) onil) h (by kernel_rfl) (fun h=>?_) (fun h=>?_)
 ·replace h:=sj h;subst h
  exact x_end 4 [] [] onil onil 
 ·obtain⟨v1,y1,h⟩:=bm h
  obtain⟨v2,y2,h⟩:=bm h
  refine x_frk 40 [(1,.call [] [] (.agg [i64 v1.1,i64 v1.2.1,i64 v1.2.2]) []),(1,.call [] [] (.agg [i64 v2.1,i64 v2.2.1,i64 v2.2.2]) [])] (ocons (Timpl_normal (Y:=Y) a0 _ y1) (ocons (Timpl_normal (Y:=Y) a1 _ y2) onil)) h (by kernel_rfl) (fun h=>?_) (fun h=>?_)
  ·replace h:=sj h;subst h
   exact x_end 28 [(9,.val (.lit (.int .i64 (maxN v2.1 [w64 (0-v2.1)])))),(10,.val (.lit (.int .i64 (maxN v1.1 [w64 (0-v1.1)]))))] [] (ocons (maxNok .i64 [w64 (0-v2.1)] v2.1) (ocons (maxNok .i64 [w64 (0-v1.1)] v1.1) onil)) onil 
  ·refine x_frk 29 [] onil h (by kernel_rfl) (fun h=>?_) (fun h=>?_)
   ·replace h:=sj h;subst h
    exact x_end 28 [(9,.val (.lit (.int .i64 (maxN v2.2.1 [w64 (0-v2.2.1)])))),(10,.val (.lit (.int .i64 (maxN v1.2.1 [w64 (0-v1.2.1)]))))] [] (ocons (maxNok .i64 [w64 (0-v2.2.1)] v2.2.1) (ocons (maxNok .i64 [w64 (0-v1.2.1)] v1.2.1) onil)) onil 
   ·refine x_frk 29 [] onil h (by kernel_rfl) (fun h=>?_) (fun h=>?_)
    ·replace h:=sj h;subst h
     exact x_end 28 [(9,.val (.lit (.int .i64 (maxN v2.2.2 [w64 (0-v2.2.2)])))),(10,.val (.lit (.int .i64 (maxN v1.2.2 [w64 (0-v1.2.2)]))))] [] (ocons (maxNok .i64 [w64 (0-v2.2.2)] v2.2.2) (ocons (maxNok .i64 [w64 (0-v1.2.2)] v1.2.2) onil)) onil 
    ·replace h:=sj h;subst h
     exact x_end 19 [] [] onil onil 
def Dimpl_det(a0:(Int×Int×Int))(a1:(Int×Int×Int))(a2:(Int×Int×Int)):Option Int :=
 (Dimpl_crossOf a1 a2).bind fun v0=>(Dimpl_dot a0 v0).bind fun v1=>some v1
theorem Timpl_det{Y}(a0:(Int×Int×Int))(a1:(Int×Int×Int))(a2:(Int×Int×Int))(r:Int)(h:Dimpl_det a0 a1 a2=some r):Big Tryz.prog H Y (.call 201 [.agg [i64 a0.1,i64 a0.2.1,i64 a0.2.2],.agg [i64 a1.1,i64 a1.2.1,i64 a1.2.2],.agg [i64 a2.1,i64 a2.2.1,i64 a2.2.2]] (lk []) (i64 r) (lk [])):=by
 unfold Dimpl_det at h
 refine x_call (fn:=Tryz.f201) (c:=bodyOf Tryz.f201) (bs0:=[]) Tryz.func201 (by kernel_rfl) (by kernel_rfl) ?_
 obtain⟨v0,y0,h⟩:=bm h
 obtain⟨v1,y1,h⟩:=bm h
 replace h:=sj h;subst h
 exact x_end 16 [(7,.call [] [] (.agg [i64 v0.1,i64 v0.2.1,i64 v0.2.2]) []),(0,.call [] [] (i64 v1) [])] [] (ocons (Timpl_crossOf (Y:=Y) a1 a2 _ y0) (ocons (Timpl_dot (Y:=Y) a0 v0 _ y1) onil)) onil 
def Dimpl_weighs_0(_n:Nat)(rec0:(Int×Int)→Option Bool)(t1:List Int)(_t5:Int)(_t13:List Int)(_t14 t6 t7 t8 t15:Int)(t27:Bool):Option Bool :=
 frk t27 (some false) ((lget t1 t7).bind fun v4=>rec0 (w64 (t6+(w64 (t8*v4))),w64 (t15+1)))
theorem Timpl_weighs_0{Y}(n:Nat)(rec0:(Int×Int)→Option Bool)(t1:List Int)(t5:Int)(t13:List Int)(t14:Int)(hrec0:∀(a:(Int×Int)) (r:Bool),rec0 a=some r→Wk Tryz.prog H Y 203 [.code (cp [1,1,1,0,1,0] (bodyOf Tryz.f203)),.blk 0,.code (cp [1,1,1,1] (bodyOf Tryz.f203))] (FinX Tryz.prog Tryz.f203 [] (bl r) []) ⟨[(1,.sl false 1 t1.length ((eInt).f t1)),(5,i64 t5),(6,i64 a.1),(13,.sl false 1 t13.length ((eInt).f t13)),(14,i64 t14),(15,i64 a.2)],[]⟩)(t6 t7 t8 t15:Int)(t27 r:Bool)(h:Dimpl_weighs_0 n rec0 t1 t5 t13 t14 t6 t7 t8 t15 t27=some r):Wk Tryz.prog H Y 203 [.code (cp [1,1,1,0,1,0,0,1,1,0,0,1,0,1] (bodyOf Tryz.f203)),.code (cp [1,1,1,0,1,0,0,1,1,0,0,1,1] (bodyOf Tryz.f203)),.blk 1,.code (cp [1,1,1,0,1,0,0,1,1,1] (bodyOf Tryz.f203)),.lp (cp [1,1,1,0,1,0] (bodyOf Tryz.f203)),.blk 0,.code (cp [1,1,1,1] (bodyOf Tryz.f203))] (FinX Tryz.prog Tryz.f203 [] (bl r) []) ⟨[(1,.sl false 1 t1.length ((eInt).f t1)),(5,i64 t5),(6,i64 t6),(7,i64 t7),(8,i64 t8),(13,.sl false 1 t13.length ((eInt).f t13)),(14,i64 t14),(15,i64 t15),(27,bl t27)],[]⟩:=by
 unfold Dimpl_weighs_0 at h
 refine x_frk 0 [] onil h (by kernel_rfl) (fun h=>?_) (fun h=>?_)
 ·replace h:=sj h;subst h
  exact x_end 4 [] [] onil onil 
 ·obtain⟨v4,y4,h⟩:=bm h
  exact x_to 18 [(4,.val (.cptr (eInt.c v4++(eInt).f ((t1).drop (Int.toNat t7+1)))))] (ocons (ix eInt y4) onil) (hrec0 (w64 (t6+(w64 (t8*v4))),w64 (t15+1)) r h) 
def Dimpl_weighs_1(n:Nat)(t1:List Int)(t5:Int)(t13:List Int)(t14:Int)(rec0:(Int×Int)→Option Bool)(a:(Int×Int)):Option Bool :=
 match a with
 | (t6,t15)=>frk (decide (t15<t14)) ((lget t13 t15).bind fun v2=>frk (t5==0) (some false) ((Dimpl_sign v2).bind fun v3=>Dimpl_weighs_0 n rec0 t1 t5 t13 t14 t6 t15 v2 t15 (v3 != t5))) (some (decide ((w64 (t6*t5))≤0)))
theorem Timpl_weighs_1{Y}(n:Nat)(t1:List Int)(t5:Int)(t13:List Int)(t14:Int):∀(m:Nat) (a:(Int×Int)) (r:Bool),loopN (Dimpl_weighs_1 n t1 t5 t13 t14) m a=some r→Wk Tryz.prog H Y 203 [.code (cp [1,1,1,0,1,0] (bodyOf Tryz.f203)),.blk 0,.code (cp [1,1,1,1] (bodyOf Tryz.f203))] (FinX Tryz.prog Tryz.f203 [] (bl r) []) ⟨[(1,.sl false 1 t1.length ((eInt).f t1)),(5,i64 t5),(6,i64 a.1),(13,.sl false 1 t13.length ((eInt).f t13)),(14,i64 t14),(15,i64 a.2)],[]⟩:=by
 refine loopN_ind (fun rec0 hrec0 a r h=>?_)
 obtain⟨t6,t15⟩:=a
 unfold Dimpl_weighs_1 at h
 refine x_frk 6 [] onil h (by kernel_rfl) (fun h=>?_) (fun h=>?_)
 ·obtain⟨v2,y2,h⟩:=bm h
  refine x_frk 17 [(1,.val (.cptr (eInt.c v2++(eInt).f ((t13).drop (Int.toNat t15+1)))))] (ocons (ix eInt y2) onil) h (by kernel_rfl) (fun h=>?_) (fun h=>?_)
  ·replace h:=sj h;subst h
   exact x_end 11 [] [] onil onil 
  ·obtain⟨v3,y3,h⟩:=bm h
   exact x_to 6 [(1,.call [] [] (i64 v3) [])] (ocons (Timpl_sign (Y:=Y) v2 _ y3) onil) (Timpl_weighs_0 n rec0 t1 t5 t13 t14 hrec0 t6 t15 v2 t15 (v3 != t5) r h) 
 ·replace h:=sj h;subst h
  exact x_end 9 [] [] onil onil 
def Dimpl_weighs(n:Nat)(a0:(List Int))(a1:(List Int)):Option Bool :=
 (lget a0 0).bind fun v0=>(Dimpl_sign v0).bind fun v1=>loopN (Dimpl_weighs_1 n a1 v1 a0 (a0.length:Int)) n (0,0)
theorem Timpl_weighs{Y}(n:Nat)(a0:(List Int))(a1:(List Int))(r:Bool)(h:Dimpl_weighs n a0 a1=some r):Big Tryz.prog H Y (.call 203 [.sl false 1 a0.length ((eInt).f a0),.sl false 1 a1.length ((eInt).f a1)] (lk []) (bl r) (lk [])):=by
 unfold Dimpl_weighs at h
 refine x_call (fn:=Tryz.f203) (c:=bodyOf Tryz.f203) (bs0:=[]) Tryz.func203 (by kernel_rfl) (by kernel_rfl) ?_
 obtain⟨v0,y0,h⟩:=bm h
 obtain⟨v1,y1,h⟩:=bm h
 exact x_to 24 [(2,.val (.cptr (eInt.c v0++(eInt).f ((a0).drop (Int.toNat 0+1))))),(1,.call [] [] (i64 v1) [])] (ocons (ix eInt y0) (ocons (Timpl_sign (Y:=Y) v0 _ y1) onil)) (Timpl_weighs_1 n a1 v1 a0 (a0.length:Int) n (0,0) r h) 
def Dimpl_clash3(n:Nat)(a0:Pl)(a1:Pl)(a2:Pl):Option Bool :=
 (Dimpl_normal a0).bind fun v0=>(Dimpl_normal a1).bind fun v1=>(Dimpl_normal a2).bind fun v2=>(Dimpl_det v0 v1 v2).bind fun v3=>frk (v3 != 0) (some false) ((Dimpl_crossOf v0 v1).bind fun v4=>(Dimpl_crossOf v1 v2).bind fun v5=>(Dimpl_dot v5 v4).bind fun v6=>(Dimpl_crossOf v2 v0).bind fun v7=>(Dimpl_dot v7 v4).bind fun v8=>(Dimpl_dot v4 v4).bind fun v9=>(Dimpl_weighs n [v6,v8,v9] [a0.D,a1.D,a2.D]).bind fun v10=>some v10)
theorem Timpl_clash3{Y}(n:Nat)(a0:Pl)(a1:Pl)(a2:Pl)(r:Bool)(h:Dimpl_clash3 n a0 a1 a2=some r):Big Tryz.prog H Y (.call 178 [.agg [i64 a0.A,i64 a0.B,i64 a0.C,i64 a0.D],.agg [i64 a1.A,i64 a1.B,i64 a1.C,i64 a1.D],.agg [i64 a2.A,i64 a2.B,i64 a2.C,i64 a2.D]] (lk []) (bl r) (lk [])):=by
 unfold Dimpl_clash3 at h
 refine x_call (fn:=Tryz.f178) (c:=bodyOf Tryz.f178) (bs0:=[]) Tryz.func178 (by kernel_rfl) (by kernel_rfl) ?_
 obtain⟨v0,y0,h⟩:=bm h
 obtain⟨v1,y1,h⟩:=bm h
 obtain⟨v2,y2,h⟩:=bm h
 obtain⟨v3,y3,h⟩:=bm h
 refine x_frk 31 [(5,.call [] [] (.agg [i64 v0.1,i64 v0.2.1,i64 v0.2.2]) []),(1,.call [] [] (.agg [i64 v1.1,i64 v1.2.1,i64 v1.2.2]) []),(1,.call [] [] (.agg [i64 v2.1,i64 v2.2.1,i64 v2.2.2]) []),(9,.call [] [] (i64 v3) [])] (ocons (Timpl_normal (Y:=Y) a0 _ y0) (ocons (Timpl_normal (Y:=Y) a1 _ y1) (ocons (Timpl_normal (Y:=Y) a2 _ y2) (ocons (Timpl_det (Y:=Y) v0 v1 v2 _ y3) onil)))) h (by kernel_rfl) (fun h=>?_) (fun h=>?_)
 ·replace h:=sj h;subst h
  exact x_end 4 [] [] onil onil 
 ·obtain⟨v4,y4,h⟩:=bm h
  obtain⟨v5,y5,h⟩:=bm h
  obtain⟨v6,y6,h⟩:=bm h
  obtain⟨v7,y7,h⟩:=bm h
  obtain⟨v8,y8,h⟩:=bm h
  obtain⟨v9,y9,h⟩:=bm h
  obtain⟨v10,y10,h⟩:=bm h
  replace h:=sj h;subst h
  exact x_end 35 [(2,.call [] [] (.agg [i64 v4.1,i64 v4.2.1,i64 v4.2.2]) []),(4,.call [] [] (.agg [i64 v5.1,i64 v5.2.1,i64 v5.2.2]) []),(1,.call [] [] (i64 v6) []),(2,.call [] [] (.agg [i64 v7.1,i64 v7.2.1,i64 v7.2.2]) []),(1,.call [] [] (i64 v8) []),(2,.call [] [] (i64 v9) []),(8,.call [] [(eInt).f [a0.D,a1.D,a2.D],(eInt).f [v6,v8,v9]] (bl v10) [])] [] (ocons (Timpl_crossOf (Y:=Y) v0 v1 _ y4) (ocons (Timpl_crossOf (Y:=Y) v1 v2 _ y5) (ocons (Timpl_dot (Y:=Y) v5 v4 _ y6) (ocons (Timpl_crossOf (Y:=Y) v2 v0 _ y7) (ocons (Timpl_dot (Y:=Y) v7 v4 _ y8) (ocons (Timpl_dot (Y:=Y) v4 v4 _ y9) (ocons (Timpl_weighs (Y:=Y) n [v6,v8,v9] [a0.D,a1.D,a2.D] _ y10) (ocons (len_row (L:=[v6,v8,v9]) eInt) (ocons (Enc.share eInt eInt sInt [v6,v8,v9]) (ocons (len_row (L:=[a0.D,a1.D,a2.D]) eInt) (ocons (Enc.share eInt eInt sInt [a0.D,a1.D,a2.D]) onil))))))))))) onil 
def Dimpl_det3(a0:Pl)(a1:Pl)(a2:Pl):Option Int :=
 (Dimpl_normal a0).bind fun v0=>(Dimpl_normal a1).bind fun v1=>(Dimpl_normal a2).bind fun v2=>(Dimpl_det v0 v1 v2).bind fun v3=>some v3
theorem Timpl_det3{Y}(a0:Pl)(a1:Pl)(a2:Pl)(r:Int)(h:Dimpl_det3 a0 a1 a2=some r):Big Tryz.prog H Y (.call 205 [.agg [i64 a0.A,i64 a0.B,i64 a0.C,i64 a0.D],.agg [i64 a1.A,i64 a1.B,i64 a1.C,i64 a1.D],.agg [i64 a2.A,i64 a2.B,i64 a2.C,i64 a2.D]] (lk []) (i64 r) (lk [])):=by
 unfold Dimpl_det3 at h
 refine x_call (fn:=Tryz.f205) (c:=bodyOf Tryz.f205) (bs0:=[]) Tryz.func205 (by kernel_rfl) (by kernel_rfl) ?_
 obtain⟨v0,y0,h⟩:=bm h
 obtain⟨v1,y1,h⟩:=bm h
 obtain⟨v2,y2,h⟩:=bm h
 obtain⟨v3,y3,h⟩:=bm h
 replace h:=sj h;subst h
 exact x_end 18 [(5,.call [] [] (.agg [i64 v0.1,i64 v0.2.1,i64 v0.2.2]) []),(1,.call [] [] (.agg [i64 v1.1,i64 v1.2.1,i64 v1.2.2]) []),(1,.call [] [] (.agg [i64 v2.1,i64 v2.2.1,i64 v2.2.2]) []),(0,.call [] [] (i64 v3) [])] [] (ocons (Timpl_normal (Y:=Y) a0 _ y0) (ocons (Timpl_normal (Y:=Y) a1 _ y1) (ocons (Timpl_normal (Y:=Y) a2 _ y2) (ocons (Timpl_det (Y:=Y) v0 v1 v2 _ y3) onil)))) onil 
def Dimpl_clash4(n:Nat)(a0:Pl)(a1:Pl)(a2:Pl)(a3:Pl):Option Bool :=
 (Dimpl_det3 a1 a2 a3).bind fun v0=>(Dimpl_det3 a0 a2 a3).bind fun v1=>(Dimpl_det3 a0 a1 a3).bind fun v2=>(Dimpl_det3 a0 a1 a2).bind fun v3=>(Dimpl_weighs n [v0,w64 (0-v1),v2,w64 (0-v3)] [a0.D,a1.D,a2.D,a3.D]).bind fun v4=>some v4
theorem Timpl_clash4{Y}(n:Nat)(a0:Pl)(a1:Pl)(a2:Pl)(a3:Pl)(r:Bool)(h:Dimpl_clash4 n a0 a1 a2 a3=some r):Big Tryz.prog H Y (.call 179 [.agg [i64 a0.A,i64 a0.B,i64 a0.C,i64 a0.D],.agg [i64 a1.A,i64 a1.B,i64 a1.C,i64 a1.D],.agg [i64 a2.A,i64 a2.B,i64 a2.C,i64 a2.D],.agg [i64 a3.A,i64 a3.B,i64 a3.C,i64 a3.D]] (lk []) (bl r) (lk [])):=by
 unfold Dimpl_clash4 at h
 refine x_call (fn:=Tryz.f179) (c:=bodyOf Tryz.f179) (bs0:=[]) Tryz.func179 (by kernel_rfl) (by kernel_rfl) ?_
 obtain⟨v0,y0,h⟩:=bm h
 obtain⟨v1,y1,h⟩:=bm h
 obtain⟨v2,y2,h⟩:=bm h
 obtain⟨v3,y3,h⟩:=bm h
 obtain⟨v4,y4,h⟩:=bm h
 replace h:=sj h;subst h
 exact x_end 46 [(8,.call [] [] (i64 v0) []),(3,.call [] [] (i64 v1) []),(4,.call [] [] (i64 v2) []),(3,.call [] [] (i64 v3) []),(13,.call [] [(eInt).f [a0.D,a1.D,a2.D,a3.D],(eInt).f [v0,w64 (0-v1),v2,w64 (0-v3)]] (bl v4) [])] [] (ocons (Timpl_det3 (Y:=Y) a1 a2 a3 _ y0) (ocons (Timpl_det3 (Y:=Y) a0 a2 a3 _ y1) (ocons (Timpl_det3 (Y:=Y) a0 a1 a3 _ y2) (ocons (Timpl_det3 (Y:=Y) a0 a1 a2 _ y3) (ocons (Timpl_weighs (Y:=Y) n [v0,w64 (0-v1),v2,w64 (0-v3)] [a0.D,a1.D,a2.D,a3.D] _ y4) (ocons (len_row (L:=[v0,w64 (0-v1),v2,w64 (0-v3)]) eInt) (ocons (Enc.share eInt eInt sInt [v0,w64 (0-v1),v2,w64 (0-v3)]) (ocons (len_row (L:=[a0.D,a1.D,a2.D,a3.D]) eInt) (ocons (Enc.share eInt eInt sInt [a0.D,a1.D,a2.D,a3.D]) onil))))))))) onil 
def Dimpl_room_0(n:Nat)(rec1:Int→Option Bool)(_rec0:Int→Option Bool)(_t13:Int)(_t23:List Pl)(_t24 zah zai zaj zak:Int)(_t0:List Pl)(_t11:List Pl)(_t12 ze zf zs zt t25:Int)(t36:List Pl)(t37 zg zh zi zj:Int)(rec2:Int→Option Bool)(a:Int):Option Bool :=
 match a with
 | t38=>frk (decide (t38<t37)) ((lget t36 t38).bind fun v6=>(Dimpl_clash4 n v6 (Pl.mk zg zh zi zj) (Pl.mk zah zai zaj zak) (Pl.mk ze zf zs zt)).bind fun v7=>frk v7 (some false) (rec2 (w64 (t38+1)))) (rec1 (w64 (t25+1)))
theorem Timpl_room_0{Y}(n:Nat)(rec1:Int→Option Bool)(rec0:Int→Option Bool)(t13:Int)(t23:List Pl)(t24 zah zai zaj zak:Int)(t0:List Pl)(t11:List Pl)(t12 ze zf zs zt:Int)(hrec1:∀(a:Int) (r:Bool),rec1 a=some r→Wk Tryz.prog H Y 137 [.code (cp [1,0,1,0,0,1,1,0,0,1,1,1,0] (bodyOf Tryz.f137)),.blk 2,.blk 1,.code (cp [1,0,1,0,0,1,1,1] (bodyOf Tryz.f137)),.lp (cp [1,0,1,0] (bodyOf Tryz.f137)),.blk 0,.code (cp [1,1] (bodyOf Tryz.f137))] (FinX Tryz.prog Tryz.f137 [] (bl r) []) ⟨[(0,.sl false 4 t0.length ((ePl).f t0)),(3,.ptr 3 0),(6,.ptr 6 0),(11,.sl false 4 t11.length ((ePl).f t11)),(12,i64 t12),(13,i64 t13),(23,.sl false 4 t23.length ((ePl).f t23)),(24,i64 t24),(25,i64 a)],[(3,⟨true,0,[i64 ze,i64 zf,i64 zs,i64 zt]⟩),(6,⟨true,0,[i64 zah,i64 zai,i64 zaj,i64 zak]⟩)]⟩)(_hrec0:∀(a:Int) (r:Bool),rec0 a=some r→Wk Tryz.prog H Y 137 [.code (cp [1,0,1,0] (bodyOf Tryz.f137)),.blk 0,.code (cp [1,1] (bodyOf Tryz.f137))] (FinX Tryz.prog Tryz.f137 [] (bl r) []) ⟨[(0,.sl false 4 t0.length ((ePl).f t0)),(3,.ptr 3 0),(11,.sl false 4 t11.length ((ePl).f t11)),(12,i64 t12),(13,i64 a)],[(3,⟨true,0,[i64 ze,i64 zf,i64 zs,i64 zt]⟩)]⟩)(t25:Int)(t36:List Pl)(t37 zg zh zi zj:Int):∀(m:Nat) (a:Int) (r:Bool),loopN (Dimpl_room_0 n rec1 rec0 t13 t23 t24 zah zai zaj zak t0 t11 t12 ze zf zs zt t25 t36 t37 zg zh zi zj) m a=some r→Wk Tryz.prog H Y 137 [.code (cp [1,0,1,0,0,1,1,0,0,1,1,1,0,0,1,1,0,0,1,1,1,0] (bodyOf Tryz.f137)),.blk 4,.blk 3,.code (cp [1,0,1,0,0,1,1,0,0,1,1,1,0,0,1,1,1] (bodyOf Tryz.f137)),.lp (cp [1,0,1,0,0,1,1,0,0,1,1,1,0] (bodyOf Tryz.f137)),.blk 2,.blk 1,.code (cp [1,0,1,0,0,1,1,1] (bodyOf Tryz.f137)),.lp (cp [1,0,1,0] (bodyOf Tryz.f137)),.blk 0,.code (cp [1,1] (bodyOf Tryz.f137))] (FinX Tryz.prog Tryz.f137 [] (bl r) []) ⟨[(0,.sl false 4 t0.length ((ePl).f t0)),(3,.ptr 3 0),(6,.ptr 6 0),(8,.ptr 8 0),(11,.sl false 4 t11.length ((ePl).f t11)),(12,i64 t12),(13,i64 t13),(23,.sl false 4 t23.length ((ePl).f t23)),(24,i64 t24),(25,i64 t25),(36,.sl false 4 t36.length ((ePl).f t36)),(37,i64 t37),(38,i64 a)],[(3,⟨true,0,[i64 ze,i64 zf,i64 zs,i64 zt]⟩),(6,⟨true,0,[i64 zah,i64 zai,i64 zaj,i64 zak]⟩),(8,⟨true,0,[i64 zg,i64 zh,i64 zi,i64 zj]⟩)]⟩:=by
 refine loopN_ind (fun _rec2 hrec2 a r h=>?_)
 obtain⟨t38,rfl⟩:∃x,x=a:=⟨a,rfl⟩
 unfold Dimpl_room_0 at h
 refine x_frk 6 [] onil h (by kernel_rfl) (fun h=>?_) (fun h=>?_)
 ·obtain⟨v6,y6,h⟩:=bm h
  obtain⟨v7,y7,h⟩:=bm h
  refine x_frk 18 [(0,.val (.cptr (ePl.c v6++(ePl).f ((t36).drop (Int.toNat t38+1))))),(7,.call [] [] (bl v7) [])] (ocons (ix ePl y6) (ocons (Timpl_clash4 (Y:=Y) n v6 (Pl.mk zg zh zi zj) (Pl.mk zah zai zaj zak) (Pl.mk ze zf zs zt) _ y7) onil)) h (by kernel_rfl) (fun h=>?_) (fun h=>?_)
  ·replace h:=sj h;subst h
   exact x_end 4 [] [] onil onil 
  ·exact x_to 7 [] onil (hrec2 (w64 (t38+1)) r h) 
 ·exact x_to 7 [] onil (hrec1 (w64 (t25+1)) r h) 
def Dimpl_room_1(n:Nat)(rec0:Int→Option Bool)(t0:List Pl)(t11:List Pl)(t12 ze zf zs zt t13:Int)(t23:List Pl)(t24 zah zai zaj zak:Int)(rec1:Int→Option Bool)(a:Int):Option Bool :=
 match a with
 | t25=>frk (decide (t25<t24)) ((lget t23 t25).bind fun v3=>(Dimpl_clash3 n v3 (Pl.mk zah zai zaj zak) (Pl.mk ze zf zs zt)).bind fun v4=>frk v4 (some false) ((lsl t0 0 t25).bind fun v5=>loopN (Dimpl_room_0 n rec1 rec0 t13 t23 t24 zah zai zaj zak t0 t11 t12 ze zf zs zt t25 v5 (v5.length:Int) v3.A v3.B v3.C v3.D) n 0)) (rec0 (w64 (t13+1)))
theorem Timpl_room_1{Y}(n:Nat)(rec0:Int→Option Bool)(t0:List Pl)(t11:List Pl)(t12 ze zf zs zt:Int)(hrec0:∀(a:Int) (r:Bool),rec0 a=some r→Wk Tryz.prog H Y 137 [.code (cp [1,0,1,0] (bodyOf Tryz.f137)),.blk 0,.code (cp [1,1] (bodyOf Tryz.f137))] (FinX Tryz.prog Tryz.f137 [] (bl r) []) ⟨[(0,.sl false 4 t0.length ((ePl).f t0)),(3,.ptr 3 0),(11,.sl false 4 t11.length ((ePl).f t11)),(12,i64 t12),(13,i64 a)],[(3,⟨true,0,[i64 ze,i64 zf,i64 zs,i64 zt]⟩)]⟩)(t13:Int)(t23:List Pl)(t24 zah zai zaj zak:Int):∀(m:Nat) (a:Int) (r:Bool),loopN (Dimpl_room_1 n rec0 t0 t11 t12 ze zf zs zt t13 t23 t24 zah zai zaj zak) m a=some r→Wk Tryz.prog H Y 137 [.code (cp [1,0,1,0,0,1,1,0,0,1,1,1,0] (bodyOf Tryz.f137)),.blk 2,.blk 1,.code (cp [1,0,1,0,0,1,1,1] (bodyOf Tryz.f137)),.lp (cp [1,0,1,0] (bodyOf Tryz.f137)),.blk 0,.code (cp [1,1] (bodyOf Tryz.f137))] (FinX Tryz.prog Tryz.f137 [] (bl r) []) ⟨[(0,.sl false 4 t0.length ((ePl).f t0)),(3,.ptr 3 0),(6,.ptr 6 0),(11,.sl false 4 t11.length ((ePl).f t11)),(12,i64 t12),(13,i64 t13),(23,.sl false 4 t23.length ((ePl).f t23)),(24,i64 t24),(25,i64 a)],[(3,⟨true,0,[i64 ze,i64 zf,i64 zs,i64 zt]⟩),(6,⟨true,0,[i64 zah,i64 zai,i64 zaj,i64 zak]⟩)]⟩:=by
 refine loopN_ind (fun rec1 hrec1 a r h=>?_)
 obtain⟨t25,rfl⟩:∃x,x=a:=⟨a,rfl⟩
 unfold Dimpl_room_1 at h
 refine x_frk 6 [] onil h (by kernel_rfl) (fun h=>?_) (fun h=>?_)
 ·obtain⟨v3,y3,h⟩:=bm h
  obtain⟨v4,y4,h⟩:=bm h
  refine x_frk 20 [(1,.val (.cptr (ePl.c v3++(ePl).f ((t23).drop (Int.toNat t25+1))))),(7,.call [] [] (bl v4) [])] (ocons (ix ePl y3) (ocons (Timpl_clash3 (Y:=Y) n v3 (Pl.mk zah zai zaj zak) (Pl.mk ze zf zs zt) _ y4) onil)) h (by kernel_rfl) (fun h=>?_) (fun h=>?_)
  ·replace h:=sj h;subst h
   exact x_end 4 [] [] onil onil 
  ·obtain⟨v5,y5,h⟩:=bm h
   exact x_to 10 [(2,.val (.sl false 4 v5.length ((ePl).f v5)))] (ocons (slF ePl y5) onil) (Timpl_room_0 n rec1 rec0 t13 t23 t24 zah zai zaj zak t0 t11 t12 ze zf zs zt hrec1 hrec0 t25 v5 (v5.length:Int) v3.A v3.B v3.C v3.D n 0 r h) 
 ·exact x_to 7 [] onil (hrec0 (w64 (t13+1)) r h) 
def Dimpl_room_2(n:Nat)(t0:List Pl)(t11:List Pl)(t12 ze zf zs zt:Int)(rec0:Int→Option Bool)(a:Int):Option Bool :=
 match a with
 | t13=>frk (decide (t13<t12)) ((lget t11 t13).bind fun v0=>(Dimpl_clash2 n v0 (Pl.mk ze zf zs zt)).bind fun v1=>frk v1 (some false) ((lsl t0 0 t13).bind fun v2=>loopN (Dimpl_room_1 n rec0 t0 t11 t12 ze zf zs zt t13 v2 (v2.length:Int) v0.A v0.B v0.C v0.D) n 0)) (some true)
theorem Timpl_room_2{Y}(n:Nat)(t0:List Pl)(t11:List Pl)(t12 ze zf zs zt:Int):∀(m:Nat) (a:Int) (r:Bool),loopN (Dimpl_room_2 n t0 t11 t12 ze zf zs zt) m a=some r→Wk Tryz.prog H Y 137 [.code (cp [1,0,1,0] (bodyOf Tryz.f137)),.blk 0,.code (cp [1,1] (bodyOf Tryz.f137))] (FinX Tryz.prog Tryz.f137 [] (bl r) []) ⟨[(0,.sl false 4 t0.length ((ePl).f t0)),(3,.ptr 3 0),(11,.sl false 4 t11.length ((ePl).f t11)),(12,i64 t12),(13,i64 a)],[(3,⟨true,0,[i64 ze,i64 zf,i64 zs,i64 zt]⟩)]⟩:=by
 refine loopN_ind (fun rec0 hrec0 a r h=>?_)
 obtain⟨t13,rfl⟩:∃x,x=a:=⟨a,rfl⟩
 unfold Dimpl_room_2 at h
 refine x_frk 6 [] onil h (by kernel_rfl) (fun h=>?_) (fun h=>?_)
 ·obtain⟨v0,y0,h⟩:=bm h
  obtain⟨v1,y1,h⟩:=bm h
  refine x_frk 19 [(1,.val (.cptr (ePl.c v0++(ePl).f ((t11).drop (Int.toNat t13+1))))),(6,.call [] [] (bl v1) [])] (ocons (ix ePl y0) (ocons (Timpl_clash2 (Y:=Y) n v0 (Pl.mk ze zf zs zt) _ y1) onil)) h (by kernel_rfl) (fun h=>?_) (fun h=>?_)
  ·replace h:=sj h;subst h
   exact x_end 4 [] [] onil onil 
  ·obtain⟨v2,y2,h⟩:=bm h
   exact x_to 10 [(2,.val (.sl false 4 v2.length ((ePl).f v2)))] (ocons (slF ePl y2) onil) (Timpl_room_1 n rec0 t0 t11 t12 ze zf zs zt hrec0 t13 v2 (v2.length:Int) v0.A v0.B v0.C v0.D n 0 r h) 
 ·replace h:=sj h;subst h
  exact x_end 5 [] [] onil onil 
def Dimpl_room(n:Nat)(a0:(List Pl))(a1:Pl):Option Bool :=
 loopN (Dimpl_room_2 n a0 a0 (a0.length:Int) a1.A a1.B a1.C a1.D) n 0
theorem Timpl_room{Y}(n:Nat)(a0:(List Pl))(a1:Pl)(r:Bool)(h:Dimpl_room n a0 a1=some r):Big Tryz.prog H Y (.call 137 [.sl false 4 a0.length ((ePl).f a0),.agg [i64 a1.A,i64 a1.B,i64 a1.C,i64 a1.D]] (lk []) (bl r) (lk [])):=by
 unfold Dimpl_room at h
 refine x_call (fn:=Tryz.f137) (c:=bodyOf Tryz.f137) (bs0:=[]) Tryz.func137 (by kernel_rfl) (by kernel_rfl) ?_
 exact x_to 13 [] onil (Timpl_room_2 n a0 a0 (a0.length:Int) a1.A a1.B a1.C a1.D n 0 r h) 
def Dimpl_with(a0:(List Pl))(a1:Pl):Option (List Pl) :=
 chk (apB 32 (0+a0.length)) (chk (apB 32 (([]++a0).length+1)) (some (([]++a0)++[a1])))
theorem Timpl_with{Y}(a0:(List Pl))(a1:Pl)(r:(List Pl))(h:Dimpl_with a0 a1=some r):Big Tryz.prog H Y (.call 138 [.sl false 4 a0.length ((ePl).f a0),.agg [i64 a1.A,i64 a1.B,i64 a1.C,i64 a1.D]] (lk []) (.sl true 4 r.length ((ePl).f r)) (lk [])):=by
 unfold Dimpl_with at h
 refine x_call (fn:=Tryz.f138) (c:=bodyOf Tryz.f138) (bs0:=[]) Tryz.func138 (by kernel_rfl) (by kernel_rfl) ?_
 obtain⟨c0,h⟩:=chk_some h
 obtain⟨c1,h⟩:=chk_some h
 replace h:=sj h;subst h
 exact x_end 15 [(4,.app false (List.length ([]++a0)) ((ePl).f ([]++a0))),(2,.app false (List.length (([]++a0)++[a1])) ((ePl).f (([]++a0)++[a1])))] [] (ocons (len_row' (L:=[]) ePl) (ocons (app_one (L:=[]) (M:=a0) ePl c0) (ocons (app_new (L:=[]) (M:=a0) ePl) (ocons (app_m (L:=[]) (M:=a0) ePl rfl) (ocons (len_row' (L:=a0) ePl) (ocons (len_row' (L:=([]++a0)) ePl) (ocons (app_one (L:=([]++a0)) (M:=[a1]) ePl c1) (ocons (app_new (L:=([]++a0)) (M:=[a1]) ePl) (ocons (app_m (L:=([]++a0)) (M:=[a1]) ePl rfl) (ocons (len_row' (L:=[a1]) ePl) (ocons (Enc.noOwn ePl (fun _=>rfl) [a1]) onil))))))))))) (ocons (len_row (L:=(([]++a0)++[a1])) ePl) onil) 
def Dimpl_checker_right_1(_n:Nat)(self:(Int×Sol×(List Pl))→Option (Bool×Int))(t2:List Pl)(t59 _za:Bool)(zu zv zw zao:Int)(zap:List Sol)(zab zac zad zbd zp:Int):Option (Bool×Int) :=
 frk t59 (some (false,zp)) ((lget zap 0).bind fun v5=>(Dimpl_with t2 (Pl.mk zu zv zw zao)).bind fun v6=>(self (zp,v5,v6)).bind fun v7=>frk v7.1 ((lget zap 1).bind fun v8=>(Dimpl_with t2 (Pl.mk zab zac zad zbd)).bind fun v9=>(self (v7.2,v8,v9)).bind fun v10=>some v10) (some (false,v7.2)))
theorem Timpl_checker_right_1{Y}(n:Nat)(self:(Int×Sol×(List Pl))→Option (Bool×Int))(hself:∀(a:(Int×Sol×(List Pl))) (r:(Bool×Int)),self a=some r→Big Tryz.prog H Y (.call 74 [.ptr 1000 0,eF a.2.1,.sl false 4 a.2.2.length ((ePl).f a.2.2)] (lk [(1000,⟨true,0,[i64 a.1]⟩)]) (bl r.1) (lk [(1000,⟨true,0,[i64 r.2]⟩)])))(t2:List Pl)(t59 za:Bool)(zu zv zw zao:Int)(zap:List Sol)(zab zac zad zbd zp:Int)(r:(Bool×Int))(h:Dimpl_checker_right_1 n self t2 t59 za zu zv zw zao zap zab zac zad zbd zp=some r):Wk Tryz.prog H Y 74 [.code (cp [1,1,1,1,1,0,1] (bodyOf Tryz.f74)),.code (cp [1,1,1,1,1,1] (bodyOf Tryz.f74))] (FinX Tryz.prog Tryz.f74 [(1000,⟨true,0,[.bad]⟩)] (bl r.1) [(1000,⟨true,0,[i64 r.2]⟩)]) ⟨[(0,.ptr 1000 0),(2,.sl false 4 t2.length ((ePl).f t2)),(4,.ptr 4 0),(7,.ptr 7 0),(59,bl t59)],[(4,⟨true,0,[bl za,i64 zu,i64 zv,i64 zw,i64 zao,.sl false 6 zap.length ((eSol false).f zap)]⟩),(7,⟨true,0,[i64 zab,i64 zac,i64 zad,i64 zbd]⟩),(1000,⟨true,0,[i64 zp]⟩)]⟩:=by
 unfold Dimpl_checker_right_1 at h
 refine x_frk 0 [] onil h (by kernel_rfl) (fun h=>?_) (fun h=>?_)
 ·replace h:=sj h;subst h
  exact x_end 4 [] [] onil onil 
 ·obtain⟨v5,y5,h⟩:=bm h
  obtain⟨v6,y6,h⟩:=bm h
  obtain⟨v7,y7,h⟩:=bm h
  refine x_frk 14 [(3,.val (.cptr ((eSol false).c v5++(eSol false).f ((zap).drop (Int.toNat 0+1))))),(4,.call [] [] (.sl false 4 v6.length ((ePl).f v6)) []),(0,.call [] [] (bl v7.1) [(1000,⟨true,0,[i64 v7.2]⟩)])] (ocons (ix (eSol false) y5) (ocons (shSl (L:=v6) ePl ePl sPl (Timpl_with (Y:=Y) t2 (Pl.mk zu zv zw zao) _ y6)) (ocons (hself (zp,v5,v6) _ y7) onil))) h (by kernel_rfl) (fun h=>?_) (fun h=>?_)
  ·obtain⟨v8,y8,h⟩:=bm h
   obtain⟨v9,y9,h⟩:=bm h
   obtain⟨v10,y10,h⟩:=bm h
   replace h:=sj h;subst h
   exact x_end 12 [(3,.val (.cptr ((eSol false).c v8++(eSol false).f ((zap).drop (Int.toNat 1+1))))),(3,.call [] [] (.sl false 4 v9.length ((ePl).f v9)) []),(0,.call [] [] (bl v10.1) [(1000,⟨true,0,[i64 v10.2]⟩)])] [] (ocons (ix (eSol false) y8) (ocons (shSl (L:=v9) ePl ePl sPl (Timpl_with (Y:=Y) t2 (Pl.mk zab zac zad zbd) _ y9)) (ocons (hself (v7.2,v8,v9) _ y10) onil))) onil 
  ·replace h:=sj h;subst h
   exact x_end 12 [] [] onil onil 
def Dimpl_checker_right_0(n:Nat)(self:(Int×Sol×(List Pl))→Option (Bool×Int))(t2:List Pl)(t45 za:Bool)(zu zv zw zao:Int)(zap:List Sol)(zp:Int):Option (Bool×Int) :=
 frk t45 (some (false,zp)) ((Dimpl_flip (Pl.mk zu zv zw zao)).bind fun v2=>(Dimpl_room n t2 (Pl.mk zu zv zw zao)).bind fun v3=>frk (!v3) (some (false,zp)) ((Dimpl_room n t2 v2).bind fun v4=>Dimpl_checker_right_1 n self t2 (!v4) za zu zv zw zao zap v2.A v2.B v2.C v2.D zp))
theorem Timpl_checker_right_0{Y}(n:Nat)(self:(Int×Sol×(List Pl))→Option (Bool×Int))(hself:∀(a:(Int×Sol×(List Pl))) (r:(Bool×Int)),self a=some r→Big Tryz.prog H Y (.call 74 [.ptr 1000 0,eF a.2.1,.sl false 4 a.2.2.length ((ePl).f a.2.2)] (lk [(1000,⟨true,0,[i64 a.1]⟩)]) (bl r.1) (lk [(1000,⟨true,0,[i64 r.2]⟩)])))(t2:List Pl)(t45 za:Bool)(zu zv zw zao:Int)(zap:List Sol)(zp:Int)(r:(Bool×Int))(h:Dimpl_checker_right_0 n self t2 t45 za zu zv zw zao zap zp=some r):Wk Tryz.prog H Y 74 [.code (cp [1,1,1,0,1] (bodyOf Tryz.f74)),.code (cp [1,1,1,1] (bodyOf Tryz.f74))] (FinX Tryz.prog Tryz.f74 [(1000,⟨true,0,[.bad]⟩)] (bl r.1) [(1000,⟨true,0,[i64 r.2]⟩)]) ⟨[(0,.ptr 1000 0),(2,.sl false 4 t2.length ((ePl).f t2)),(4,.ptr 4 0),(45,bl t45)],[(4,⟨true,0,[bl za,i64 zu,i64 zv,i64 zw,i64 zao,.sl false 6 zap.length ((eSol false).f zap)]⟩),(1000,⟨true,0,[i64 zp]⟩)]⟩:=by
 unfold Dimpl_checker_right_0 at h
 refine x_frk 0 [] onil h (by kernel_rfl) (fun h=>?_) (fun h=>?_)
 ·replace h:=sj h;subst h
  exact x_end 4 [] [] onil onil 
 ·obtain⟨v2,y2,h⟩:=bm h
  obtain⟨v3,y3,h⟩:=bm h
  refine x_frk 18 [(2,.call [] [] (.agg [i64 v2.A,i64 v2.B,i64 v2.C,i64 v2.D]) []),(5,.call [] [] (bl v3) [])] (ocons (Timpl_flip (Y:=Y) (Pl.mk zu zv zw zao) _ y2) (ocons (Timpl_room (Y:=Y) n t2 (Pl.mk zu zv zw zao) _ y3) onil)) h (by kernel_rfl) (fun h=>?_) (fun h=>?_)
  ·replace h:=sj h;subst h
   exact x_end 11 [] [] onil onil 
  ·obtain⟨v4,y4,h⟩:=bm h
   exact x_to 6 [(2,.call [] [] (bl v4) [])] (ocons (Timpl_room (Y:=Y) n t2 v2 _ y4) onil) (Timpl_checker_right_1 n self hself t2 (!v4) za zu zv zw zao zap v2.A v2.B v2.C v2.D zp r h) 
def Dimpl_checker_right_b(n:Nat)(self:(Int×Sol×(List Pl))→Option (Bool×Int))(a:(Int×Sol×(List Pl))):Option (Bool×Int) :=
 match a with
 | (a0,a1,a2)=>(Dimpl_Solid_isLeaf a1).bind fun v0=>frk v0 (some ((a1.pl.A==0&&(a1.pl.B==0&&(a1.pl.C==0&&(a1.pl.D==0&&true)))),a0)) (frk a1.inn (some (false,w64 (a0+1))) (frk ((a1.kids.length:Int) != 2) (some (false,w64 (a0+1))) (frk (decide ((w64 (a0+1))>300)) (some (false,w64 (a0+1))) (frk (decide ((a2.length:Int)≥24)) (some (false,w64 (a0+1))) ((Dimpl_PlaneOk n a1.pl).bind fun v1=>Dimpl_checker_right_0 n self a2 (!v1) a1.inn a1.pl.A a1.pl.B a1.pl.C a1.pl.D a1.kids (w64 (a0+1)))))))
def Dimpl_checker_right(n:Nat)(a0:Int)(a1:Sol)(a2:(List Pl)):Option (Bool×Int):=loopN (Dimpl_checker_right_b n) n (a0,a1,a2)
theorem Timpl_checker_right_b{Y}(n:Nat):∀(m:Nat) (a:(Int×Sol×(List Pl))) (r:(Bool×Int)),loopN (Dimpl_checker_right_b n) m a=some r→∀(_:Unit),Big Tryz.prog H Y (.call 74 [.ptr 1000 0,eF a.2.1,.sl false 4 a.2.2.length ((ePl).f a.2.2)] (lk [(1000,⟨true,0,[i64 a.1]⟩)]) (bl r.1) (lk [(1000,⟨true,0,[i64 r.2]⟩)])):=by
 refine loopN_ind (fun self hs a r h=>?_)
 have hself:∀(a:(Int×Sol×(List Pl))) (r:(Bool×Int)),self a=some r→Big Tryz.prog H Y (.call 74 [.ptr 1000 0,eF a.2.1,.sl false 4 a.2.2.length ((ePl).f a.2.2)] (lk [(1000,⟨true,0,[i64 a.1]⟩)]) (bl r.1) (lk [(1000,⟨true,0,[i64 r.2]⟩)])):=fun a r h=>hs a r h ()
 intro _
 obtain⟨a0,a1,a2⟩:=a
 unfold Dimpl_checker_right_b at h
 refine x_call (fn:=Tryz.f74) (c:=bodyOf Tryz.f74) (bs0:=[(1000,⟨true,0,[.bad]⟩)]) Tryz.func74 (by kernel_rfl) (by kernel_rfl) ?_
 obtain⟨v0,y0,h⟩:=bm h
 refine x_frk 10 [(2,.call [] [] (bl v0) [])] (ocons (Timpl_Solid_isLeaf (Y:=Y) a1 [] _ y0) onil) h (by kernel_rfl) (fun h=>?_) (fun h=>?_)
 ·replace h:=sj h;subst h
  exact x_end 8 [] [] onil onil 
 ·refine x_frk 18 [] onil h (by kernel_rfl) (fun h=>?_) (fun h=>?_)
  ·replace h:=sj h;subst h
   exact x_end 29 [] [] onil onil 
  ·refine x_frk 6 [] onil h (by kernel_rfl) (fun h=>?_) (fun h=>?_)
   ·replace h:=sj h;subst h
    exact x_end 23 [] [] onil onil 
   ·refine x_frk 7 [] onil h (by kernel_rfl) (fun h=>?_) (fun h=>?_)
    ·replace h:=sj h;subst h
     exact x_end 16 [] [] onil onil 
    ·refine x_frk 5 [] onil h (by kernel_rfl) (fun h=>?_) (fun h=>?_)
     ·replace h:=sj h;subst h
      exact x_end 11 [] [] onil onil 
     ·obtain⟨v1,y1,h⟩:=bm h
      exact x_to 6 [(2,.call [] [] (bl v1) [])] (ocons (Timpl_PlaneOk (Y:=Y) n a1.pl _ y1) onil) (Timpl_checker_right_0 n self hself a2 (!v1) a1.inn a1.pl.A a1.pl.B a1.pl.C a1.pl.D a1.kids (w64 (a0+1)) r h) 
theorem Timpl_checker_right{Y}(n:Nat)(a0:Int)(a1:Sol)(a2:(List Pl))(r:(Bool×Int))(h:Dimpl_checker_right n a0 a1 a2=some r):Big Tryz.prog H Y (.call 74 [.ptr 1000 0,eF a1,.sl false 4 a2.length ((ePl).f a2)] (lk [(1000,⟨true,0,[i64 a0]⟩)]) (bl r.1) (lk [(1000,⟨true,0,[i64 r.2]⟩)])):=Timpl_checker_right_b n n (a0,a1,a2) r h ()
def Dimpl_SolidOk(n:Nat)(a0:Sol):Option Bool :=
 (Dimpl_checker_right n 0 a0 []).bind fun v0=>some v0.1
theorem Timpl_SolidOk{Y}(n:Nat)(a0:Sol)(r:Bool)(h:Dimpl_SolidOk n a0=some r):Big Tryz.prog H Y (.call 18 [eF a0] (lk []) (bl r) (lk [])):=by
 unfold Dimpl_SolidOk at h
 refine x_call (fn:=Tryz.f18) (c:=bodyOf Tryz.f18) (bs0:=[]) Tryz.func18 (by kernel_rfl) (by kernel_rfl) ?_
 obtain⟨v0,y0,h⟩:=bm h
 replace h:=sj h;subst h
 exact x_end 15 [(4,.call [(false,4)] [] (bl v0.1) [(1000,⟨true,0,[i64 v0.2]⟩)])] [] (ocons (Timpl_checker_right (Y:=Y) n 0 a0 [] _ y0) onil) onil 
def Dimpl_Leaf(a0:Bool):Option Sol :=
 some (Sol.mk a0 (Pl.mk 0 0 0 0) [])
theorem Timpl_Leaf{Y}(a0:Bool)(r:Sol)(h:Dimpl_Leaf a0=some r):Big Tryz.prog H Y (.call 28 [bl a0] (lk []) (eS r) (lk [])):=by
 unfold Dimpl_Leaf at h
 refine x_call (fn:=Tryz.f28) (c:=bodyOf Tryz.f28) (bs0:=[]) Tryz.func28 (by kernel_rfl) (by kernel_rfl) ?_
 replace h:=sj h;subst h
 exact x_end 10 [] [(true,6)] onil onil 
def Dslices_EqualFuncfimpl_SameTree_in_0(_n:Nat)(self1:(Sol×Sol)→Option Bool)(t1 t15:List Sol)(t16:Int)(rec0:Int→Option Bool)(a:Int):Option Bool :=
 match a with
 | t17=>frk (decide (t17<t16)) ((lget t15 t17).bind fun v0=>(lget t1 t17).bind fun v1=>(self1 (v0,v1)).bind fun v2=>frk (!v2) (some false) (rec0 (w64 (t17+1)))) (some true)
theorem Tslices_EqualFuncfimpl_SameTree_in_0{Y}(n:Nat)(self1:(Sol×Sol)→Option Bool)(hself1:∀(a:(Sol×Sol)) (r:Bool),self1 a=some r→Big Tryz.prog H Y (.call 15 [eF a.1,eF a.2] (lk []) (bl r) (lk [])))(t1 t15:List Sol)(t16:Int):∀(m:Nat) (a:Int) (r:Bool),loopN (Dslices_EqualFuncfimpl_SameTree_in_0 n self1 t1 t15 t16) m a=some r→Wk Tryz.prog H Y 72 [.code (cp [1,1,0,1,0] (bodyOf Tryz.f72)),.blk 0,.code (cp [1,1,1] (bodyOf Tryz.f72))] (FinX Tryz.prog Tryz.f72 [] (bl r) []) ⟨[(1,.sl false 6 t1.length ((eSol false).f t1)),(2,.lit (.func (.func 15) #[] #[])),(15,.sl false 6 t15.length ((eSol false).f t15)),(16,i64 t16),(17,i64 a)],[]⟩:=by
 refine loopN_ind (fun _rec0 hrec0 a r h=>?_)
 obtain⟨t17,rfl⟩:∃x,x=a:=⟨a,rfl⟩
 unfold Dslices_EqualFuncfimpl_SameTree_in_0 at h
 refine x_frk 6 [] onil h (by kernel_rfl) (fun h=>?_) (fun h=>?_)
 ·obtain⟨v0,y0,h⟩:=bm h
  obtain⟨v1,y1,h⟩:=bm h
  obtain⟨v2,y2,h⟩:=bm h
  refine x_frk 29 [(1,.val (.cptr ((eSol false).c v0++(eSol false).f ((t15).drop (Int.toNat t17+1))))),(6,.val (.cptr ((eSol false).c v1++(eSol false).f ((t1).drop (Int.toNat t17+1))))),(6,.call [] [] (bl v2) [])] (ocons (ix (eSol false) y0) (ocons (ix (eSol false) y1) (ocons (hself1 (v0,v1) _ y2) onil))) h (by kernel_rfl) (fun h=>?_) (fun h=>?_)
  ·replace h:=sj h;subst h
   exact x_end 4 [] [] onil onil 
  ·exact x_to 7 [] onil (hrec0 (w64 (t17+1)) r h) 
 ·replace h:=sj h;subst h
  exact x_end 5 [] [] onil onil 
def Dslices_EqualFuncfimpl_SameTree_in(n:Nat)(self1:(Sol×Sol)→Option Bool)(a0:(List Sol))(a1:(List Sol)):Option Bool :=
 frk ((a0.length:Int) != (a1.length:Int)) (some false) (loopN (Dslices_EqualFuncfimpl_SameTree_in_0 n self1 a1 a0 (a0.length:Int)) n 0)
theorem Tslices_EqualFuncfimpl_SameTree_in{Y}(n:Nat)(self1:(Sol×Sol)→Option Bool)(hself1:∀(a:(Sol×Sol)) (r:Bool),self1 a=some r→Big Tryz.prog H Y (.call 15 [eF a.1,eF a.2] (lk []) (bl r) (lk [])))(a0:(List Sol))(a1:(List Sol))(r:Bool)(h:Dslices_EqualFuncfimpl_SameTree_in n self1 a0 a1=some r):Big Tryz.prog H Y (.call 72 [.sl false 6 a0.length ((eSol false).f a0),.sl false 6 a1.length ((eSol false).f a1),.lit (.func (.func 15) #[] #[])] (lk []) (bl r) (lk [])):=by
 unfold Dslices_EqualFuncfimpl_SameTree_in at h
 refine x_call (fn:=Tryz.f72) (c:=bodyOf Tryz.f72) (bs0:=[]) Tryz.func72 (by kernel_rfl) (by kernel_rfl) ?_
 refine x_frk 13 [] onil h (by kernel_rfl) (fun h=>?_) (fun h=>?_)
 ·replace h:=sj h;subst h
  exact x_end 4 [] [] onil onil 
 ·exact x_to 9 [] onil (Tslices_EqualFuncfimpl_SameTree_in_0 n self1 hself1 a1 a0 (a0.length:Int) n 0 r h) 
def Dimpl_SameTree_b(n:Nat)(self1:(Sol×Sol)→Option Bool)(a:(Sol×Sol)):Option Bool :=
 match a with
 | (a0,a1)=>frk (a0.inn==a1.inn) (frk (a0.pl.A==a1.pl.A&&(a0.pl.B==a1.pl.B&&(a0.pl.C==a1.pl.C&&(a0.pl.D==a1.pl.D&&true)))) ((Dslices_EqualFuncfimpl_SameTree_in n self1 a0.kids a1.kids).bind fun v0=>some v0) (some false)) (some false)
def Dimpl_SameTree(n:Nat)(a0:Sol)(a1:Sol):Option Bool:=loopN (Dimpl_SameTree_b n) n (a0,a1)
theorem Timpl_SameTree_b{Y}(n:Nat):∀(m:Nat) (a:(Sol×Sol)) (r:Bool),loopN (Dimpl_SameTree_b n) m a=some r→∀(_:Unit),Big Tryz.prog H Y (.call 15 [eF a.1,eF a.2] (lk []) (bl r) (lk [])):=by
 refine loopN_ind (fun self1 hs a r h=>?_)
 have hself1:∀(a:(Sol×Sol)) (r:Bool),self1 a=some r→Big Tryz.prog H Y (.call 15 [eF a.1,eF a.2] (lk []) (bl r) (lk [])):=fun a r h=>hs a r h ()
 intro _
 obtain⟨a0,a1⟩:=a
 unfold Dimpl_SameTree_b at h
 refine x_call (fn:=Tryz.f15) (c:=bodyOf Tryz.f15) (bs0:=[]) Tryz.func15 (by kernel_rfl) (by kernel_rfl) ?_
 refine x_frk 14 [] onil h (by kernel_rfl) (fun h=>?_) (fun h=>?_)
 ·refine x_frk 7 [] onil h (by kernel_rfl) (fun h=>?_) (fun h=>?_)
  ·obtain⟨v0,y0,h⟩:=bm h
   replace h:=sj h;subst h
   exact x_end 8 [(4,.call [] [] (bl v0) [])] [] (ocons (Tslices_EqualFuncfimpl_SameTree_in (Y:=Y) n self1 hself1 a0.kids a1.kids _ y0) onil) onil 
  ·replace h:=sj h;subst h
   exact x_end 8 [] [] onil onil 
 ·replace h:=sj h;subst h
  exact x_end 15 [] [] onil onil 
theorem Timpl_SameTree{Y}(n:Nat)(a0:Sol)(a1:Sol)(r:Bool)(h:Dimpl_SameTree n a0 a1=some r):Big Tryz.prog H Y (.call 15 [eF a0,eF a1] (lk []) (bl r) (lk [])):=Timpl_SameTree_b n n (a0,a1) r h ()
def Dimpl_nodeo1o2(a0:Pl)(a1:Sol)(a2:Sol):Option Sol :=
 some (Sol.mk false a0 [a1,a2])
theorem Timpl_nodeo1o2{Y}(a0:Pl)(a1:Sol)(a2:Sol)(r:Sol)(h:Dimpl_nodeo1o2 a0 a1 a2=some r):Big Tryz.prog H Y (.call 101 [.agg [i64 a0.A,i64 a0.B,i64 a0.C,i64 a0.D],eS a1,eS a2] (lk []) (eS r) (lk [])):=by
 unfold Dimpl_nodeo1o2 at h
 refine x_call (fn:=Tryz.f101) (c:=bodyOf Tryz.f101) (bs0:=[]) Tryz.func101 (by kernel_rfl) (by kernel_rfl) ?_
 replace h:=sj h;subst h
 exact x_end 17 [(8,.fixb 10 ⟨true,6,(eSol true).f [a1,a2]⟩)] [] (ocons (boxSol true true [a1,a2]) onil) (ocons (len_row (L:=[a1,a2]) (eSol true)) onil) 
def Dimpl_tidy_b(n:Nat)(self:Sol→Option Sol)(a:Sol):Option Sol :=
 match a with
 | a0=>(Dimpl_Solid_isLeaf a0).bind fun v0=>frk v0 ((Dimpl_Leaf a0.inn).bind fun v1=>some v1) ((lget a0.kids 0).bind fun v2=>(self v2).bind fun v3=>(lget a0.kids 1).bind fun v4=>(self v4).bind fun v5=>(Dimpl_SameTree n v3 v5).bind fun v6=>frk v6 (some v3) ((Dimpl_nodeo1o2 a0.pl v3 v5).bind fun v7=>some v7))
def Dimpl_tidy(n:Nat)(a0:Sol):Option Sol:=loopN (Dimpl_tidy_b n) n a0
theorem Timpl_tidy_b{Y}(n:Nat):∀(m:Nat) (a:Sol) (r:Sol),loopN (Dimpl_tidy_b n) m a=some r→∀(_:Unit),Big Tryz.prog H Y (.call 125 [eF a] (lk []) (eS r) (lk [])):=by
 refine loopN_ind (fun self hs a r h=>?_)
 have hself:∀(a:Sol) (r:Sol),self a=some r→Big Tryz.prog H Y (.call 125 [eF a] (lk []) (eS r) (lk [])):=fun a r h=>hs a r h ()
 intro _
 obtain⟨a0,rfl⟩:∃x,x=a:=⟨a,rfl⟩
 unfold Dimpl_tidy_b at h
 refine x_call (fn:=Tryz.f125) (c:=bodyOf Tryz.f125) (bs0:=[]) Tryz.func125 (by kernel_rfl) (by kernel_rfl) ?_
 obtain⟨v0,y0,h⟩:=bm h
 refine x_frk 10 [(2,.call [] [] (bl v0) [])] (ocons (Timpl_Solid_isLeaf (Y:=Y) a0 [] _ y0) onil) h (by kernel_rfl) (fun h=>?_) (fun h=>?_)
 ·obtain⟨v1,y1,h⟩:=bm h
  replace h:=sj h;subst h
  exact x_end 7 [(2,.call [] [] (eS v1) [])] [] (ocons (Timpl_Leaf (Y:=Y) a0.inn _ y1) onil) onil 
 ·obtain⟨v2,y2,h⟩:=bm h
  obtain⟨v3,y3,h⟩:=bm h
  obtain⟨v4,y4,h⟩:=bm h
  obtain⟨v5,y5,h⟩:=bm h
  obtain⟨v6,y6,h⟩:=bm h
  refine x_frk 25 [(2,.val (.cptr ((eSol false).c v2++(eSol false).f ((a0.kids).drop (Int.toNat 0+1))))),(1,.call [] [] (eS v3) []),(2,.val (.cptr ((eSol false).c v4++(eSol false).f ((a0.kids).drop (Int.toNat 1+1))))),(1,.call [] [] (eS v5) []),(4,.rows [(eSol false).f v3.kids]),(0,.rows [(eSol false).f v5.kids]),(0,.call [] [] (bl v6) [])] (ocons (ix (eSol false) y2) (ocons (hself v2 _ y3) (ocons (ix (eSol false) y4) (ocons (hself v4 _ y5) (ocons (Enc.share (eSol true) (eSol false) (sSol true) v3.kids) (ocons (Enc.share (eSol true) (eSol false) (sSol true) v5.kids) (ocons (Timpl_SameTree (Y:=Y) n v3 v5 _ y6) onil))))))) h (by kernel_rfl) (fun h=>?_) (fun h=>?_)
  ·replace h:=sj h;subst h
   exact x_end 5 [] [] onil onil 
  ·obtain⟨v7,y7,h⟩:=bm h
   replace h:=sj h;subst h
   exact x_end 10 [(4,.call [] [] (eS v7) [])] [] (ocons (Timpl_nodeo1o2 (Y:=Y) a0.pl v3 v5 _ y7) onil) onil 
theorem Timpl_tidy{Y}(n:Nat)(a0:Sol)(r:Sol)(h:Dimpl_tidy n a0=some r):Big Tryz.prog H Y (.call 125 [eF a0] (lk []) (eS r) (lk [])):=Timpl_tidy_b n n a0 r h ()
def Dimpl_Tidy(n:Nat)(a0:Sol):Option Sol :=
 (Dimpl_SolidOk n a0).bind fun v0=>frk (!v0) ((Dimpl_Leaf false).bind fun v1=>some v1) ((Dimpl_tidy n a0).bind fun v2=>some v2)
theorem Timpl_Tidy{Y}(n:Nat)(a0:Sol)(r:Sol)(h:Dimpl_Tidy n a0=some r):Big Tryz.prog H Y (.call 56 [eF a0] (lk []) (eS r) (lk [])):=by
 unfold Dimpl_Tidy at h
 refine x_call (fn:=Tryz.f56) (c:=bodyOf Tryz.f56) (bs0:=[]) Tryz.func56 (by kernel_rfl) (by kernel_rfl) ?_
 obtain⟨v0,y0,h⟩:=bm h
 refine x_frk 12 [(3,.call [] [] (bl v0) [])] (ocons (Timpl_SolidOk (Y:=Y) n a0 _ y0) onil) h (by kernel_rfl) (fun h=>?_) (fun h=>?_)
 ·obtain⟨v1,y1,h⟩:=bm h
  replace h:=sj h;subst h
  exact x_end 5 [(0,.call [] [] (eS v1) [])] [] (ocons (Timpl_Leaf (Y:=Y) false _ y1) onil) onil 
 ·obtain⟨v2,y2,h⟩:=bm h
  replace h:=sj h;subst h
  exact x_end 7 [(1,.call [] [] (eS v2) [])] [] (ocons (Timpl_tidy (Y:=Y) n a0 _ y2) onil) onil 
def Dimpl_Solid_nodes_b(_n:Nat)(self:Sol→Option Int)(a:Sol):Option Int :=
 match a with
 | a0=>(Dimpl_Solid_isLeaf a0).bind fun v0=>frk v0 (some 0) ((lget a0.kids 0).bind fun v1=>(self v1).bind fun v2=>(lget a0.kids 1).bind fun v3=>(self v3).bind fun v4=>some (w64 ((w64 (1+v2))+v4)))
def Dimpl_Solid_nodes(n:Nat)(a0:Sol):Option Int:=loopN (Dimpl_Solid_nodes_b n) n a0
theorem Timpl_Solid_nodes_b{Y}(n:Nat):∀(m:Nat) (a:Sol) (r:Int),loopN (Dimpl_Solid_nodes_b n) m a=some r→∀(q0:List AV),Big Tryz.prog H Y (.call 126 [.cptr ([bl a.inn,i64 a.pl.A,i64 a.pl.B,i64 a.pl.C,i64 a.pl.D,.sl false 6 a.kids.length ((eSol false).f a.kids)]++q0)] (lk []) (i64 r) (lk [])):=by
 refine loopN_ind (fun self hs a r h=>?_)
 have hself:∀(a:Sol) (q0:List AV) (r:Int),self a=some r→Big Tryz.prog H Y (.call 126 [.cptr ([bl a.inn,i64 a.pl.A,i64 a.pl.B,i64 a.pl.C,i64 a.pl.D,.sl false 6 a.kids.length ((eSol false).f a.kids)]++q0)] (lk []) (i64 r) (lk [])):=fun a q0 r h=>hs a r h q0
 intro q0
 obtain⟨a0,rfl⟩:∃x,x=a:=⟨a,rfl⟩
 unfold Dimpl_Solid_nodes_b at h
 refine x_call (fn:=Tryz.f126) (c:=bodyOf Tryz.f126) (bs0:=[]) Tryz.func126 (by kernel_rfl) (by kernel_rfl) ?_
 obtain⟨v0,y0,h⟩:=bm h
 refine x_frk 10 [(2,.call [] [] (bl v0) [])] (ocons (Timpl_Solid_isLeaf (Y:=Y) a0 q0 _ y0) onil) h (by kernel_rfl) (fun h=>?_) (fun h=>?_)
 ·replace h:=sj h;subst h
  exact x_end 4 [] [] onil onil 
 ·obtain⟨v1,y1,h⟩:=bm h
  obtain⟨v2,y2,h⟩:=bm h
  obtain⟨v3,y3,h⟩:=bm h
  obtain⟨v4,y4,h⟩:=bm h
  replace h:=sj h;subst h
  exact x_end 19 [(4,.val (.cptr ((eSol false).c v1++(eSol false).f ((a0.kids).drop (Int.toNat 0+1))))),(0,.call [] [] (i64 v2) []),(5,.val (.cptr ((eSol false).c v3++(eSol false).f ((a0.kids).drop (Int.toNat 1+1))))),(0,.call [] [] (i64 v4) [])] [] (ocons (ix (eSol false) y1) (ocons (hself v1 ((eSol false).f ((a0.kids).drop (Int.toNat 0+1))) _ y2) (ocons (ix (eSol false) y3) (ocons (hself v3 ((eSol false).f ((a0.kids).drop (Int.toNat 1+1))) _ y4) onil)))) onil 
theorem Timpl_Solid_nodes{Y}(n:Nat)(a0:Sol)(q0:List AV)(r:Int)(h:Dimpl_Solid_nodes n a0=some r):Big Tryz.prog H Y (.call 126 [.cptr ([bl a0.inn,i64 a0.pl.A,i64 a0.pl.B,i64 a0.pl.C,i64 a0.pl.D,.sl false 6 a0.kids.length ((eSol false).f a0.kids)]++q0)] (lk []) (i64 r) (lk [])):=Timpl_Solid_nodes_b n n a0 r h q0
def Dimpl_Spare(n:Nat)(a0:Sol):Option Int :=
 (Dimpl_SolidOk n a0).bind fun v0=>frk (!v0) (some 0) ((Dimpl_tidy n a0).bind fun v1=>(Dimpl_Solid_nodes n a0).bind fun v2=>(Dimpl_Solid_nodes n v1).bind fun v3=>some (w64 (v2-v3)))
theorem Timpl_Spare{Y}(n:Nat)(a0:Sol)(r:Int)(h:Dimpl_Spare n a0=some r):Big Tryz.prog H Y (.call 57 [eF a0] (lk []) (i64 r) (lk [])):=by
 unfold Dimpl_Spare at h
 refine x_call (fn:=Tryz.f57) (c:=bodyOf Tryz.f57) (bs0:=[]) Tryz.func57 (by kernel_rfl) (by kernel_rfl) ?_
 obtain⟨v0,y0,h⟩:=bm h
 refine x_frk 12 [(3,.call [] [] (bl v0) [])] (ocons (Timpl_SolidOk (Y:=Y) n a0 _ y0) onil) h (by kernel_rfl) (fun h=>?_) (fun h=>?_)
 ·replace h:=sj h;subst h
  exact x_end 4 [] [] onil onil 
 ·obtain⟨v1,y1,h⟩:=bm h
  obtain⟨v2,y2,h⟩:=bm h
  obtain⟨v3,y3,h⟩:=bm h
  replace h:=sj h;subst h
  exact x_end 15 [(1,.call [] [] (eS v1) []),(2,.call [] [] (i64 v2) []),(0,.call [] [(eSol false).f v1.kids] (i64 v3) [])] [] (ocons (Timpl_tidy (Y:=Y) n a0 _ y1) (ocons (Timpl_Solid_nodes (Y:=Y) n a0 [] _ y2) (ocons (Timpl_Solid_nodes (Y:=Y) n v1 [] _ y3) (ocons (Enc.share (eSol true) (eSol false) (sSol true) v1.kids) onil)))) onil 
def Dslices_Clone(a0:(List Pl)):Option (List Pl) :=
 chk (apB 32 (0+a0.length)) (some ([]++a0))
theorem Tslices_Clone{Y}(a0:(List Pl))(r:(List Pl))(h:Dslices_Clone a0=some r):Big Tryz.prog H Y (.call 172 [.sl false 4 a0.length ((ePl).f a0)] (lk []) (.sl true 4 r.length ((ePl).f r)) (lk [])):=by
 unfold Dslices_Clone at h
 refine x_clone (fn:=Tryz.f172) (c:=bodyOf Tryz.f172) 0 3 4 (lq:=⟨[(2,.nil),(0,.sl false 4 a0.length ((ePl).f a0))],[]⟩) (z:=4) (ct:=a0.length) (cs:=(ePl).f a0) Tryz.func172 (by kernel_rfl) (by kernel_rfl) (x_at 3 (by kernel_rfl)) (fun b hb=>?_)
 cases b
 ·obtain⟨c0,h⟩:=chk_some h
  replace h:=sj h;subst h
  exact x_end 9 [(2,.app false (List.length ([]++a0)) ((ePl).f ([]++a0)))] [] (ocons (len_row' (L:=[]) ePl) (ocons (app_one (L:=[]) (M:=a0) ePl c0) (ocons (app_new (L:=[]) (M:=a0) ePl) (ocons (app_m (L:=[]) (M:=a0) ePl rfl) (ocons (len_row' (L:=a0) ePl) onil))))) (ocons (len_row (L:=([]++a0)) ePl) onil) 
 ·have h0:a0=[]:=List.eq_nil_of_length_eq_zero (hb rfl)
  subst h0
  replace h:some []=some r:=h
  replace h:=sj h;subst h
  exact x_end 5 [] [(true,4)] onil onil 
def Dimpl_Solid_cells_b(_n:Nat)(self:(Sol×Bool×(List Pl))→Option (List (List Pl)))(a:(Sol×Bool×(List Pl))):Option (List (List Pl)) :=
 match a with
 | (a0,a1,a2)=>(Dimpl_Solid_isLeaf a0).bind fun v0=>frk v0 (frk (a0.inn==a1) ((Dslices_Clone a2).bind fun v1=>some [v1]) (some [])) ((lget a0.kids 0).bind fun v2=>(Dimpl_with a2 a0.pl).bind fun v3=>(self (v2,a1,v3)).bind fun v4=>(lget a0.kids 1).bind fun v5=>(Dimpl_flip a0.pl).bind fun v6=>(Dimpl_with a2 v6).bind fun v7=>(self (v5,a1,v7)).bind fun v8=>chk (apB 24 (v4.length+v8.length)) (some (v4++v8)))
def Dimpl_Solid_cells(n:Nat)(a0:Sol)(a1:Bool)(a2:(List Pl)):Option (List (List Pl)):=loopN (Dimpl_Solid_cells_b n) n (a0,a1,a2)
theorem Timpl_Solid_cells_b{Y}(n:Nat):∀(m:Nat) (a:(Sol×Bool×(List Pl))) (r:(List (List Pl))),loopN (Dimpl_Solid_cells_b n) m a=some r→∀(q0:List AV),Big Tryz.prog H Y (.call 127 [.cptr ([bl a.1.inn,i64 a.1.pl.A,i64 a.1.pl.B,i64 a.1.pl.C,i64 a.1.pl.D,.sl false 6 a.1.kids.length ((eSol false).f a.1.kids)]++q0),bl a.2.1,.sl false 4 a.2.2.length ((ePl).f a.2.2)] (lk []) (.sl true 1 r.length ((ePls true).f r)) (lk [])):=by
 refine loopN_ind (fun self hs a r h=>?_)
 have hself:∀(a:(Sol×Bool×(List Pl))) (q0:List AV) (r:(List (List Pl))),self a=some r→Big Tryz.prog H Y (.call 127 [.cptr ([bl a.1.inn,i64 a.1.pl.A,i64 a.1.pl.B,i64 a.1.pl.C,i64 a.1.pl.D,.sl false 6 a.1.kids.length ((eSol false).f a.1.kids)]++q0),bl a.2.1,.sl false 4 a.2.2.length ((ePl).f a.2.2)] (lk []) (.sl true 1 r.length ((ePls true).f r)) (lk [])):=fun a q0 r h=>hs a r h q0
 intro q0
 obtain⟨a0,a1,a2⟩:=a
 unfold Dimpl_Solid_cells_b at h
 refine x_call (fn:=Tryz.f127) (c:=bodyOf Tryz.f127) (bs0:=[]) Tryz.func127 (by kernel_rfl) (by kernel_rfl) ?_
 obtain⟨v0,y0,h⟩:=bm h
 refine x_frk 10 [(2,.call [] [] (bl v0) [])] (ocons (Timpl_Solid_isLeaf (Y:=Y) a0 q0 _ y0) onil) h (by kernel_rfl) (fun h=>?_) (fun h=>?_)
 ·refine x_frk 10 [] onil h (by kernel_rfl) (fun h=>?_) (fun h=>?_)
  ·obtain⟨v1,y1,h⟩:=bm h
   replace h:=sj h;subst h
   exact x_end 7 [(1,.call [] [] (.sl true 4 v1.length ((ePl).f v1)) [])] [] (ocons (Tslices_Clone (Y:=Y) a2 _ y1) (ocons (len_row (L:=v1) ePl) onil)) (ocons (len_row (L:=[v1]) (ePls true)) onil) 
  ·replace h:=sj h;subst h
   exact x_end 5 [] [(true,1)] onil onil 
 ·obtain⟨v2,y2,h⟩:=bm h
  obtain⟨v3,y3,h⟩:=bm h
  obtain⟨v4,y4,h⟩:=bm h
  obtain⟨v5,y5,h⟩:=bm h
  obtain⟨v6,y6,h⟩:=bm h
  obtain⟨v7,y7,h⟩:=bm h
  obtain⟨v8,y8,h⟩:=bm h
  obtain⟨c9,h⟩:=chk_some h
  replace h:=sj h;subst h
  exact x_end 38 [(4,.val (.cptr ((eSol false).c v2++(eSol false).f ((a0.kids).drop (Int.toNat 0+1))))),(6,.call [] [] (.sl false 4 v3.length ((ePl).f v3)) []),(0,.call [] [] (.sl true 1 v4.length ((ePls true).f v4)) []),(6,.val (.cptr ((eSol false).c v5++(eSol false).f ((a0.kids).drop (Int.toNat 1+1))))),(6,.call [] [] (.agg [i64 v6.A,i64 v6.B,i64 v6.C,i64 v6.D]) []),(0,.call [] [] (.sl false 4 v7.length ((ePl).f v7)) []),(0,.call [] [] (.sl true 1 v8.length ((ePls true).f v8)) []),(0,.app true (List.length (v4++v8)) ((ePls true).f (v4++v8)))] [] (ocons (ix (eSol false) y2) (ocons (shSl (L:=v3) ePl ePl sPl (Timpl_with (Y:=Y) a2 a0.pl _ y3)) (ocons (hself (v2,a1,v3) ((eSol false).f ((a0.kids).drop (Int.toNat 0+1))) _ y4) (ocons (ix (eSol false) y5) (ocons (Timpl_flip (Y:=Y) a0.pl _ y6) (ocons (shSl (L:=v7) ePl ePl sPl (Timpl_with (Y:=Y) a2 v6 _ y7)) (ocons (hself (v5,a1,v7) ((eSol false).f ((a0.kids).drop (Int.toNat 1+1))) _ y8) (ocons (len_row' (L:=v4) (ePls true)) (ocons (app_one (L:=v4) (M:=v8) (ePls true) c9) (ocons (app_new (L:=v4) (M:=v8) (ePls true)) (ocons (app_m (L:=v4) (M:=v8) (ePls true) rfl) (ocons (len_row' (L:=v8) (ePls true)) onil)))))))))))) (ocons (len_row (L:=(v4++v8)) (ePls true)) onil) 
theorem Timpl_Solid_cells{Y}(n:Nat)(a0:Sol)(a1:Bool)(a2:(List Pl))(q0:List AV)(r:(List (List Pl)))(h:Dimpl_Solid_cells n a0 a1 a2=some r):Big Tryz.prog H Y (.call 127 [.cptr ([bl a0.inn,i64 a0.pl.A,i64 a0.pl.B,i64 a0.pl.C,i64 a0.pl.D,.sl false 6 a0.kids.length ((eSol false).f a0.kids)]++q0),bl a1,.sl false 4 a2.length ((ePl).f a2)] (lk []) (.sl true 1 r.length ((ePls true).f r)) (lk [])):=Timpl_Solid_cells_b n n (a0,a1,a2) r h q0
def Dimpl_convex_1(_n:Nat)(_zb:Bool)(_zm _zn _zo _zam:Int)(l503:List Pl)(rec1:(Int×Bool×Int×Int×Int×Int×List Sol)→Option Sol)(a:(Int×Bool×Int×Int×Int×Int×List Sol)):Option Sol :=
 match a with
 | (t7,zah,zai,zaj,zak,zal,zat)=>frk (decide (t7≥0)) ((lget l503 t7).bind fun v5=>(Dimpl_Leaf false).bind fun v6=>(Dimpl_nodeo1o2 v5 (Sol.mk zah (Pl.mk zai zaj zak zal) zat) v6).bind fun v7=>rec1 (w64 (t7-1),v7.inn,v7.pl.A,v7.pl.B,v7.pl.C,v7.pl.D,v7.kids)) (some (Sol.mk zah (Pl.mk zai zaj zak zal) zat))
theorem Timpl_convex_1{Y}(n:Nat)(zb:Bool)(zm zn zo zam:Int)(l503:List Pl):∀(m:Nat) (a:(Int×Bool×Int×Int×Int×Int×List Sol)) (r:Sol),loopN (Dimpl_convex_1 n zb zm zn zo zam l503) m a=some r→Wk Tryz.prog H Y 107 [.code (cp [1,1,1,1,0,1,0] (bodyOf Tryz.f107)),.blk 2,.code (cp [1,1,1,1,1] (bodyOf Tryz.f107))] (FinX Tryz.prog Tryz.f107 [] (eS r) []) ⟨[(2,.ptr 2 0),(3,.msl 503 l503.length),(6,.ptr 6 0),(7,i64 a.1)],[(2,⟨true,0,[bl zb,i64 zm,i64 zn,i64 zo,i64 zam,.nil]⟩),(6,⟨true,0,[bl a.2.1,i64 a.2.2.1,i64 a.2.2.2.1,i64 a.2.2.2.2.1,i64 a.2.2.2.2.2.1,.sl true 6 a.2.2.2.2.2.2.length ((eSol true).f a.2.2.2.2.2.2)]⟩),(503,⟨true,4,(ePl).f l503⟩)]⟩:=by
 refine loopN_ind (fun _rec1 hrec1 a r h=>?_)
 obtain⟨t7,zah,zai,zaj,zak,zal,zat⟩:=a
 unfold Dimpl_convex_1 at h
 refine x_frk 7 [] onil h (by kernel_rfl) (fun h=>?_) (fun h=>?_)
 ·obtain⟨v5,y5,h⟩:=bm h
  obtain⟨v6,y6,h⟩:=bm h
  obtain⟨v7,y7,h⟩:=bm h
  exact x_to 20 [(2,.unit),(0,.cells [i64 v5.A,i64 v5.B,i64 v5.C,i64 v5.D]),(1,.call [] [] (eS v6) []),(0,.call [] [] (eS v7) [])] (ocons (inr y5) (ocons (ldA ePl y5 0 4 rfl rfl) (ocons (Timpl_Leaf (Y:=Y) false _ y6) (ocons (Timpl_nodeo1o2 (Y:=Y) v5 (Sol.mk zah (Pl.mk zai zaj zak zal) zat) v6 _ y7) onil)))) (hrec1 (w64 (t7-1),v7.inn,v7.pl.A,v7.pl.B,v7.pl.C,v7.pl.D,v7.kids) r h) 
 ·replace h:=sj h;subst h
  exact x_end 6 [] [] onil onil 
def Dimpl_convex_0(n:Nat)(zb:Bool)(zm zn zo zam:Int)(l503:List Pl):Option Sol :=
 (Dimpl_Leaf true).bind fun v4=>loopN (Dimpl_convex_1 n zb zm zn zo zam l503) n (w64 ((l503.length:Int)-1),v4.inn,v4.pl.A,v4.pl.B,v4.pl.C,v4.pl.D,v4.kids)
theorem Timpl_convex_0{Y}(n:Nat)(zb:Bool)(zm zn zo zam:Int)(l503:List Pl)(r:Sol)(h:Dimpl_convex_0 n zb zm zn zo zam l503=some r):Wk Tryz.prog H Y 107 [.code (cp [1,1,1,0] (bodyOf Tryz.f107)),.code (cp [1,1,1,1] (bodyOf Tryz.f107))] (FinX Tryz.prog Tryz.f107 [] (eS r) []) ⟨[(2,.ptr 2 0),(3,.msl 503 l503.length)],[(2,⟨true,0,[bl zb,i64 zm,i64 zn,i64 zo,i64 zam,.nil]⟩),(503,⟨true,4,(ePl).f l503⟩)]⟩:=by
 unfold Dimpl_convex_0 at h
 obtain⟨v4,y4,h⟩:=bm h
 exact x_to 14 [(0,.call [] [] (eS v4) [])] (ocons (Timpl_Leaf (Y:=Y) true _ y4) onil) (Timpl_convex_1 n zb zm zn zo zam l503 n (w64 ((l503.length:Int)-1),v4.inn,v4.pl.A,v4.pl.B,v4.pl.C,v4.pl.D,v4.kids) r h) 
def Dimpl_convex_2(n:Nat)(t8:List Pl)(t9:Int)(zb:Bool)(zm zn zo zam:Int)(rec0:(Int×List Pl)→Option Sol)(a:(Int×List Pl)):Option Sol :=
 match a with
 | (t10,l503)=>frk (decide (t10<t9)) ((lget t8 t10).bind fun v0=>(Dimpl_flip v0).bind fun v1=>(Dimpl_room n l503 v1).bind fun v2=>frk v2 (chk (apB 32 (l503.length+1)) (rec0 (w64 (t10+1),(l503++[v0])))) (rec0 (w64 (t10+1),l503))) (Dimpl_convex_0 n zb zm zn zo zam l503)
theorem Timpl_convex_2{Y}(n:Nat)(t8:List Pl)(t9:Int)(zb:Bool)(zm zn zo zam:Int):∀(m:Nat) (a:(Int×List Pl)) (r:Sol),loopN (Dimpl_convex_2 n t8 t9 zb zm zn zo zam) m a=some r→Wk Tryz.prog H Y 107 [.code (cp [1,1,0,1,0] (bodyOf Tryz.f107)),.blk 0,.code (cp [1,1,1] (bodyOf Tryz.f107))] (FinX Tryz.prog Tryz.f107 [] (eS r) []) ⟨[(2,.ptr 2 0),(3,.msl 503 a.2.length),(8,.sl false 4 t8.length ((ePl).f t8)),(9,i64 t9),(10,i64 a.1)],[(2,⟨true,0,[bl zb,i64 zm,i64 zn,i64 zo,i64 zam,.nil]⟩),(503,⟨true,4,(ePl).f a.2⟩)]⟩:=by
 refine loopN_ind (fun _rec0 hrec0 a r h=>?_)
 obtain⟨t10,l503⟩:=a
 unfold Dimpl_convex_2 at h
 refine x_frk 6 [] onil h (by kernel_rfl) (fun h=>?_) (fun h=>?_)
 ·obtain⟨v0,y0,h⟩:=bm h
  obtain⟨v1,y1,h⟩:=bm h
  obtain⟨v2,y2,h⟩:=bm h
  refine x_frk 17 [(0,.val (.cptr (ePl.c v0++(ePl).f ((t8).drop (Int.toNat t10+1))))),(5,.call [] [] (.agg [i64 v1.A,i64 v1.B,i64 v1.C,i64 v1.D]) []),(0,.call [] [(ePl).f l503] (bl v2) [])] (ocons (ix ePl y0) (ocons (Timpl_flip (Y:=Y) v0 _ y1) (ocons (Timpl_room (Y:=Y) n l503 v1 _ y2) (ocons (len_row (L:=l503) ePl) (ocons (Enc.share ePl ePl sPl l503) onil))))) h (by kernel_rfl) (fun h=>?_) (fun h=>?_)
  ·obtain⟨c3,h⟩:=chk_some h
   exact x_to 14 [(3,.app false (List.length (l503++[v0])) ((ePl).f (l503++[v0]))),(3,.ren 21 503)] (ocons (len_row' (L:=l503) ePl) (ocons (app_one (L:=l503) (M:=[v0]) ePl c3) (ocons (app_new (L:=l503) (M:=[v0]) ePl) (ocons (app_m (L:=l503) (M:=[v0]) ePl rfl) (ocons (len_row' (L:=[v0]) ePl) (ocons (Enc.noOwn ePl (fun _=>rfl) [v0]) (ocons (show 21<1000∧503<1000 by decide) onil))))))) (hrec0 (w64 (t10+1),(l503++[v0])) r h) 
  ·exact x_to 7 [] onil (hrec0 (w64 (t10+1),l503) r h) 
 ·exact x_to 2 [] onil (Timpl_convex_0 n zb zm zn zo zam l503 r h) 
def Dimpl_convex(n:Nat)(a0:(List Pl)):Option Sol :=
 loopN (Dimpl_convex_2 n a0 (a0.length:Int) false 0 0 0 0) n (0,[])
theorem Timpl_convex{Y}(n:Nat)(a0:(List Pl))(r:Sol)(h:Dimpl_convex n a0=some r):Big Tryz.prog H Y (.call 107 [.sl false 4 a0.length ((ePl).f a0)] (lk []) (eS r) (lk [])):=by
 unfold Dimpl_convex at h
 refine x_call (fn:=Tryz.f107) (c:=bodyOf Tryz.f107) (bs0:=[]) Tryz.func107 (by kernel_rfl) (by kernel_rfl) ?_
 exact x_to 17 [(2,.virt 3 503 4)] (ocons (rflV .nil) (ocons (show 503<1000∧4≠0 by decide) onil)) (Timpl_convex_2 n a0 (a0.length:Int) false 0 0 0 0 n (0,[]) r h) 
def Dimpl_merger_leaf(a0:(Int×Int×Bool))(a1 a2:Bool):Option (Sol×(Int×Int×Bool)) :=
 frk (a0.1==1) (frk a1 ((Dimpl_Leaf a2).bind fun v0=>some (v0,a0)) ((Dimpl_Leaf false).bind fun v1=>some (v1,a0))) (frk (a0.1==2) (frk a1 ((Dimpl_Leaf true).bind fun v2=>some (v2,a0)) ((Dimpl_Leaf a2).bind fun v3=>some (v3,a0))) (frk (a0.1==3) (frk a1 ((Dimpl_Leaf (!a2)).bind fun v4=>some (v4,a0)) ((Dimpl_Leaf false).bind fun v5=>some (v5,a0))) ((Dimpl_Leaf (!(a1==a2))).bind fun v6=>some (v6,a0))))
theorem Timpl_merger_leaf{Y}(a0:(Int×Int×Bool))(a1 a2:Bool)(r:(Sol×(Int×Int×Bool)))(h:Dimpl_merger_leaf a0 a1 a2=some r):Big Tryz.prog H Y (.call 206 [.ptr 1000 0,bl a1,bl a2] (lk [(1000,⟨true,0,[i64 a0.1,i64 a0.2.1,bl a0.2.2]⟩)]) (eS r.1) (lk [(1000,⟨true,0,[i64 r.2.1,i64 r.2.2.1,bl r.2.2.2]⟩)])):=by
 unfold Dimpl_merger_leaf at h
 refine x_call (fn:=Tryz.f206) (c:=bodyOf Tryz.f206) (bs0:=[(1000,⟨true,0,[.bad,.bad,.bad]⟩)]) Tryz.func206 (by kernel_rfl) (by kernel_rfl) ?_
 refine x_frk 18 [] onil h (by kernel_rfl) (fun h=>?_) (fun h=>?_)
 ·refine x_frk 4 [] onil h (by kernel_rfl) (fun h=>?_) (fun h=>?_)
  ·obtain⟨v0,y0,h⟩:=bm h
   replace h:=sj h;subst h
   exact x_end 5 [(2,.call [] [] (eS v0) [])] [] (ocons (Timpl_Leaf (Y:=Y) a2 _ y0) onil) onil 
  ·obtain⟨v1,y1,h⟩:=bm h
   replace h:=sj h;subst h
   exact x_end 5 [(2,.call [] [] (eS v1) [])] [] (ocons (Timpl_Leaf (Y:=Y) false _ y1) onil) onil 
 ·refine x_frk 5 [] onil h (by kernel_rfl) (fun h=>?_) (fun h=>?_)
  ·refine x_frk 4 [] onil h (by kernel_rfl) (fun h=>?_) (fun h=>?_)
   ·obtain⟨v2,y2,h⟩:=bm h
    replace h:=sj h;subst h
    exact x_end 5 [(2,.call [] [] (eS v2) [])] [] (ocons (Timpl_Leaf (Y:=Y) true _ y2) onil) onil 
   ·obtain⟨v3,y3,h⟩:=bm h
    replace h:=sj h;subst h
    exact x_end 5 [(2,.call [] [] (eS v3) [])] [] (ocons (Timpl_Leaf (Y:=Y) a2 _ y3) onil) onil 
  ·refine x_frk 5 [] onil h (by kernel_rfl) (fun h=>?_) (fun h=>?_)
   ·refine x_frk 4 [] onil h (by kernel_rfl) (fun h=>?_) (fun h=>?_)
    ·obtain⟨v4,y4,h⟩:=bm h
     replace h:=sj h;subst h
     exact x_end 6 [(3,.call [] [] (eS v4) [])] [] (ocons (Timpl_Leaf (Y:=Y) (!a2) _ y4) onil) onil 
    ·obtain⟨v5,y5,h⟩:=bm h
     replace h:=sj h;subst h
     exact x_end 6 [(3,.call [] [] (eS v5) [])] [] (ocons (Timpl_Leaf (Y:=Y) false _ y5) onil) onil 
   ·obtain⟨v6,y6,h⟩:=bm h
    replace h:=sj h;subst h
    exact x_end 10 [(3,.call [] [] (eS v6) [])] [] (ocons (Timpl_Leaf (Y:=Y) (!(a1==a2)) _ y6) onil) onil 
def Dimpl_merger_joino2o3_1(zx zy zz zaa:Int)(zah:Bool)(zai zaj zak zal:Int)(zat:List Sol)(zab:Bool)(zac zad zbd zbe:Int)(zbf:List Sol)(_zg:Bool)(_zh _zi _zj _zas zp zq:Int)(zr:Bool):Option (Sol×(Int×Int×Bool)) :=
 (Dimpl_nodeo1o2 (Pl.mk zx zy zz zaa) (Sol.mk zah (Pl.mk zai zaj zak zal) zat) (Sol.mk zab (Pl.mk zac zad zbd zbe) zbf)).bind fun v3=>some (v3,(zp,zq,zr))
theorem Timpl_merger_joino2o3_1{Y}(zx zy zz zaa:Int)(zah:Bool)(zai zaj zak zal:Int)(zat:List Sol)(zab:Bool)(zac zad zbd zbe:Int)(zbf:List Sol)(zg:Bool)(zh zi zj zas zp zq:Int)(zr:Bool)(r:(Sol×(Int×Int×Bool)))(h:Dimpl_merger_joino2o3_1 zx zy zz zaa zah zai zaj zak zal zat zab zac zad zbd zbe zbf zg zh zi zj zas zp zq zr=some r):Wk Tryz.prog H Y 184 [.code (cp [1,1,1,1,0] (bodyOf Tryz.f184)),.code (cp [1,1,1,1,1] (bodyOf Tryz.f184))] (FinX Tryz.prog Tryz.f184 [(1000,⟨true,0,[.bad,.bad,.bad]⟩)] (eS r.1) [(1000,⟨true,0,[i64 r.2.1,i64 r.2.2.1,bl r.2.2.2]⟩)]) ⟨[(5,.ptr 5 0),(6,.ptr 6 0),(7,.ptr 7 0),(8,.ptr 8 0)],[(5,⟨true,0,[i64 zx,i64 zy,i64 zz,i64 zaa]⟩),(6,⟨true,0,[bl zah,i64 zai,i64 zaj,i64 zak,i64 zal,.sl true 6 zat.length ((eSol true).f zat)]⟩),(7,⟨true,0,[bl zab,i64 zac,i64 zad,i64 zbd,i64 zbe,.sl true 6 zbf.length ((eSol true).f zbf)]⟩),(8,⟨true,0,[bl zg,i64 zh,i64 zi,i64 zj,i64 zas,.nil]⟩),(1000,⟨true,0,[i64 zp,i64 zq,bl zr]⟩)]⟩:=by
 unfold Dimpl_merger_joino2o3_1 at h
 obtain⟨v3,y3,h⟩:=bm h
 replace h:=sj h;subst h
 exact x_end 7 [(3,.call [] [] (eS v3) [])] [] (ocons (Timpl_nodeo1o2 (Y:=Y) (Pl.mk zx zy zz zaa) (Sol.mk zah (Pl.mk zai zaj zak zal) zat) (Sol.mk zab (Pl.mk zac zad zbd zbe) zbf) _ y3) onil) onil 
def Dimpl_merger_joino2o3_0(t19:Bool)(zx zy zz zaa:Int)(zah:Bool)(zai zaj zak zal:Int)(zat:List Sol)(zab:Bool)(zac zad zbd zbe:Int)(zbf:List Sol)(zg:Bool)(zh zi zj zas zp zq:Int)(zr:Bool):Option (Sol×(Int×Int×Bool)) :=
 frk t19 ((Dimpl_Leaf zah).bind fun v2=>some (v2,(zp,zq,zr))) (frk zr (Dimpl_merger_joino2o3_1 zx zy zz zaa zah zai zaj zak zal zat zab zac zad zbd zbe zbf zg zh zi zj zas zp (w64 (zq+1)) true) (Dimpl_merger_joino2o3_1 zx zy zz zaa zah zai zaj zak zal zat zab zac zad zbd zbe zbf zg zh zi zj zas zp (w64 (zq+1)) (decide ((w64 (zq+1))>300))))
theorem Timpl_merger_joino2o3_0{Y}(t19:Bool)(zx zy zz zaa:Int)(zah:Bool)(zai zaj zak zal:Int)(zat:List Sol)(zab:Bool)(zac zad zbd zbe:Int)(zbf:List Sol)(zg:Bool)(zh zi zj zas zp zq:Int)(zr:Bool)(r:(Sol×(Int×Int×Bool)))(h:Dimpl_merger_joino2o3_0 t19 zx zy zz zaa zah zai zaj zak zal zat zab zac zad zbd zbe zbf zg zh zi zj zas zp zq zr=some r):Wk Tryz.prog H Y 184 [.code (cp [1,0,1] (bodyOf Tryz.f184)),.code (cp [1,1] (bodyOf Tryz.f184))] (FinX Tryz.prog Tryz.f184 [(1000,⟨true,0,[.bad,.bad,.bad]⟩)] (eS r.1) [(1000,⟨true,0,[i64 r.2.1,i64 r.2.2.1,bl r.2.2.2]⟩)]) ⟨[(0,.ptr 1000 0),(5,.ptr 5 0),(6,.ptr 6 0),(7,.ptr 7 0),(8,.ptr 8 0),(19,bl t19)],[(5,⟨true,0,[i64 zx,i64 zy,i64 zz,i64 zaa]⟩),(6,⟨true,0,[bl zah,i64 zai,i64 zaj,i64 zak,i64 zal,.sl true 6 zat.length ((eSol true).f zat)]⟩),(7,⟨true,0,[bl zab,i64 zac,i64 zad,i64 zbd,i64 zbe,.sl true 6 zbf.length ((eSol true).f zbf)]⟩),(8,⟨true,0,[bl zg,i64 zh,i64 zi,i64 zj,i64 zas,.nil]⟩),(1000,⟨true,0,[i64 zp,i64 zq,bl zr]⟩)]⟩:=by
 unfold Dimpl_merger_joino2o3_0 at h
 refine x_frk 0 [] onil h (by kernel_rfl) (fun h=>?_) (fun h=>?_)
 ·obtain⟨v2,y2,h⟩:=bm h
  replace h:=sj h;subst h
  exact x_end 7 [(2,.call [] [] (eS v2) [])] [] (ocons (Timpl_Leaf (Y:=Y) zah _ y2) onil) onil 
 ·refine x_frk 20 [] onil h (by kernel_rfl) (fun h=>?_) (fun h=>?_)
  ·exact x_to 11 [] onil (Timpl_merger_joino2o3_1 zx zy zz zaa zah zai zaj zak zal zat zab zac zad zbd zbe zbf zg zh zi zj zas zp (w64 (zq+1)) true r h) 
  ·exact x_to 11 [] onil (Timpl_merger_joino2o3_1 zx zy zz zaa zah zai zaj zak zal zat zab zac zad zbd zbe zbf zg zh zi zj zas zp (w64 (zq+1)) (decide ((w64 (zq+1))>300)) r h) 
def Dimpl_merger_joino2o3_2(zx zy zz zaa:Int)(zah:Bool)(zai zaj zak zal:Int)(zat:List Sol)(zab:Bool)(zac zad zbd zbe:Int)(zbf:List Sol)(zg:Bool)(zh zi zj zas zp zq:Int)(zr:Bool):Option (Sol×(Int×Int×Bool)) :=
 frk zr (Dimpl_merger_joino2o3_1 zx zy zz zaa zah zai zaj zak zal zat zab zac zad zbd zbe zbf zg zh zi zj zas zp zq true) (Dimpl_merger_joino2o3_1 zx zy zz zaa zah zai zaj zak zal zat zab zac zad zbd zbe zbf zg zh zi zj zas zp zq (decide (zq>300)))
theorem Timpl_merger_joino2o3_2{Y}(zx zy zz zaa:Int)(zah:Bool)(zai zaj zak zal:Int)(zat:List Sol)(zab:Bool)(zac zad zbd zbe:Int)(zbf:List Sol)(zg:Bool)(zh zi zj zas zp zq:Int)(zr:Bool)(r:(Sol×(Int×Int×Bool)))(h:Dimpl_merger_joino2o3_2 zx zy zz zaa zah zai zaj zak zal zat zab zac zad zbd zbe zbf zg zh zi zj zas zp zq zr=some r):Wk Tryz.prog H Y 184 [.code (cp [1,1,1,0] (bodyOf Tryz.f184)),.code (cp [1,1,1,1] (bodyOf Tryz.f184))] (FinX Tryz.prog Tryz.f184 [(1000,⟨true,0,[.bad,.bad,.bad]⟩)] (eS r.1) [(1000,⟨true,0,[i64 r.2.1,i64 r.2.2.1,bl r.2.2.2]⟩)]) ⟨[(0,.ptr 1000 0),(5,.ptr 5 0),(6,.ptr 6 0),(7,.ptr 7 0),(8,.ptr 8 0)],[(5,⟨true,0,[i64 zx,i64 zy,i64 zz,i64 zaa]⟩),(6,⟨true,0,[bl zah,i64 zai,i64 zaj,i64 zak,i64 zal,.sl true 6 zat.length ((eSol true).f zat)]⟩),(7,⟨true,0,[bl zab,i64 zac,i64 zad,i64 zbd,i64 zbe,.sl true 6 zbf.length ((eSol true).f zbf)]⟩),(8,⟨true,0,[bl zg,i64 zh,i64 zi,i64 zj,i64 zas,.nil]⟩),(1000,⟨true,0,[i64 zp,i64 zq,bl zr]⟩)]⟩:=by
 unfold Dimpl_merger_joino2o3_2 at h
 refine x_frk 7 [] onil h (by kernel_rfl) (fun h=>?_) (fun h=>?_)
 ·exact x_to 11 [] onil (Timpl_merger_joino2o3_1 zx zy zz zaa zah zai zaj zak zal zat zab zac zad zbd zbe zbf zg zh zi zj zas zp zq true r h) 
 ·exact x_to 11 [] onil (Timpl_merger_joino2o3_1 zx zy zz zaa zah zai zaj zak zal zat zab zac zad zbd zbe zbf zg zh zi zj zas zp zq (decide (zq>300)) r h) 
def Dimpl_merger_joino2o3(a0:(Int×Int×Bool))(a1:Pl)(a2:Sol)(a3:Sol):Option (Sol×(Int×Int×Bool)) :=
 (Dimpl_Solid_isLeaf a2).bind fun v0=>frk v0 ((Dimpl_Solid_isLeaf a3).bind fun v1=>frk v1 (Dimpl_merger_joino2o3_0 (a2.inn==a3.inn) a1.A a1.B a1.C a1.D a2.inn a2.pl.A a2.pl.B a2.pl.C a2.pl.D a2.kids a3.inn a3.pl.A a3.pl.B a3.pl.C a3.pl.D a3.kids false 0 0 0 0 a0.1 a0.2.1 a0.2.2) (Dimpl_merger_joino2o3_2 a1.A a1.B a1.C a1.D a2.inn a2.pl.A a2.pl.B a2.pl.C a2.pl.D a2.kids a3.inn a3.pl.A a3.pl.B a3.pl.C a3.pl.D a3.kids false 0 0 0 0 a0.1 (w64 (a0.2.1+1)) a0.2.2)) (Dimpl_merger_joino2o3_2 a1.A a1.B a1.C a1.D a2.inn a2.pl.A a2.pl.B a2.pl.C a2.pl.D a2.kids a3.inn a3.pl.A a3.pl.B a3.pl.C a3.pl.D a3.kids false 0 0 0 0 a0.1 (w64 (a0.2.1+1)) a0.2.2)
theorem Timpl_merger_joino2o3{Y}(a0:(Int×Int×Bool))(a1:Pl)(a2:Sol)(a3:Sol)(r:(Sol×(Int×Int×Bool)))(h:Dimpl_merger_joino2o3 a0 a1 a2 a3=some r):Big Tryz.prog H Y (.call 184 [.ptr 1000 0,.agg [i64 a1.A,i64 a1.B,i64 a1.C,i64 a1.D],eS a2,eS a3] (lk [(1000,⟨true,0,[i64 a0.1,i64 a0.2.1,bl a0.2.2]⟩)]) (eS r.1) (lk [(1000,⟨true,0,[i64 r.2.1,i64 r.2.2.1,bl r.2.2.2]⟩)])):=by
 unfold Dimpl_merger_joino2o3 at h
 refine x_call (fn:=Tryz.f184) (c:=bodyOf Tryz.f184) (bs0:=[(1000,⟨true,0,[.bad,.bad,.bad]⟩)]) Tryz.func184 (by kernel_rfl) (by kernel_rfl) ?_
 obtain⟨v0,y0,h⟩:=bm h
 refine x_frk 12 [(4,.call [] [(eSol false).f a2.kids] (bl v0) [])] (ocons (Timpl_Solid_isLeaf (Y:=Y) a2 [] _ y0) (ocons (Enc.share (eSol true) (eSol false) (sSol true) a2.kids) onil)) h (by kernel_rfl) (fun h=>?_) (fun h=>?_)
 ·obtain⟨v1,y1,h⟩:=bm h
  refine x_frk 3 [(0,.call [] [(eSol false).f a3.kids] (bl v1) [])] (ocons (Timpl_Solid_isLeaf (Y:=Y) a3 [] _ y1) (ocons (Enc.share (eSol true) (eSol false) (sSol true) a3.kids) onil)) h (by kernel_rfl) (fun h=>?_) (fun h=>?_)
  ·exact x_to 7 [] onil (Timpl_merger_joino2o3_0 (a2.inn==a3.inn) a1.A a1.B a1.C a1.D a2.inn a2.pl.A a2.pl.B a2.pl.C a2.pl.D a2.kids a3.inn a3.pl.A a3.pl.B a3.pl.C a3.pl.D a3.kids false 0 0 0 0 a0.1 a0.2.1 a0.2.2 r h) 
  ·exact x_to 21 [] onil (Timpl_merger_joino2o3_2 a1.A a1.B a1.C a1.D a2.inn a2.pl.A a2.pl.B a2.pl.C a2.pl.D a2.kids a3.inn a3.pl.A a3.pl.B a3.pl.C a3.pl.D a3.kids false 0 0 0 0 a0.1 (w64 (a0.2.1+1)) a0.2.2 r h) 
 ·exact x_to 24 [] onil (Timpl_merger_joino2o3_2 a1.A a1.B a1.C a1.D a2.inn a2.pl.A a2.pl.B a2.pl.C a2.pl.D a2.kids a3.inn a3.pl.A a3.pl.B a3.pl.C a3.pl.D a3.kids false 0 0 0 0 a0.1 (w64 (a0.2.1+1)) a0.2.2 r h) 
def Dimpl_merger_take_b(n:Nat)(self1:((Int×Int×Bool)×Bool×Sol×(List Pl))→Option (Sol×(Int×Int×Bool)))(a:((Int×Int×Bool)×Bool×Sol×(List Pl))):Option (Sol×(Int×Int×Bool)) :=
 match a with
 | (a0,a1,a2,a3)=>frk a0.2.2 (some ((Sol.mk false (Pl.mk 0 0 0 0) []),a0)) ((Dimpl_Solid_isLeaf a2).bind fun v0=>frk v0 ((Dimpl_merger_leaf a0 a1 a2.inn).bind fun v1=>some v1) ((Dimpl_flip a2.pl).bind fun v2=>(Dimpl_room n a3 v2).bind fun v3=>frk (!v3) ((lget a2.kids 0).bind fun v4=>(self1 (a0,a1,v4,a3)).bind fun v5=>some v5) ((Dimpl_room n a3 a2.pl).bind fun v6=>frk (!v6) ((lget a2.kids 1).bind fun v7=>(self1 (a0,a1,v7,a3)).bind fun v8=>some v8) (frk (decide ((a3.length:Int)≥24)) (some ((Sol.mk false (Pl.mk 0 0 0 0) []),(a0.1,a0.2.1,true))) ((lget a2.kids 0).bind fun v9=>(Dimpl_with a3 a2.pl).bind fun v10=>(self1 (a0,a1,v9,v10)).bind fun v11=>(lget a2.kids 1).bind fun v12=>(Dimpl_with a3 v2).bind fun v13=>(self1 (v11.2,a1,v12,v13)).bind fun v14=>(Dimpl_merger_joino2o3 v14.2 a2.pl v11.1 v14.1).bind fun v15=>some v15)))))
def Dimpl_merger_take(n:Nat)(a0:(Int×Int×Bool))(a1:Bool)(a2:Sol)(a3:(List Pl)):Option (Sol×(Int×Int×Bool)):=loopN (Dimpl_merger_take_b n) n (a0,a1,a2,a3)
theorem Timpl_merger_take_b{Y}(n:Nat):∀(m:Nat) (a:((Int×Int×Bool)×Bool×Sol×(List Pl))) (r:(Sol×(Int×Int×Bool))),loopN (Dimpl_merger_take_b n) m a=some r→∀(_:Unit),Big Tryz.prog H Y (.call 183 [.ptr 1000 0,bl a.2.1,eF a.2.2.1,.sl false 4 a.2.2.2.length ((ePl).f a.2.2.2)] (lk [(1000,⟨true,0,[i64 a.1.1,i64 a.1.2.1,bl a.1.2.2]⟩)]) (eS r.1) (lk [(1000,⟨true,0,[i64 r.2.1,i64 r.2.2.1,bl r.2.2.2]⟩)])):=by
 refine loopN_ind (fun self1 hs a r h=>?_)
 have hself1:∀(a:((Int×Int×Bool)×Bool×Sol×(List Pl))) (r:(Sol×(Int×Int×Bool))),self1 a=some r→Big Tryz.prog H Y (.call 183 [.ptr 1000 0,bl a.2.1,eF a.2.2.1,.sl false 4 a.2.2.2.length ((ePl).f a.2.2.2)] (lk [(1000,⟨true,0,[i64 a.1.1,i64 a.1.2.1,bl a.1.2.2]⟩)]) (eS r.1) (lk [(1000,⟨true,0,[i64 r.2.1,i64 r.2.2.1,bl r.2.2.2]⟩)])):=fun a r h=>hs a r h ()
 intro _
 obtain⟨a0,a1,a2,a3⟩:=a
 unfold Dimpl_merger_take_b at h
 refine x_call (fn:=Tryz.f183) (c:=bodyOf Tryz.f183) (bs0:=[(1000,⟨true,0,[.bad,.bad,.bad]⟩)]) Tryz.func183 (by kernel_rfl) (by kernel_rfl) ?_
 refine x_frk 13 [] onil h (by kernel_rfl) (fun h=>?_) (fun h=>?_)
 ·replace h:=sj h;subst h
  exact x_end 5 [] [(true,6)] onil onil 
 ·obtain⟨v0,y0,h⟩:=bm h
  refine x_frk 6 [(0,.call [] [] (bl v0) [])] (ocons (Timpl_Solid_isLeaf (Y:=Y) a2 [] _ y0) onil) h (by kernel_rfl) (fun h=>?_) (fun h=>?_)
  ·obtain⟨v1,y1,h⟩:=bm h
   replace h:=sj h;subst h
   exact x_end 9 [(4,.call [] [] (eS v1.1) [(1000,⟨true,0,[i64 v1.2.1,i64 v1.2.2.1,bl v1.2.2.2]⟩)])] [] (ocons (Timpl_merger_leaf (Y:=Y) a0 a1 a2.inn _ y1) onil) onil 
  ·obtain⟨v2,y2,h⟩:=bm h
   obtain⟨v3,y3,h⟩:=bm h
   refine x_frk 19 [(2,.call [] [] (.agg [i64 v2.A,i64 v2.B,i64 v2.C,i64 v2.D]) []),(4,.call [] [] (bl v3) [])] (ocons (Timpl_flip (Y:=Y) a2.pl _ y2) (ocons (Timpl_room (Y:=Y) n a3 v2 _ y3) onil)) h (by kernel_rfl) (fun h=>?_) (fun h=>?_)
   ·obtain⟨v4,y4,h⟩:=bm h
    obtain⟨v5,y5,h⟩:=bm h
    replace h:=sj h;subst h
    exact x_end 12 [(4,.val (.cptr ((eSol false).c v4++(eSol false).f ((a2.kids).drop (Int.toNat 0+1))))),(2,.call [] [] (eS v5.1) [(1000,⟨true,0,[i64 v5.2.1,i64 v5.2.2.1,bl v5.2.2.2]⟩)])] [] (ocons (ix (eSol false) y4) (ocons (hself1 (a0,a1,v4,a3) _ y5) onil)) onil 
   ·obtain⟨v6,y6,h⟩:=bm h
    refine x_frk 9 [(3,.call [] [] (bl v6) [])] (ocons (Timpl_room (Y:=Y) n a3 a2.pl _ y6) onil) h (by kernel_rfl) (fun h=>?_) (fun h=>?_)
    ·obtain⟨v7,y7,h⟩:=bm h
     obtain⟨v8,y8,h⟩:=bm h
     replace h:=sj h;subst h
     exact x_end 12 [(4,.val (.cptr ((eSol false).c v7++(eSol false).f ((a2.kids).drop (Int.toNat 1+1))))),(2,.call [] [] (eS v8.1) [(1000,⟨true,0,[i64 v8.2.1,i64 v8.2.2.1,bl v8.2.2.2]⟩)])] [] (ocons (ix (eSol false) y7) (ocons (hself1 (a0,a1,v7,a3) _ y8) onil)) onil 
    ·refine x_frk 7 [] onil h (by kernel_rfl) (fun h=>?_) (fun h=>?_)
     ·replace h:=sj h;subst h
      exact x_end 12 [] [(true,6)] onil onil 
     ·obtain⟨v9,y9,h⟩:=bm h
      obtain⟨v10,y10,h⟩:=bm h
      obtain⟨v11,y11,h⟩:=bm h
      obtain⟨v12,y12,h⟩:=bm h
      obtain⟨v13,y13,h⟩:=bm h
      obtain⟨v14,y14,h⟩:=bm h
      obtain⟨v15,y15,h⟩:=bm h
      replace h:=sj h;subst h
      exact x_end 43 [(4,.val (.cptr ((eSol false).c v9++(eSol false).f ((a2.kids).drop (Int.toNat 0+1))))),(4,.call [] [] (.sl false 4 v10.length ((ePl).f v10)) []),(0,.call [] [] (eS v11.1) [(1000,⟨true,0,[i64 v11.2.1,i64 v11.2.2.1,bl v11.2.2.2]⟩)]),(6,.val (.cptr ((eSol false).c v12++(eSol false).f ((a2.kids).drop (Int.toNat 1+1))))),(3,.call [] [] (.sl false 4 v13.length ((ePl).f v13)) []),(0,.call [] [] (eS v14.1) [(1000,⟨true,0,[i64 v14.2.1,i64 v14.2.2.1,bl v14.2.2.2]⟩)]),(7,.call [] [] (eS v15.1) [(1000,⟨true,0,[i64 v15.2.1,i64 v15.2.2.1,bl v15.2.2.2]⟩)])] [] (ocons (ix (eSol false) y9) (ocons (shSl (L:=v10) ePl ePl sPl (Timpl_with (Y:=Y) a3 a2.pl _ y10)) (ocons (hself1 (a0,a1,v9,v10) _ y11) (ocons (ix (eSol false) y12) (ocons (shSl (L:=v13) ePl ePl sPl (Timpl_with (Y:=Y) a3 v2 _ y13)) (ocons (hself1 (v11.2,a1,v12,v13) _ y14) (ocons (Timpl_merger_joino2o3 (Y:=Y) v14.2 a2.pl v11.1 v14.1 _ y15) onil))))))) onil 
theorem Timpl_merger_take{Y}(n:Nat)(a0:(Int×Int×Bool))(a1:Bool)(a2:Sol)(a3:(List Pl))(r:(Sol×(Int×Int×Bool)))(h:Dimpl_merger_take n a0 a1 a2 a3=some r):Big Tryz.prog H Y (.call 183 [.ptr 1000 0,bl a1,eF a2,.sl false 4 a3.length ((ePl).f a3)] (lk [(1000,⟨true,0,[i64 a0.1,i64 a0.2.1,bl a0.2.2]⟩)]) (eS r.1) (lk [(1000,⟨true,0,[i64 r.2.1,i64 r.2.2.1,bl r.2.2.2]⟩)])):=Timpl_merger_take_b n n (a0,a1,a2,a3) r h ()
def Dimpl_merger_put_b(n:Nat)(self:((Int×Int×Bool)×Sol×Sol×(List Pl))→Option (Sol×(Int×Int×Bool)))(a:((Int×Int×Bool)×Sol×Sol×(List Pl))):Option (Sol×(Int×Int×Bool)) :=
 match a with
 | (a0,a1,a2,a3)=>frk a0.2.2 (some ((Sol.mk false (Pl.mk 0 0 0 0) []),a0)) ((Dimpl_Solid_isLeaf a1).bind fun v0=>frk v0 ((Dimpl_merger_take n a0 a1.inn a2 a3).bind fun v1=>some v1) ((lget a1.kids 0).bind fun v2=>(Dimpl_with a3 a1.pl).bind fun v3=>(self (a0,v2,a2,v3)).bind fun v4=>(lget a1.kids 1).bind fun v5=>(Dimpl_flip a1.pl).bind fun v6=>(Dimpl_with a3 v6).bind fun v7=>(self (v4.2,v5,a2,v7)).bind fun v8=>(Dimpl_merger_joino2o3 v8.2 a1.pl v4.1 v8.1).bind fun v9=>some v9))
def Dimpl_merger_put(n:Nat)(a0:(Int×Int×Bool))(a1:Sol)(a2:Sol)(a3:(List Pl)):Option (Sol×(Int×Int×Bool)):=loopN (Dimpl_merger_put_b n) n (a0,a1,a2,a3)
theorem Timpl_merger_put_b{Y}(n:Nat):∀(m:Nat) (a:((Int×Int×Bool)×Sol×Sol×(List Pl))) (r:(Sol×(Int×Int×Bool))),loopN (Dimpl_merger_put_b n) m a=some r→∀(_:Unit),Big Tryz.prog H Y (.call 147 [.ptr 1000 0,eF a.2.1,eF a.2.2.1,.sl false 4 a.2.2.2.length ((ePl).f a.2.2.2)] (lk [(1000,⟨true,0,[i64 a.1.1,i64 a.1.2.1,bl a.1.2.2]⟩)]) (eS r.1) (lk [(1000,⟨true,0,[i64 r.2.1,i64 r.2.2.1,bl r.2.2.2]⟩)])):=by
 refine loopN_ind (fun self hs a r h=>?_)
 have hself:∀(a:((Int×Int×Bool)×Sol×Sol×(List Pl))) (r:(Sol×(Int×Int×Bool))),self a=some r→Big Tryz.prog H Y (.call 147 [.ptr 1000 0,eF a.2.1,eF a.2.2.1,.sl false 4 a.2.2.2.length ((ePl).f a.2.2.2)] (lk [(1000,⟨true,0,[i64 a.1.1,i64 a.1.2.1,bl a.1.2.2]⟩)]) (eS r.1) (lk [(1000,⟨true,0,[i64 r.2.1,i64 r.2.2.1,bl r.2.2.2]⟩)])):=fun a r h=>hs a r h ()
 intro _
 obtain⟨a0,a1,a2,a3⟩:=a
 unfold Dimpl_merger_put_b at h
 refine x_call (fn:=Tryz.f147) (c:=bodyOf Tryz.f147) (bs0:=[(1000,⟨true,0,[.bad,.bad,.bad]⟩)]) Tryz.func147 (by kernel_rfl) (by kernel_rfl) ?_
 refine x_frk 14 [] onil h (by kernel_rfl) (fun h=>?_) (fun h=>?_)
 ·replace h:=sj h;subst h
  exact x_end 5 [] [(true,6)] onil onil 
 ·obtain⟨v0,y0,h⟩:=bm h
  refine x_frk 6 [(0,.call [] [] (bl v0) [])] (ocons (Timpl_Solid_isLeaf (Y:=Y) a1 [] _ y0) onil) h (by kernel_rfl) (fun h=>?_) (fun h=>?_)
  ·obtain⟨v1,y1,h⟩:=bm h
   replace h:=sj h;subst h
   exact x_end 10 [(5,.call [] [] (eS v1.1) [(1000,⟨true,0,[i64 v1.2.1,i64 v1.2.2.1,bl v1.2.2.2]⟩)])] [] (ocons (Timpl_merger_take (Y:=Y) n a0 a1.inn a2 a3 _ y1) onil) onil 
  ·obtain⟨v2,y2,h⟩:=bm h
   obtain⟨v3,y3,h⟩:=bm h
   obtain⟨v4,y4,h⟩:=bm h
   obtain⟨v5,y5,h⟩:=bm h
   obtain⟨v6,y6,h⟩:=bm h
   obtain⟨v7,y7,h⟩:=bm h
   obtain⟨v8,y8,h⟩:=bm h
   obtain⟨v9,y9,h⟩:=bm h
   replace h:=sj h;subst h
   exact x_end 44 [(3,.val (.cptr ((eSol false).c v2++(eSol false).f ((a1.kids).drop (Int.toNat 0+1))))),(5,.call [] [] (.sl false 4 v3.length ((ePl).f v3)) []),(0,.call [] [] (eS v4.1) [(1000,⟨true,0,[i64 v4.2.1,i64 v4.2.2.1,bl v4.2.2.2]⟩)]),(5,.val (.cptr ((eSol false).c v5++(eSol false).f ((a1.kids).drop (Int.toNat 1+1))))),(5,.call [] [] (.agg [i64 v6.A,i64 v6.B,i64 v6.C,i64 v6.D]) []),(0,.call [] [] (.sl false 4 v7.length ((ePl).f v7)) []),(0,.call [] [] (eS v8.1) [(1000,⟨true,0,[i64 v8.2.1,i64 v8.2.2.1,bl v8.2.2.2]⟩)]),(7,.call [] [] (eS v9.1) [(1000,⟨true,0,[i64 v9.2.1,i64 v9.2.2.1,bl v9.2.2.2]⟩)])] [] (ocons (ix (eSol false) y2) (ocons (shSl (L:=v3) ePl ePl sPl (Timpl_with (Y:=Y) a3 a1.pl _ y3)) (ocons (hself (a0,v2,a2,v3) _ y4) (ocons (ix (eSol false) y5) (ocons (Timpl_flip (Y:=Y) a1.pl _ y6) (ocons (shSl (L:=v7) ePl ePl sPl (Timpl_with (Y:=Y) a3 v6 _ y7)) (ocons (hself (v4.2,v5,a2,v7) _ y8) (ocons (Timpl_merger_joino2o3 (Y:=Y) v8.2 a1.pl v4.1 v8.1 _ y9) onil)))))))) onil 
theorem Timpl_merger_put{Y}(n:Nat)(a0:(Int×Int×Bool))(a1:Sol)(a2:Sol)(a3:(List Pl))(r:(Sol×(Int×Int×Bool)))(h:Dimpl_merger_put n a0 a1 a2 a3=some r):Big Tryz.prog H Y (.call 147 [.ptr 1000 0,eF a1,eF a2,.sl false 4 a3.length ((ePl).f a3)] (lk [(1000,⟨true,0,[i64 a0.1,i64 a0.2.1,bl a0.2.2]⟩)]) (eS r.1) (lk [(1000,⟨true,0,[i64 r.2.1,i64 r.2.2.1,bl r.2.2.2]⟩)])):=Timpl_merger_put_b n n (a0,a1,a2,a3) r h ()
def Dimpl_put(n:Nat)(a0:Sol)(a1:Sol)(a2:Int):Option (Sol×Bool) :=
 (Dimpl_merger_put n (a2,0,false) a0 a1 []).bind fun v0=>frk v0.2.2.2 ((Dimpl_Leaf false).bind fun v1=>some (v1,false)) (some (v0.1,true))
theorem Timpl_put{Y}(n:Nat)(a0:Sol)(a1:Sol)(a2:Int)(r:(Sol×Bool))(h:Dimpl_put n a0 a1 a2=some r):Big Tryz.prog H Y (.call 85 [eF a0,eF a1,i64 a2] (lk []) (.tup [eS r.1,bl r.2]) (lk [])):=by
 unfold Dimpl_put at h
 refine x_call (fn:=Tryz.f85) (c:=bodyOf Tryz.f85) (bs0:=[]) Tryz.func85 (by kernel_rfl) (by kernel_rfl) ?_
 obtain⟨v0,y0,h⟩:=bm h
 refine x_frk 28 [(10,.call [(false,4)] [] (eS v0.1) [(1000,⟨true,0,[i64 v0.2.1,i64 v0.2.2.1,bl v0.2.2.2]⟩)])] (ocons (Timpl_merger_put (Y:=Y) n (a2,0,false) a0 a1 [] _ y0) onil) h (by kernel_rfl) (fun h=>?_) (fun h=>?_)
 ·obtain⟨v1,y1,h⟩:=bm h
  replace h:=sj h;subst h
  exact x_end 6 [(0,.call [] [] (eS v1) [])] [] (ocons (Timpl_Leaf (Y:=Y) false _ y1) onil) onil 
 ·replace h:=sj h;subst h
  exact x_end 7 [] [] onil onil 
def Dimpl_Again_0(n:Nat)(t15:Int)(_zb:Bool)(_zm _zn _zo _zam:Int)(l14:List (List Pl))(rec0:(Int×Bool×Int×Int×Int×Int×List Sol)→Option (Sol×Bool))(a:(Int×Bool×Int×Int×Int×Int×List Sol)):Option (Sol×Bool) :=
 match a with
 | (t16,za,zu,zv,zw,zao,zap)=>frk (decide (t16<t15)) ((lget l14 t16).bind fun v4=>(Dimpl_convex n v4).bind fun v5=>(Dimpl_put n (Sol.mk za (Pl.mk zu zv zw zao) zap) v5 2).bind fun v6=>frk (!v6.2) ((Dimpl_Leaf false).bind fun v7=>some (v7,false)) ((Dimpl_tidy n v6.1).bind fun v8=>rec0 (w64 (t16+1),v8.inn,v8.pl.A,v8.pl.B,v8.pl.C,v8.pl.D,v8.kids))) (some ((Sol.mk za (Pl.mk zu zv zw zao) zap),true))
theorem Timpl_Again_0{Y}(n:Nat)(t15:Int)(zb:Bool)(zm zn zo zam:Int)(l14:List (List Pl)):∀(m:Nat) (a:(Int×Bool×Int×Int×Int×Int×List Sol)) (r:(Sol×Bool)),loopN (Dimpl_Again_0 n t15 zb zm zn zo zam l14) m a=some r→Wk Tryz.prog H Y 58 [.code (cp [1,1,1,0,1,0] (bodyOf Tryz.f58)),.blk 0,.code (cp [1,1,1,1] (bodyOf Tryz.f58))] (FinX Tryz.prog Tryz.f58 [] (.tup [eS r.1,bl r.2]) []) ⟨[(2,.ptr 2 0),(4,.ptr 4 0),(14,.msl 14 l14.length),(15,i64 t15),(16,i64 a.1)],[(2,⟨true,0,[bl zb,i64 zm,i64 zn,i64 zo,i64 zam,.nil]⟩),(4,⟨true,0,[bl a.2.1,i64 a.2.2.1,i64 a.2.2.2.1,i64 a.2.2.2.2.1,i64 a.2.2.2.2.2.1,.sl true 6 a.2.2.2.2.2.2.length ((eSol true).f a.2.2.2.2.2.2)]⟩),(14,⟨false,1,(ePls true).f l14⟩)]⟩:=by
 refine loopN_ind (fun _rec0 hrec0 a r h=>?_)
 obtain⟨t16,za,zu,zv,zw,zao,zap⟩:=a
 unfold Dimpl_Again_0 at h
 refine x_frk 6 [] onil h (by kernel_rfl) (fun h=>?_) (fun h=>?_)
 ·obtain⟨v4,y4,h⟩:=bm h
  obtain⟨v5,y5,h⟩:=bm h
  obtain⟨v6,y6,h⟩:=bm h
  refine x_frk 29 [(0,.unit),(0,.val (.sl true 4 v4.length ((ePl).f v4))),(0,.fix 19 (.sl false 4 v4.length ((ePl).f v4))),(1,.rows [(eSol false).f zap]),(1,.call [] [] (eS v5) []),(0,.call [] [(eSol false).f v5.kids] (.tup [eS v6.1,bl v6.2]) [])] (ocons (inr y4) (ocons (ld1 (ePls true) y4 0 rfl) (ocons (congrArg (AV.sl false 4 v4.length) (Enc.share ePl ePl sPl v4)) (ocons (Enc.share (eSol true) (eSol false) (sSol true) zap) (ocons (Timpl_convex (Y:=Y) n v4 _ y5) (ocons (Timpl_put (Y:=Y) n (Sol.mk za (Pl.mk zu zv zw zao) zap) v5 2 _ y6) (ocons (Enc.share (eSol true) (eSol false) (sSol true) v5.kids) onil))))))) h (by kernel_rfl) (fun h=>?_) (fun h=>?_)
  ·obtain⟨v7,y7,h⟩:=bm h
   replace h:=sj h;subst h
   exact x_end 6 [(0,.call [] [] (eS v7) [])] [] (ocons (Timpl_Leaf (Y:=Y) false _ y7) onil) onil 
  ·obtain⟨v8,y8,h⟩:=bm h
   exact x_to 12 [(0,.rows [(eSol false).f v6.1.kids]),(0,.call [] [] (eS v8) [])] (ocons (Enc.share (eSol true) (eSol false) (sSol true) v6.1.kids) (ocons (Timpl_tidy (Y:=Y) n v6.1 _ y8) onil)) (hrec0 (w64 (t16+1),v8.inn,v8.pl.A,v8.pl.B,v8.pl.C,v8.pl.D,v8.kids) r h) 
 ·replace h:=sj h;subst h
  exact x_end 7 [] [] onil onil 
def Dimpl_Again(n:Nat)(a0:Sol):Option (Sol×Bool) :=
 (Dimpl_SolidOk n a0).bind fun v0=>frk (!v0) ((Dimpl_Leaf false).bind fun v1=>some (v1,false)) ((Dimpl_Leaf false).bind fun v2=>(Dimpl_Solid_cells n a0 true []).bind fun v3=>loopN (Dimpl_Again_0 n (v3.length:Int) false 0 0 0 0 v3) n (0,v2.inn,v2.pl.A,v2.pl.B,v2.pl.C,v2.pl.D,v2.kids))
theorem Timpl_Again{Y}(n:Nat)(a0:Sol)(r:(Sol×Bool))(h:Dimpl_Again n a0=some r):Big Tryz.prog H Y (.call 58 [eF a0] (lk []) (.tup [eS r.1,bl r.2]) (lk [])):=by
 unfold Dimpl_Again at h
 refine x_call (fn:=Tryz.f58) (c:=bodyOf Tryz.f58) (bs0:=[]) Tryz.func58 (by kernel_rfl) (by kernel_rfl) ?_
 obtain⟨v0,y0,h⟩:=bm h
 refine x_frk 13 [(4,.call [] [] (bl v0) [])] (ocons (Timpl_SolidOk (Y:=Y) n a0 _ y0) onil) h (by kernel_rfl) (fun h=>?_) (fun h=>?_)
 ·obtain⟨v1,y1,h⟩:=bm h
  replace h:=sj h;subst h
  exact x_end 6 [(0,.call [] [] (eS v1) [])] [] (ocons (Timpl_Leaf (Y:=Y) false _ y1) onil) onil 
 ·obtain⟨v2,y2,h⟩:=bm h
  obtain⟨v3,y3,h⟩:=bm h
  exact x_to 15 [(0,.call [] [] (eS v2) []),(2,.call [(false,4)] [] (.sl true 1 v3.length ((ePls true).f v3)) [])] (ocons (Timpl_Leaf (Y:=Y) false _ y2) (ocons (Timpl_Solid_cells (Y:=Y) n a0 true [] [] _ y3) (ocons (show hasSh (.sl true 1 v3.length ((ePls true).f v3))=false by simp[hasSh,hasShL,nSh,nShI,nShB,nShP,nShT,nShN,nShPs]) onil))) (Timpl_Again_0 n (v3.length:Int) false 0 0 0 0 v3 n (0,v2.inn,v2.pl.A,v2.pl.B,v2.pl.C,v2.pl.D,v2.kids) r h) 
def Dspec_l8Cells_b(_n:Nat)(self:(Sol×Bool×(List Pl))→Option (List (List Pl)))(a:(Sol×Bool×(List Pl))):Option (List (List Pl)) :=
 match a with
 | (a0,a1,a2)=>(Dspec_l8Leaf a0).bind fun v0=>frk v0 (frk (a0.inn==a1) (chk (apB 32 (0+a2.length)) (some [([]++a2)])) (some [])) ((lget a0.kids 0).bind fun v2=>(Dspec_l8Path a2 a0.pl).bind fun v3=>(self (v2,a1,v3)).bind fun v4=>(lget a0.kids 1).bind fun v5=>(Dspec_l3Flip a0.pl).bind fun v6=>(Dspec_l8Path a2 v6).bind fun v7=>(self (v5,a1,v7)).bind fun v8=>chk (apB 24 (v4.length+v8.length)) (some (v4++v8)))
def Dspec_l8Cells(n:Nat)(a0:Sol)(a1:Bool)(a2:(List Pl)):Option (List (List Pl)):=loopN (Dspec_l8Cells_b n) n (a0,a1,a2)
theorem Tspec_l8Cells_b{Y}(n:Nat):∀(m:Nat) (a:(Sol×Bool×(List Pl))) (r:(List (List Pl))),loopN (Dspec_l8Cells_b n) m a=some r→∀(_:Unit),Big Tryz.prog H Y (.call 128 [eF a.1,bl a.2.1,.sl false 4 a.2.2.length ((ePl).f a.2.2)] (lk []) (.sl true 1 r.length ((ePls true).f r)) (lk [])):=by
 refine loopN_ind (fun self hs a r h=>?_)
 have hself:∀(a:(Sol×Bool×(List Pl))) (r:(List (List Pl))),self a=some r→Big Tryz.prog H Y (.call 128 [eF a.1,bl a.2.1,.sl false 4 a.2.2.length ((ePl).f a.2.2)] (lk []) (.sl true 1 r.length ((ePls true).f r)) (lk [])):=fun a r h=>hs a r h ()
 intro _
 obtain⟨a0,a1,a2⟩:=a
 unfold Dspec_l8Cells_b at h
 refine x_call (fn:=Tryz.f128) (c:=bodyOf Tryz.f128) (bs0:=[]) Tryz.func128 (by kernel_rfl) (by kernel_rfl) ?_
 obtain⟨v0,y0,h⟩:=bm h
 refine x_frk 11 [(3,.call [] [] (bl v0) [])] (ocons (Tspec_l8Leaf (Y:=Y) a0 _ y0) onil) h (by kernel_rfl) (fun h=>?_) (fun h=>?_)
 ·refine x_frk 8 [] onil h (by kernel_rfl) (fun h=>?_) (fun h=>?_)
  ·obtain⟨c1,h⟩:=chk_some h
   replace h:=sj h;subst h
   exact x_end 8 [(2,.app false (List.length ([]++a2)) ((ePl).f ([]++a2)))] [] (ocons (len_row' (L:=[]) ePl) (ocons (app_one (L:=[]) (M:=a2) ePl c1) (ocons (app_new (L:=[]) (M:=a2) ePl) (ocons (app_m (L:=[]) (M:=a2) ePl rfl) (ocons (len_row' (L:=a2) ePl) (ocons (len_row (L:=([]++a2)) ePl) onil)))))) (ocons (len_row (L:=[([]++a2)]) (ePls true)) onil) 
  ·replace h:=sj h;subst h
   exact x_end 6 [] [] onil (ocons (len_row (L:=[]) (ePls true)) onil) 
 ·obtain⟨v2,y2,h⟩:=bm h
  obtain⟨v3,y3,h⟩:=bm h
  obtain⟨v4,y4,h⟩:=bm h
  obtain⟨v5,y5,h⟩:=bm h
  obtain⟨v6,y6,h⟩:=bm h
  obtain⟨v7,y7,h⟩:=bm h
  obtain⟨v8,y8,h⟩:=bm h
  obtain⟨c9,h⟩:=chk_some h
  replace h:=sj h;subst h
  exact x_end 32 [(2,.val (.cptr ((eSol false).c v2++(eSol false).f ((a0.kids).drop (Int.toNat 0+1))))),(5,.call [] [] (.sl false 4 v3.length ((ePl).f v3)) []),(0,.call [] [] (.sl true 1 v4.length ((ePls true).f v4)) []),(4,.val (.cptr ((eSol false).c v5++(eSol false).f ((a0.kids).drop (Int.toNat 1+1))))),(5,.call [] [] (.agg [i64 v6.A,i64 v6.B,i64 v6.C,i64 v6.D]) []),(0,.call [] [] (.sl false 4 v7.length ((ePl).f v7)) []),(0,.call [] [] (.sl true 1 v8.length ((ePls true).f v8)) []),(0,.app true (List.length (v4++v8)) ((ePls true).f (v4++v8)))] [] (ocons (ix (eSol false) y2) (ocons (shSl (L:=v3) ePl ePl sPl (Tspec_l8Path (Y:=Y) a2 a0.pl _ y3)) (ocons (hself (v2,a1,v3) _ y4) (ocons (ix (eSol false) y5) (ocons (Tspec_l3Flip (Y:=Y) a0.pl _ y6) (ocons (shSl (L:=v7) ePl ePl sPl (Tspec_l8Path (Y:=Y) a2 v6 _ y7)) (ocons (hself (v5,a1,v7) _ y8) (ocons (len_row' (L:=v4) (ePls true)) (ocons (app_one (L:=v4) (M:=v8) (ePls true) c9) (ocons (app_new (L:=v4) (M:=v8) (ePls true)) (ocons (app_m (L:=v4) (M:=v8) (ePls true) rfl) (ocons (len_row' (L:=v8) (ePls true)) onil)))))))))))) (ocons (len_row (L:=(v4++v8)) (ePls true)) onil) 
theorem Tspec_l8Cells{Y}(n:Nat)(a0:Sol)(a1:Bool)(a2:(List Pl))(r:(List (List Pl)))(h:Dspec_l8Cells n a0 a1 a2=some r):Big Tryz.prog H Y (.call 128 [eF a0,bl a1,.sl false 4 a2.length ((ePl).f a2)] (lk []) (.sl true 1 r.length ((ePls true).f r)) (lk [])):=Tspec_l8Cells_b n n (a0,a1,a2) r h ()
def Dspec_SameTree_1(_n:Nat)(self1:(Sol×Sol)→Option Bool)(_zb:Bool)(_zm _zn _zo _zam:Int)(zan:List Sol)(_ze:Bool)(_zf _zs _zt _zax:Int)(zay:List Sol)(rec0:Int→Option Bool)(a:Int):Option Bool :=
 match a with
 | t5=>frk (decide (t5<(zan.length:Int))) ((lget zan t5).bind fun v0=>(lget zay t5).bind fun v1=>(self1 (v0,v1)).bind fun v2=>frk (!v2) (some false) (rec0 (w64 (t5+1)))) (some true)
theorem Tspec_SameTree_1{Y}(n:Nat)(self1:(Sol×Sol)→Option Bool)(hself1:∀(a:(Sol×Sol)) (r:Bool),self1 a=some r→Big Tryz.prog H Y (.call 173 [eF a.1,eF a.2] (lk []) (bl r) (lk [])))(zb:Bool)(zm zn zo zam:Int)(zan:List Sol)(ze:Bool)(zf zs zt zax:Int)(zay:List Sol):∀(m:Nat) (a:Int) (r:Bool),loopN (Dspec_SameTree_1 n self1 zb zm zn zo zam zan ze zf zs zt zax zay) m a=some r→Wk Tryz.prog H Y 173 [.code (cp [1,1,0,1,0] (bodyOf Tryz.f173)),.blk 0,.code (cp [1,1,1] (bodyOf Tryz.f173))] (FinX Tryz.prog Tryz.f173 [] (bl r) []) ⟨[(2,.ptr 2 0),(3,.ptr 3 0),(5,i64 a)],[(2,⟨true,0,[bl zb,i64 zm,i64 zn,i64 zo,i64 zam,.sl false 6 zan.length ((eSol false).f zan)]⟩),(3,⟨true,0,[bl ze,i64 zf,i64 zs,i64 zt,i64 zax,.sl false 6 zay.length ((eSol false).f zay)]⟩)]⟩:=by
 refine loopN_ind (fun _rec0 hrec0 a r h=>?_)
 obtain⟨t5,rfl⟩:∃x,x=a:=⟨a,rfl⟩
 unfold Dspec_SameTree_1 at h
 refine x_frk 10 [] onil h (by kernel_rfl) (fun h=>?_) (fun h=>?_)
 ·obtain⟨v0,y0,h⟩:=bm h
  obtain⟨v1,y1,h⟩:=bm h
  obtain⟨v2,y2,h⟩:=bm h
  refine x_frk 18 [(3,.val (.cptr ((eSol false).c v0++(eSol false).f ((zan).drop (Int.toNat t5+1))))),(4,.val (.cptr ((eSol false).c v1++(eSol false).f ((zay).drop (Int.toNat t5+1))))),(1,.call [] [] (bl v2) [])] (ocons (ix (eSol false) y0) (ocons (ix (eSol false) y1) (ocons (hself1 (v0,v1) _ y2) onil))) h (by kernel_rfl) (fun h=>?_) (fun h=>?_)
  ·replace h:=sj h;subst h
   exact x_end 4 [] [] onil onil 
  ·exact x_to 8 [] onil (hrec0 (w64 (t5+1)) r h) 
 ·replace h:=sj h;subst h
  exact x_end 5 [] [] onil onil 
def Dspec_SameTree_0(n:Nat)(self1:(Sol×Sol)→Option Bool)(t26 zb:Bool)(zm zn zo zam:Int)(zan:List Sol)(ze:Bool)(zf zs zt zax:Int)(zay:List Sol):Option Bool :=
 frk t26 (some false) (loopN (Dspec_SameTree_1 n self1 zb zm zn zo zam zan ze zf zs zt zax zay) n 0)
theorem Tspec_SameTree_0{Y}(n:Nat)(self1:(Sol×Sol)→Option Bool)(hself1:∀(a:(Sol×Sol)) (r:Bool),self1 a=some r→Big Tryz.prog H Y (.call 173 [eF a.1,eF a.2] (lk []) (bl r) (lk [])))(t26 zb:Bool)(zm zn zo zam:Int)(zan:List Sol)(ze:Bool)(zf zs zt zax:Int)(zay:List Sol)(r:Bool)(h:Dspec_SameTree_0 n self1 t26 zb zm zn zo zam zan ze zf zs zt zax zay=some r):Wk Tryz.prog H Y 173 [.code (cp [1,0,1] (bodyOf Tryz.f173)),.code (cp [1,1] (bodyOf Tryz.f173))] (FinX Tryz.prog Tryz.f173 [] (bl r) []) ⟨[(2,.ptr 2 0),(3,.ptr 3 0),(26,bl t26)],[(2,⟨true,0,[bl zb,i64 zm,i64 zn,i64 zo,i64 zam,.sl false 6 zan.length ((eSol false).f zan)]⟩),(3,⟨true,0,[bl ze,i64 zf,i64 zs,i64 zt,i64 zax,.sl false 6 zay.length ((eSol false).f zay)]⟩)]⟩:=by
 unfold Dspec_SameTree_0 at h
 refine x_frk 0 [] onil h (by kernel_rfl) (fun h=>?_) (fun h=>?_)
 ·replace h:=sj h;subst h
  exact x_end 4 [] [] onil onil 
 ·exact x_to 7 [] onil (Tspec_SameTree_1 n self1 hself1 zb zm zn zo zam zan ze zf zs zt zax zay n 0 r h) 
def Dspec_SameTree_b(n:Nat)(self1:(Sol×Sol)→Option Bool)(a:(Sol×Sol)):Option Bool :=
 match a with
 | (a0,a1)=>frk (!(a0.inn==a1.inn)) (some false) (frk (!(a0.pl.A==a1.pl.A&&(a0.pl.B==a1.pl.B&&(a0.pl.C==a1.pl.C&&(a0.pl.D==a1.pl.D&&true))))) (some false) (Dspec_SameTree_0 n self1 ((a0.kids.length:Int) != (a1.kids.length:Int)) a0.inn a0.pl.A a0.pl.B a0.pl.C a0.pl.D a0.kids a1.inn a1.pl.A a1.pl.B a1.pl.C a1.pl.D a1.kids))
def Dspec_SameTree(n:Nat)(a0:Sol)(a1:Sol):Option Bool:=loopN (Dspec_SameTree_b n) n (a0,a1)
theorem Tspec_SameTree_b{Y}(n:Nat):∀(m:Nat) (a:(Sol×Sol)) (r:Bool),loopN (Dspec_SameTree_b n) m a=some r→∀(_:Unit),Big Tryz.prog H Y (.call 173 [eF a.1,eF a.2] (lk []) (bl r) (lk [])):=by
 refine loopN_ind (fun self1 hs a r h=>?_)
 have hself1:∀(a:(Sol×Sol)) (r:Bool),self1 a=some r→Big Tryz.prog H Y (.call 173 [eF a.1,eF a.2] (lk []) (bl r) (lk [])):=fun a r h=>hs a r h ()
 intro _
 obtain⟨a0,a1⟩:=a
 unfold Dspec_SameTree_b at h
 refine x_call (fn:=Tryz.f173) (c:=bodyOf Tryz.f173) (bs0:=[]) Tryz.func173 (by kernel_rfl) (by kernel_rfl) ?_
 refine x_frk 15 [] onil h (by kernel_rfl) (fun h=>?_) (fun h=>?_)
 ·replace h:=sj h;subst h
  exact x_end 21 [] [] onil onil 
 ·refine x_frk 7 [] onil h (by kernel_rfl) (fun h=>?_) (fun h=>?_)
  ·replace h:=sj h;subst h
   exact x_end 14 [] [] onil onil 
  ·exact x_to 9 [] onil (Tspec_SameTree_0 n self1 hself1 ((a0.kids.length:Int) != (a1.kids.length:Int)) a0.inn a0.pl.A a0.pl.B a0.pl.C a0.pl.D a0.kids a1.inn a1.pl.A a1.pl.B a1.pl.C a1.pl.D a1.kids r h) 
theorem Tspec_SameTree{Y}(n:Nat)(a0:Sol)(a1:Sol)(r:Bool)(h:Dspec_SameTree n a0 a1=some r):Big Tryz.prog H Y (.call 173 [eF a0,eF a1] (lk []) (bl r) (lk [])):=Tspec_SameTree_b n n (a0,a1) r h ()
def Dspec_l12Tidy_b(n:Nat)(self:Sol→Option Sol)(a:Sol):Option Sol :=
 match a with
 | a0=>(Dspec_l8Leaf a0).bind fun v0=>frk v0 ((Dspec_Leaf a0.inn).bind fun v1=>some v1) ((lget a0.kids 0).bind fun v2=>(self v2).bind fun v3=>(lget a0.kids 1).bind fun v4=>(self v4).bind fun v5=>(Dspec_SameTree n v3 v5).bind fun v6=>frk v6 (some v3) ((Dspec_l8Nodeo1o2 a0.pl v3 v5).bind fun v7=>some v7))
def Dspec_l12Tidy(n:Nat)(a0:Sol):Option Sol:=loopN (Dspec_l12Tidy_b n) n a0
theorem Tspec_l12Tidy_b{Y}(n:Nat):∀(m:Nat) (a:Sol) (r:Sol),loopN (Dspec_l12Tidy_b n) m a=some r→∀(_:Unit),Big Tryz.prog H Y (.call 129 [eF a] (lk []) (eS r) (lk [])):=by
 refine loopN_ind (fun self hs a r h=>?_)
 have hself:∀(a:Sol) (r:Sol),self a=some r→Big Tryz.prog H Y (.call 129 [eF a] (lk []) (eS r) (lk [])):=fun a r h=>hs a r h ()
 intro _
 obtain⟨a0,rfl⟩:∃x,x=a:=⟨a,rfl⟩
 unfold Dspec_l12Tidy_b at h
 refine x_call (fn:=Tryz.f129) (c:=bodyOf Tryz.f129) (bs0:=[]) Tryz.func129 (by kernel_rfl) (by kernel_rfl) ?_
 obtain⟨v0,y0,h⟩:=bm h
 refine x_frk 11 [(3,.call [] [] (bl v0) [])] (ocons (Tspec_l8Leaf (Y:=Y) a0 _ y0) onil) h (by kernel_rfl) (fun h=>?_) (fun h=>?_)
 ·obtain⟨v1,y1,h⟩:=bm h
  replace h:=sj h;subst h
  exact x_end 7 [(2,.call [] [] (eS v1) [])] [] (ocons (Tspec_Leaf (Y:=Y) a0.inn _ y1) onil) onil 
 ·obtain⟨v2,y2,h⟩:=bm h
  obtain⟨v3,y3,h⟩:=bm h
  obtain⟨v4,y4,h⟩:=bm h
  obtain⟨v5,y5,h⟩:=bm h
  obtain⟨v6,y6,h⟩:=bm h
  refine x_frk 28 [(2,.val (.cptr ((eSol false).c v2++(eSol false).f ((a0.kids).drop (Int.toNat 0+1))))),(1,.call [] [] (eS v3) []),(4,.val (.cptr ((eSol false).c v4++(eSol false).f ((a0.kids).drop (Int.toNat 1+1))))),(1,.call [] [] (eS v5) []),(2,.rows [(eSol false).f v3.kids]),(0,.rows [(eSol false).f v5.kids]),(0,.call [] [] (bl v6) [])] (ocons (ix (eSol false) y2) (ocons (hself v2 _ y3) (ocons (ix (eSol false) y4) (ocons (hself v4 _ y5) (ocons (Enc.share (eSol true) (eSol false) (sSol true) v3.kids) (ocons (Enc.share (eSol true) (eSol false) (sSol true) v5.kids) (ocons (Tspec_SameTree (Y:=Y) n v3 v5 _ y6) onil))))))) h (by kernel_rfl) (fun h=>?_) (fun h=>?_)
  ·replace h:=sj h;subst h
   exact x_end 5 [] [] onil onil 
  ·obtain⟨v7,y7,h⟩:=bm h
   replace h:=sj h;subst h
   exact x_end 10 [(4,.call [] [] (eS v7) [])] [] (ocons (Tspec_l8Nodeo1o2 (Y:=Y) a0.pl v3 v5 _ y7) onil) onil 
theorem Tspec_l12Tidy{Y}(n:Nat)(a0:Sol)(r:Sol)(h:Dspec_l12Tidy n a0=some r):Big Tryz.prog H Y (.call 129 [eF a0] (lk []) (eS r) (lk [])):=Tspec_l12Tidy_b n n a0 r h ()
def Dspec_Again_0(n:Nat)(_zb:Bool)(_zm _zn _zo _zam:Int)(l18:List (List Pl))(rec0:(Int×Bool×Int×Int×Int×Int×List Sol)→Option (Sol×Bool))(a:(Int×Bool×Int×Int×Int×Int×List Sol)):Option (Sol×Bool) :=
 match a with
 | (t6,za,zu,zv,zw,zao,zap)=>frk (decide (t6<(l18.length:Int))) ((lget l18 t6).bind fun v3=>(Dspec_Convex n v3).bind fun v4=>(Dspec_Put n (Sol.mk za (Pl.mk zu zv zw zao) zap) v4.1 2).bind fun v5=>frk (!v5.2) ((Dspec_Leaf false).bind fun v6=>some (v6,false)) ((Dspec_l12Tidy n v5.1).bind fun v7=>rec0 (w64 (t6+1),v7.inn,v7.pl.A,v7.pl.B,v7.pl.C,v7.pl.D,v7.kids))) (some ((Sol.mk za (Pl.mk zu zv zw zao) zap),true))
theorem Tspec_Again_0{Y}(n:Nat)(zb:Bool)(zm zn zo zam:Int)(l18:List (List Pl)):∀(m:Nat) (a:(Int×Bool×Int×Int×Int×Int×List Sol)) (r:(Sol×Bool)),loopN (Dspec_Again_0 n zb zm zn zo zam l18) m a=some r→Wk Tryz.prog H Y 59 [.code (cp [1,1,1,1,0,1,0] (bodyOf Tryz.f59)),.blk 0,.code (cp [1,1,1,1,1] (bodyOf Tryz.f59))] (FinX Tryz.prog Tryz.f59 [] (.tup [eS r.1,bl r.2]) []) ⟨[(2,.ptr 2 0),(4,.ptr 4 0),(5,.msl 18 l18.length),(6,i64 a.1)],[(2,⟨true,0,[bl zb,i64 zm,i64 zn,i64 zo,i64 zam,.nil]⟩),(4,⟨true,0,[bl a.2.1,i64 a.2.2.1,i64 a.2.2.2.1,i64 a.2.2.2.2.1,i64 a.2.2.2.2.2.1,.sl true 6 a.2.2.2.2.2.2.length ((eSol true).f a.2.2.2.2.2.2)]⟩),(18,⟨false,1,(ePls true).f l18⟩)]⟩:=by
 refine loopN_ind (fun _rec0 hrec0 a r h=>?_)
 obtain⟨t6,za,zu,zv,zw,zao,zap⟩:=a
 unfold Dspec_Again_0 at h
 refine x_frk 9 [] onil h (by kernel_rfl) (fun h=>?_) (fun h=>?_)
 ·obtain⟨v3,y3,h⟩:=bm h
  obtain⟨v4,y4,h⟩:=bm h
  obtain⟨v5,y5,h⟩:=bm h
  refine x_frk 36 [(2,.unit),(0,.val (.sl true 4 v3.length ((ePl).f v3))),(0,.fix 29 (.sl false 4 v3.length ((ePl).f v3))),(0,.call [] [] (.tup [eS v4.1,i64 v4.2]) []),(6,.rows [(eSol false).f zap]),(0,.rows [(eSol false).f v4.1.kids]),(0,.call [] [] (.tup [eS v5.1,bl v5.2]) [])] (ocons (inr y3) (ocons (ld1 (ePls true) y3 0 rfl) (ocons (congrArg (AV.sl false 4 v3.length) (Enc.share ePl ePl sPl v3)) (ocons (Tspec_Convex (Y:=Y) n v3 _ y4) (ocons (Enc.share (eSol true) (eSol false) (sSol true) zap) (ocons (Enc.share (eSol true) (eSol false) (sSol true) v4.1.kids) (ocons (Tspec_Put (Y:=Y) n (Sol.mk za (Pl.mk zu zv zw zao) zap) v4.1 2 _ y5) onil))))))) h (by kernel_rfl) (fun h=>?_) (fun h=>?_)
  ·obtain⟨v6,y6,h⟩:=bm h
   replace h:=sj h;subst h
   exact x_end 6 [(0,.call [] [] (eS v6) [])] [] (ocons (Tspec_Leaf (Y:=Y) false _ y6) onil) onil 
  ·obtain⟨v7,y7,h⟩:=bm h
   exact x_to 13 [(0,.rows [(eSol false).f v5.1.kids]),(0,.call [] [] (eS v7) [])] (ocons (Enc.share (eSol true) (eSol false) (sSol true) v5.1.kids) (ocons (Tspec_l12Tidy (Y:=Y) n v5.1 _ y7) onil)) (hrec0 (w64 (t6+1),v7.inn,v7.pl.A,v7.pl.B,v7.pl.C,v7.pl.D,v7.kids) r h) 
 ·replace h:=sj h;subst h
  exact x_end 7 [] [] onil onil 
def Dspec_Again(n:Nat)(a0:Sol):Option (Sol×Bool) :=
 (Dspec_Leaf false).bind fun v0=>(Dspec_SolidOk n a0).bind fun v1=>frk (!v1) (some (v0,false)) ((Dspec_l8Cells n a0 true []).bind fun v2=>loopN (Dspec_Again_0 n false 0 0 0 0 v2) n (0,v0.inn,v0.pl.A,v0.pl.B,v0.pl.C,v0.pl.D,v0.kids))
theorem Tspec_Again{Y}(n:Nat)(a0:Sol)(r:(Sol×Bool))(h:Dspec_Again n a0=some r):Big Tryz.prog H Y (.call 59 [eF a0] (lk []) (.tup [eS r.1,bl r.2]) (lk [])):=by
 unfold Dspec_Again at h
 refine x_call (fn:=Tryz.f59) (c:=bodyOf Tryz.f59) (bs0:=[]) Tryz.func59 (by kernel_rfl) (by kernel_rfl) ?_
 obtain⟨v0,y0,h⟩:=bm h
 obtain⟨v1,y1,h⟩:=bm h
 refine x_frk 19 [(3,.call [] [] (eS v0) []),(3,.call [] [] (bl v1) [])] (ocons (Tspec_Leaf (Y:=Y) false _ y0) (ocons (Tspec_SolidOk (Y:=Y) n a0 _ y1) onil)) h (by kernel_rfl) (fun h=>?_) (fun h=>?_)
 ·replace h:=sj h;subst h
  exact x_end 6 [] [] onil onil 
 ·obtain⟨v2,y2,h⟩:=bm h
  exact x_to 14 [(2,.call [] [(ePl).f []] (.sl true 1 v2.length ((ePls true).f v2)) [])] (ocons (Tspec_l8Cells (Y:=Y) n a0 true [] _ y2) (ocons (len_row (L:=[]) ePl) (ocons (Enc.share ePl ePl sPl []) (ocons (show hasSh (.sl true 1 v2.length ((ePls true).f v2))=false by simp[hasSh,hasShL,nSh,nShI,nShB,nShP,nShT,nShN,nShPs]) onil)))) (Tspec_Again_0 n false 0 0 0 0 v2 n (0,v0.inn,v0.pl.A,v0.pl.B,v0.pl.C,v0.pl.D,v0.kids) r h) 
def Dimpl_isOp(a0:Int):Option Bool :=
 (Dimpl_inRange a0 1 4).bind fun v0=>some v0
theorem Timpl_isOp{Y}(a0:Int)(r:Bool)(h:Dimpl_isOp a0=some r):Big Tryz.prog H Y (.call 84 [i64 a0] (lk []) (bl r) (lk [])):=by
 unfold Dimpl_isOp at h
 refine x_call (fn:=Tryz.f84) (c:=bodyOf Tryz.f84) (bs0:=[]) Tryz.func84 (by kernel_rfl) (by kernel_rfl) ?_
 obtain⟨v0,y0,h⟩:=bm h
 replace h:=sj h;subst h
 exact x_end 10 [(2,.call [] [] (bl v0) [])] [] (ocons (Timpl_inRange (Y:=Y) a0 1 4 _ y0) onil) onil 
end Evl.T
