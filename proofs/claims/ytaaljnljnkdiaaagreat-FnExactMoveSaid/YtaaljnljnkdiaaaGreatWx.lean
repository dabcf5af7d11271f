
/- Walks. No condition. -/
import Derived.Test.YtaaljnljnkdiaaaGreatWy
namespace Evl.T
open Go Evl Go.Proofs
set_option maxRecDepth 100000
def Dspec_l8Nodeo1o2(a0:Pl)(a1:Sol)(a2:Sol):Option Sol :=
 some (Sol.mk false a0 [a1,a2])
theorem Tspec_l8Nodeo1o2{Y}(a0:Pl)(a1:Sol)(a2:Sol)(r:Sol)(h:Dspec_l8Nodeo1o2 a0 a1 a2=some r):Big Tryz.prog H Y (.call 122 [.agg [i64 a0.A,i64 a0.B,i64 a0.C,i64 a0.D],eS a1,eS a2] (lk []) (eS r) (lk [])):=by
 unfold Dspec_l8Nodeo1o2 at h
 refine x_call (fn:=Tryz.f122) (c:=bodyOf Tryz.f122) (bs0:=[]) Tryz.func122 (by kernel_rfl) (by kernel_rfl) ?_
 replace h:=sj h;subst h
 exact x_end 17 [(8,.fixb 10 ⟨true,6,(eSol true).f [a1,a2]⟩)] [] (ocons (boxSol true true [a1,a2]) onil) (ocons (len_row (L:=[a1,a2]) (eSol true)) onil) 
def Dspec_l16Shift_b(n:Nat)(self:(Sol×Pt)→Option (Sol×Bool))(a:(Sol×Pt)):Option (Sol×Bool) :=
 match a with
 | (a0,a1)=>(Dspec_l8Leaf a0).bind fun v0=>frk v0 ((Dspec_Leaf a0.inn).bind fun v1=>some (v1,true)) ((Dspec_Shifted n a0.pl a1).bind fun v2=>(lget a0.kids 0).bind fun v3=>(self (v3,a1)).bind fun v4=>(lget a0.kids 1).bind fun v5=>(self (v5,a1)).bind fun v6=>(Dspec_l8Nodeo1o2 v2.1 v4.1 v6.1).bind fun v7=>frk (v2.2==0) (frk v4.2 (some (v7,v6.2)) (some (v7,false))) (some (v7,false)))
def Dspec_l16Shift(n:Nat)(a0:Sol)(a1:Pt):Option (Sol×Bool):=loopN (Dspec_l16Shift_b n) n (a0,a1)
theorem Tspec_l16Shift_b{Y}(n:Nat):∀(m:Nat) (a:(Sol×Pt)) (r:(Sol×Bool)),loopN (Dspec_l16Shift_b n) m a=some r→∀(_:Unit),Big Tryz.prog H Y (.call 131 [eF a.1,.agg [i64 a.2.X,i64 a.2.Y,i64 a.2.Z]] (lk []) (.tup [eS r.1,bl r.2]) (lk [])):=by
 refine loopN_ind (fun self hs a r h=>?_)
 have hself:∀(a:(Sol×Pt)) (r:(Sol×Bool)),self a=some r→Big Tryz.prog H Y (.call 131 [eF a.1,.agg [i64 a.2.X,i64 a.2.Y,i64 a.2.Z]] (lk []) (.tup [eS r.1,bl r.2]) (lk [])):=fun a r h=>hs a r h ()
 intro _
 obtain⟨a0,a1⟩:=a
 unfold Dspec_l16Shift_b at h
 refine x_call (fn:=Tryz.f131) (c:=bodyOf Tryz.f131) (bs0:=[]) Tryz.func131 (by kernel_rfl) (by kernel_rfl) ?_
 obtain⟨v0,y0,h⟩:=bm h
 refine x_frk 13 [(5,.call [] [] (bl v0) [])] (ocons (Tspec_l8Leaf (Y:=Y) a0 _ y0) onil) h (by kernel_rfl) (fun h=>?_) (fun h=>?_)
 ·obtain⟨v1,y1,h⟩:=bm h
  replace h:=sj h;subst h
  exact x_end 8 [(2,.call [] [] (eS v1) [])] [] (ocons (Tspec_Leaf (Y:=Y) a0.inn _ y1) onil) onil 
 ·obtain⟨v2,y2,h⟩:=bm h
  obtain⟨v3,y3,h⟩:=bm h
  obtain⟨v4,y4,h⟩:=bm h
  obtain⟨v5,y5,h⟩:=bm h
  obtain⟨v6,y6,h⟩:=bm h
  obtain⟨v7,y7,h⟩:=bm h
  refine x_frk 53 [(3,.call [] [] (.tup [.agg [i64 v2.1.A,i64 v2.1.B,i64 v2.1.C,i64 v2.1.D],i64 v2.2]) []),(8,.val (.cptr ((eSol false).c v3++(eSol false).f ((a0.kids).drop (Int.toNat 0+1))))),(2,.call [] [] (.tup [eS v4.1,bl v4.2]) []),(8,.val (.cptr ((eSol false).c v5++(eSol false).f ((a0.kids).drop (Int.toNat 1+1))))),(2,.call [] [] (.tup [eS v6.1,bl v6.2]) []),(9,.call [] [] (eS v7) [])] (ocons (Tspec_Shifted (Y:=Y) n a0.pl a1 _ y2) (ocons (ix (eSol false) y3) (ocons (hself (v3,a1) _ y4) (ocons (ix (eSol false) y5) (ocons (hself (v5,a1) _ y6) (ocons (Tspec_l8Nodeo1o2 (Y:=Y) v2.1 v4.1 v6.1 _ y7) onil)))))) h (by kernel_rfl) (fun h=>?_) (fun h=>?_)
  ·refine x_frk 3 [] onil h (by kernel_rfl) (fun h=>?_) (fun h=>?_)
   ·replace h:=sj h;subst h
    exact x_end 5 [] [] onil onil 
   ·replace h:=sj h;subst h
    exact x_end 5 [] [] onil onil 
  ·replace h:=sj h;subst h
   exact x_end 8 [] [] onil onil 
theorem Tspec_l16Shift{Y}(n:Nat)(a0:Sol)(a1:Pt)(r:(Sol×Bool))(h:Dspec_l16Shift n a0 a1=some r):Big Tryz.prog H Y (.call 131 [eF a0,.agg [i64 a1.X,i64 a1.Y,i64 a1.Z]] (lk []) (.tup [eS r.1,bl r.2]) (lk [])):=Tspec_l16Shift_b n n (a0,a1) r h ()
def Dspec_ShiftSolid_0(n:Nat)(t15 za:Bool)(zb zc zd ze:Int)(zf:List Sol)(zg zh zi:Int)(_zk:Bool)(_zl _zm _zn _zal:Int):Option (Sol×Int) :=
 frk t15 (some ((Sol.mk false (Pl.mk 0 0 0 0) []),1)) ((Dspec_l16Shift n (Sol.mk za (Pl.mk zb zc zd ze) zf) (Pt.mk zg zh zi)).bind fun v2=>frk (!v2.2) (some ((Sol.mk false (Pl.mk 0 0 0 0) []),3)) (some (v2.1,0)))
theorem Tspec_ShiftSolid_0{Y}(n:Nat)(t15 za:Bool)(zb zc zd ze:Int)(zf:List Sol)(zg zh zi:Int)(zk:Bool)(zl zm zn zal:Int)(r:(Sol×Int))(h:Dspec_ShiftSolid_0 n t15 za zb zc zd ze zf zg zh zi zk zl zm zn zal=some r):Wk Tryz.prog H Y 70 [.code (cp [1,0,1] (bodyOf Tryz.f70)),.code (cp [1,1] (bodyOf Tryz.f70))] (FinX Tryz.prog Tryz.f70 [] (.tup [eS r.1,i64 r.2]) []) ⟨[(2,.ptr 2 0),(3,.ptr 3 0),(4,.ptr 4 0),(15,bl t15)],[(2,⟨true,0,[bl za,i64 zb,i64 zc,i64 zd,i64 ze,.sl false 6 zf.length ((eSol false).f zf)]⟩),(3,⟨true,0,[i64 zg,i64 zh,i64 zi]⟩),(4,⟨true,0,[bl zk,i64 zl,i64 zm,i64 zn,i64 zal,.nil]⟩)]⟩:=by
 unfold Dspec_ShiftSolid_0 at h
 refine x_frk 0 [] onil h (by kernel_rfl) (fun h=>?_) (fun h=>?_)
 ·replace h:=sj h;subst h
  exact x_end 6 [] [(true,6)] onil onil 
 ·obtain⟨v2,y2,h⟩:=bm h
  refine x_frk 19 [(2,.call [] [] (.tup [eS v2.1,bl v2.2]) [])] (ocons (Tspec_l16Shift (Y:=Y) n (Sol.mk za (Pl.mk zb zc zd ze) zf) (Pt.mk zg zh zi) _ y2) onil) h (by kernel_rfl) (fun h=>?_) (fun h=>?_)
  ·replace h:=sj h;subst h
   exact x_end 6 [] [(true,6)] onil onil 
  ·replace h:=sj h;subst h
   exact x_end 7 [] [] onil onil 
def Dspec_ShiftSolid(n:Nat)(a0:Sol)(a1:Pt):Option (Sol×Int) :=
 (Dspec_SolidOk n a0).bind fun v0=>frk (!v0) (some ((Sol.mk false (Pl.mk 0 0 0 0) []),1)) ((Dspec_PtOk a1).bind fun v1=>Dspec_ShiftSolid_0 n (!v1) a0.inn a0.pl.A a0.pl.B a0.pl.C a0.pl.D a0.kids a1.X a1.Y a1.Z false 0 0 0 0)
theorem Tspec_ShiftSolid{Y}(n:Nat)(a0:Sol)(a1:Pt)(r:(Sol×Int))(h:Dspec_ShiftSolid n a0 a1=some r):Big Tryz.prog H Y (.call 70 [eF a0,.agg [i64 a1.X,i64 a1.Y,i64 a1.Z]] (lk []) (.tup [eS r.1,i64 r.2]) (lk [])):=by
 unfold Dspec_ShiftSolid at h
 refine x_call (fn:=Tryz.f70) (c:=bodyOf Tryz.f70) (bs0:=[]) Tryz.func70 (by kernel_rfl) (by kernel_rfl) ?_
 obtain⟨v0,y0,h⟩:=bm h
 refine x_frk 14 [(5,.call [] [] (bl v0) [])] (ocons (Tspec_SolidOk (Y:=Y) n a0 _ y0) onil) h (by kernel_rfl) (fun h=>?_) (fun h=>?_)
 ·replace h:=sj h;subst h
  exact x_end 12 [] [(true,6)] onil onil 
 ·obtain⟨v1,y1,h⟩:=bm h
  exact x_to 5 [(1,.call [] [] (bl v1) [])] (ocons (Tspec_PtOk (Y:=Y) a1 _ y1) onil) (Tspec_ShiftSolid_0 n (!v1) a0.inn a0.pl.A a0.pl.B a0.pl.C a0.pl.D a0.kids a1.X a1.Y a1.Z false 0 0 0 0 r h) 
def Dspec_l20Keeps_0(n:Nat)(a0:Dsk)(zv:Bool)(zw zx zai zam:Int)(zan:List Sol)(zao:Bool)(zap zaq zar zas:Int)(zat:List Sol)(zau:Bool)(zav zaw zax zay:Int)(zaz:List Sol)(zba:Bool)(zbb zbc zbd zbe:Int)(zbf:List Sol)(zbg:Bool)(zbh zbi zbj zbk:Int)(zbl:List Sol)(zbm:Bool)(zbn zbo zbp zbq:Int)(zbr:List Sol)(zbs:Bool)(zbt zbu zbv zbw:Int)(zbx:List Sol)(zby:Bool)(zbz zca zcb zcc:Int)(zcd:List Sol)(zce zcf zcg zch zci zcj zck zcl:Bool):Option (Dsk×Int) :=
 (Dspec_DeskOk n (((Sol.mk zv (Pl.mk zw zx zai zam) zan),(Sol.mk zao (Pl.mk zap zaq zar zas) zat),(Sol.mk zau (Pl.mk zav zaw zax zay) zaz),(Sol.mk zba (Pl.mk zbb zbc zbd zbe) zbf),(Sol.mk zbg (Pl.mk zbh zbi zbj zbk) zbl),(Sol.mk zbm (Pl.mk zbn zbo zbp zbq) zbr),(Sol.mk zbs (Pl.mk zbt zbu zbv zbw) zbx),(Sol.mk zby (Pl.mk zbz zca zcb zcc) zcd)),(zce,zcf,zcg,zch,zci,zcj,zck,zcl))).bind fun v2=>frk (!v2) ((Dspec_l20Copy n a0).bind fun v3=>some (v3,3)) (some ((((Sol.mk zv (Pl.mk zw zx zai zam) zan),(Sol.mk zao (Pl.mk zap zaq zar zas) zat),(Sol.mk zau (Pl.mk zav zaw zax zay) zaz),(Sol.mk zba (Pl.mk zbb zbc zbd zbe) zbf),(Sol.mk zbg (Pl.mk zbh zbi zbj zbk) zbl),(Sol.mk zbm (Pl.mk zbn zbo zbp zbq) zbr),(Sol.mk zbs (Pl.mk zbt zbu zbv zbw) zbx),(Sol.mk zby (Pl.mk zbz zca zcb zcc) zcd)),(zce,zcf,zcg,zch,zci,zcj,zck,zcl)),0))
theorem Tspec_l20Keeps_0{Y}(n:Nat)(a0:Dsk)(zv:Bool)(zw zx zai zam:Int)(zan:List Sol)(zao:Bool)(zap zaq zar zas:Int)(zat:List Sol)(zau:Bool)(zav zaw zax zay:Int)(zaz:List Sol)(zba:Bool)(zbb zbc zbd zbe:Int)(zbf:List Sol)(zbg:Bool)(zbh zbi zbj zbk:Int)(zbl:List Sol)(zbm:Bool)(zbn zbo zbp zbq:Int)(zbr:List Sol)(zbs:Bool)(zbt zbu zbv zbw:Int)(zbx:List Sol)(zby:Bool)(zbz zca zcb zcc:Int)(zcd:List Sol)(zce zcf zcg zch zci zcj zck zcl:Bool)(r:(Dsk×Int))(h:Dspec_l20Keeps_0 n a0 zv zw zx zai zam zan zao zap zaq zar zas zat zau zav zaw zax zay zaz zba zbb zbc zbd zbe zbf zbg zbh zbi zbj zbk zbl zbm zbn zbo zbp zbq zbr zbs zbt zbu zbv zbw zbx zby zbz zca zcb zcc zcd zce zcf zcg zch zci zcj zck zcl=some r):Wk Tryz.prog H Y 55 [.code (cp [1,1,1,1,0,0] (bodyOf Tryz.f55)),.code (cp [1,1,1,1,0,1] (bodyOf Tryz.f55)),.code (cp [1,1,1,1,1] (bodyOf Tryz.f55))] (FinX Tryz.prog Tryz.f55 [] (.tup [.agg (cT38o r.1),i64 r.2]) []) ⟨[(3,.ptr 3 0),(6,.ptr 6 0),(8,.ptr 8 0)],[(3,⟨true,0,(cT38 a0)⟩),(6,⟨true,0,[bl false,i64 0,i64 0,i64 0,i64 0,.nil,bl false,i64 0,i64 0,i64 0,i64 0,.nil,bl false,i64 0,i64 0,i64 0,i64 0,.nil,bl false,i64 0,i64 0,i64 0,i64 0,.nil,bl false,i64 0,i64 0,i64 0,i64 0,.nil,bl false,i64 0,i64 0,i64 0,i64 0,.nil,bl false,i64 0,i64 0,i64 0,i64 0,.nil,bl false,i64 0,i64 0,i64 0,i64 0,.nil,bl false,bl false,bl false,bl false,bl false,bl false,bl false,bl false]⟩),(8,⟨true,0,[bl zv,i64 zw,i64 zx,i64 zai,i64 zam,.sl true 6 zan.length ((eSol true).f zan),bl zao,i64 zap,i64 zaq,i64 zar,i64 zas,.sl true 6 zat.length ((eSol true).f zat),bl zau,i64 zav,i64 zaw,i64 zax,i64 zay,.sl true 6 zaz.length ((eSol true).f zaz),bl zba,i64 zbb,i64 zbc,i64 zbd,i64 zbe,.sl true 6 zbf.length ((eSol true).f zbf),bl zbg,i64 zbh,i64 zbi,i64 zbj,i64 zbk,.sl true 6 zbl.length ((eSol true).f zbl),bl zbm,i64 zbn,i64 zbo,i64 zbp,i64 zbq,.sl true 6 zbr.length ((eSol true).f zbr),bl zbs,i64 zbt,i64 zbu,i64 zbv,i64 zbw,.sl true 6 zbx.length ((eSol true).f zbx),bl zby,i64 zbz,i64 zca,i64 zcb,i64 zcc,.sl true 6 zcd.length ((eSol true).f zcd),bl zce,bl zcf,bl zcg,bl zch,bl zci,bl zcj,bl zck,bl zcl]⟩)]⟩:=by
 unfold Dspec_l20Keeps_0 at h
 obtain⟨v2,y2,h⟩:=bm h
 refine x_frk 5 [(0,.rows [(eSol false).f zan,(eSol false).f zat,(eSol false).f zaz,(eSol false).f zbf,(eSol false).f zbl,(eSol false).f zbr,(eSol false).f zbx,(eSol false).f zcd]),(0,.call [] [] (bl v2) [])] (ocons (Enc.share (eSol true) (eSol false) (sSol true) zan) (ocons (Enc.share (eSol true) (eSol false) (sSol true) zat) (ocons (Enc.share (eSol true) (eSol false) (sSol true) zaz) (ocons (Enc.share (eSol true) (eSol false) (sSol true) zbf) (ocons (Enc.share (eSol true) (eSol false) (sSol true) zbl) (ocons (Enc.share (eSol true) (eSol false) (sSol true) zbr) (ocons (Enc.share (eSol true) (eSol false) (sSol true) zbx) (ocons (Enc.share (eSol true) (eSol false) (sSol true) zcd) (ocons (Tspec_DeskOk (Y:=Y) n (((Sol.mk zv (Pl.mk zw zx zai zam) zan),(Sol.mk zao (Pl.mk zap zaq zar zas) zat),(Sol.mk zau (Pl.mk zav zaw zax zay) zaz),(Sol.mk zba (Pl.mk zbb zbc zbd zbe) zbf),(Sol.mk zbg (Pl.mk zbh zbi zbj zbk) zbl),(Sol.mk zbm (Pl.mk zbn zbo zbp zbq) zbr),(Sol.mk zbs (Pl.mk zbt zbu zbv zbw) zbx),(Sol.mk zby (Pl.mk zbz zca zcb zcc) zcd)),(zce,zcf,zcg,zch,zci,zcj,zck,zcl)) _ y2) onil))))))))) h (by kernel_rfl) (fun h=>?_) (fun h=>?_)
 ·obtain⟨v3,y3,h⟩:=bm h
  replace h:=sj h;subst h
  exact x_end 7 [(1,.call [] [] (.agg (cT38o v3)) [])] [] (ocons (Tspec_l20Copy (Y:=Y) n a0 _ y3) onil) onil 
 ·replace h:=sj h;subst h
  exact x_end 7 [] [] onil onil 
def Dspec_l20Keeps(n:Nat)(a0:Dsk)(a1:Int)(a2:Sol):Option (Dsk×Int) :=
 (Dspec_l20Copy n a0).bind fun v0=>(Dspec_l8Copy n a2).bind fun v1=>frk (a1==0) (Dspec_l20Keeps_0 n a0 v1.inn v1.pl.A v1.pl.B v1.pl.C v1.pl.D v1.kids v0.1.2.1.inn v0.1.2.1.pl.A v0.1.2.1.pl.B v0.1.2.1.pl.C v0.1.2.1.pl.D v0.1.2.1.kids v0.1.2.2.1.inn v0.1.2.2.1.pl.A v0.1.2.2.1.pl.B v0.1.2.2.1.pl.C v0.1.2.2.1.pl.D v0.1.2.2.1.kids v0.1.2.2.2.1.inn v0.1.2.2.2.1.pl.A v0.1.2.2.2.1.pl.B v0.1.2.2.2.1.pl.C v0.1.2.2.2.1.pl.D v0.1.2.2.2.1.kids v0.1.2.2.2.2.1.inn v0.1.2.2.2.2.1.pl.A v0.1.2.2.2.2.1.pl.B v0.1.2.2.2.2.1.pl.C v0.1.2.2.2.2.1.pl.D v0.1.2.2.2.2.1.kids v0.1.2.2.2.2.2.1.inn v0.1.2.2.2.2.2.1.pl.A v0.1.2.2.2.2.2.1.pl.B v0.1.2.2.2.2.2.1.pl.C v0.1.2.2.2.2.2.1.pl.D v0.1.2.2.2.2.2.1.kids v0.1.2.2.2.2.2.2.1.inn v0.1.2.2.2.2.2.2.1.pl.A v0.1.2.2.2.2.2.2.1.pl.B v0.1.2.2.2.2.2.2.1.pl.C v0.1.2.2.2.2.2.2.1.pl.D v0.1.2.2.2.2.2.2.1.kids v0.1.2.2.2.2.2.2.2.inn v0.1.2.2.2.2.2.2.2.pl.A v0.1.2.2.2.2.2.2.2.pl.B v0.1.2.2.2.2.2.2.2.pl.C v0.1.2.2.2.2.2.2.2.pl.D v0.1.2.2.2.2.2.2.2.kids true v0.2.2.1 v0.2.2.2.1 v0.2.2.2.2.1 v0.2.2.2.2.2.1 v0.2.2.2.2.2.2.1 v0.2.2.2.2.2.2.2.1 v0.2.2.2.2.2.2.2.2) (frk (a1==1) (Dspec_l20Keeps_0 n a0 v0.1.1.inn v0.1.1.pl.A v0.1.1.pl.B v0.1.1.pl.C v0.1.1.pl.D v0.1.1.kids v1.inn v1.pl.A v1.pl.B v1.pl.C v1.pl.D v1.kids v0.1.2.2.1.inn v0.1.2.2.1.pl.A v0.1.2.2.1.pl.B v0.1.2.2.1.pl.C v0.1.2.2.1.pl.D v0.1.2.2.1.kids v0.1.2.2.2.1.inn v0.1.2.2.2.1.pl.A v0.1.2.2.2.1.pl.B v0.1.2.2.2.1.pl.C v0.1.2.2.2.1.pl.D v0.1.2.2.2.1.kids v0.1.2.2.2.2.1.inn v0.1.2.2.2.2.1.pl.A v0.1.2.2.2.2.1.pl.B v0.1.2.2.2.2.1.pl.C v0.1.2.2.2.2.1.pl.D v0.1.2.2.2.2.1.kids v0.1.2.2.2.2.2.1.inn v0.1.2.2.2.2.2.1.pl.A v0.1.2.2.2.2.2.1.pl.B v0.1.2.2.2.2.2.1.pl.C v0.1.2.2.2.2.2.1.pl.D v0.1.2.2.2.2.2.1.kids v0.1.2.2.2.2.2.2.1.inn v0.1.2.2.2.2.2.2.1.pl.A v0.1.2.2.2.2.2.2.1.pl.B v0.1.2.2.2.2.2.2.1.pl.C v0.1.2.2.2.2.2.2.1.pl.D v0.1.2.2.2.2.2.2.1.kids v0.1.2.2.2.2.2.2.2.inn v0.1.2.2.2.2.2.2.2.pl.A v0.1.2.2.2.2.2.2.2.pl.B v0.1.2.2.2.2.2.2.2.pl.C v0.1.2.2.2.2.2.2.2.pl.D v0.1.2.2.2.2.2.2.2.kids v0.2.1 true v0.2.2.2.1 v0.2.2.2.2.1 v0.2.2.2.2.2.1 v0.2.2.2.2.2.2.1 v0.2.2.2.2.2.2.2.1 v0.2.2.2.2.2.2.2.2) (frk (a1==2) (Dspec_l20Keeps_0 n a0 v0.1.1.inn v0.1.1.pl.A v0.1.1.pl.B v0.1.1.pl.C v0.1.1.pl.D v0.1.1.kids v0.1.2.1.inn v0.1.2.1.pl.A v0.1.2.1.pl.B v0.1.2.1.pl.C v0.1.2.1.pl.D v0.1.2.1.kids v1.inn v1.pl.A v1.pl.B v1.pl.C v1.pl.D v1.kids v0.1.2.2.2.1.inn v0.1.2.2.2.1.pl.A v0.1.2.2.2.1.pl.B v0.1.2.2.2.1.pl.C v0.1.2.2.2.1.pl.D v0.1.2.2.2.1.kids v0.1.2.2.2.2.1.inn v0.1.2.2.2.2.1.pl.A v0.1.2.2.2.2.1.pl.B v0.1.2.2.2.2.1.pl.C v0.1.2.2.2.2.1.pl.D v0.1.2.2.2.2.1.kids v0.1.2.2.2.2.2.1.inn v0.1.2.2.2.2.2.1.pl.A v0.1.2.2.2.2.2.1.pl.B v0.1.2.2.2.2.2.1.pl.C v0.1.2.2.2.2.2.1.pl.D v0.1.2.2.2.2.2.1.kids v0.1.2.2.2.2.2.2.1.inn v0.1.2.2.2.2.2.2.1.pl.A v0.1.2.2.2.2.2.2.1.pl.B v0.1.2.2.2.2.2.2.1.pl.C v0.1.2.2.2.2.2.2.1.pl.D v0.1.2.2.2.2.2.2.1.kids v0.1.2.2.2.2.2.2.2.inn v0.1.2.2.2.2.2.2.2.pl.A v0.1.2.2.2.2.2.2.2.pl.B v0.1.2.2.2.2.2.2.2.pl.C v0.1.2.2.2.2.2.2.2.pl.D v0.1.2.2.2.2.2.2.2.kids v0.2.1 v0.2.2.1 true v0.2.2.2.2.1 v0.2.2.2.2.2.1 v0.2.2.2.2.2.2.1 v0.2.2.2.2.2.2.2.1 v0.2.2.2.2.2.2.2.2) (frk (a1==3) (Dspec_l20Keeps_0 n a0 v0.1.1.inn v0.1.1.pl.A v0.1.1.pl.B v0.1.1.pl.C v0.1.1.pl.D v0.1.1.kids v0.1.2.1.inn v0.1.2.1.pl.A v0.1.2.1.pl.B v0.1.2.1.pl.C v0.1.2.1.pl.D v0.1.2.1.kids v0.1.2.2.1.inn v0.1.2.2.1.pl.A v0.1.2.2.1.pl.B v0.1.2.2.1.pl.C v0.1.2.2.1.pl.D v0.1.2.2.1.kids v1.inn v1.pl.A v1.pl.B v1.pl.C v1.pl.D v1.kids v0.1.2.2.2.2.1.inn v0.1.2.2.2.2.1.pl.A v0.1.2.2.2.2.1.pl.B v0.1.2.2.2.2.1.pl.C v0.1.2.2.2.2.1.pl.D v0.1.2.2.2.2.1.kids v0.1.2.2.2.2.2.1.inn v0.1.2.2.2.2.2.1.pl.A v0.1.2.2.2.2.2.1.pl.B v0.1.2.2.2.2.2.1.pl.C v0.1.2.2.2.2.2.1.pl.D v0.1.2.2.2.2.2.1.kids v0.1.2.2.2.2.2.2.1.inn v0.1.2.2.2.2.2.2.1.pl.A v0.1.2.2.2.2.2.2.1.pl.B v0.1.2.2.2.2.2.2.1.pl.C v0.1.2.2.2.2.2.2.1.pl.D v0.1.2.2.2.2.2.2.1.kids v0.1.2.2.2.2.2.2.2.inn v0.1.2.2.2.2.2.2.2.pl.A v0.1.2.2.2.2.2.2.2.pl.B v0.1.2.2.2.2.2.2.2.pl.C v0.1.2.2.2.2.2.2.2.pl.D v0.1.2.2.2.2.2.2.2.kids v0.2.1 v0.2.2.1 v0.2.2.2.1 true v0.2.2.2.2.2.1 v0.2.2.2.2.2.2.1 v0.2.2.2.2.2.2.2.1 v0.2.2.2.2.2.2.2.2) (frk (a1==4) (Dspec_l20Keeps_0 n a0 v0.1.1.inn v0.1.1.pl.A v0.1.1.pl.B v0.1.1.pl.C v0.1.1.pl.D v0.1.1.kids v0.1.2.1.inn v0.1.2.1.pl.A v0.1.2.1.pl.B v0.1.2.1.pl.C v0.1.2.1.pl.D v0.1.2.1.kids v0.1.2.2.1.inn v0.1.2.2.1.pl.A v0.1.2.2.1.pl.B v0.1.2.2.1.pl.C v0.1.2.2.1.pl.D v0.1.2.2.1.kids v0.1.2.2.2.1.inn v0.1.2.2.2.1.pl.A v0.1.2.2.2.1.pl.B v0.1.2.2.2.1.pl.C v0.1.2.2.2.1.pl.D v0.1.2.2.2.1.kids v1.inn v1.pl.A v1.pl.B v1.pl.C v1.pl.D v1.kids v0.1.2.2.2.2.2.1.inn v0.1.2.2.2.2.2.1.pl.A v0.1.2.2.2.2.2.1.pl.B v0.1.2.2.2.2.2.1.pl.C v0.1.2.2.2.2.2.1.pl.D v0.1.2.2.2.2.2.1.kids v0.1.2.2.2.2.2.2.1.inn v0.1.2.2.2.2.2.2.1.pl.A v0.1.2.2.2.2.2.2.1.pl.B v0.1.2.2.2.2.2.2.1.pl.C v0.1.2.2.2.2.2.2.1.pl.D v0.1.2.2.2.2.2.2.1.kids v0.1.2.2.2.2.2.2.2.inn v0.1.2.2.2.2.2.2.2.pl.A v0.1.2.2.2.2.2.2.2.pl.B v0.1.2.2.2.2.2.2.2.pl.C v0.1.2.2.2.2.2.2.2.pl.D v0.1.2.2.2.2.2.2.2.kids v0.2.1 v0.2.2.1 v0.2.2.2.1 v0.2.2.2.2.1 true v0.2.2.2.2.2.2.1 v0.2.2.2.2.2.2.2.1 v0.2.2.2.2.2.2.2.2) (frk (a1==5) (Dspec_l20Keeps_0 n a0 v0.1.1.inn v0.1.1.pl.A v0.1.1.pl.B v0.1.1.pl.C v0.1.1.pl.D v0.1.1.kids v0.1.2.1.inn v0.1.2.1.pl.A v0.1.2.1.pl.B v0.1.2.1.pl.C v0.1.2.1.pl.D v0.1.2.1.kids v0.1.2.2.1.inn v0.1.2.2.1.pl.A v0.1.2.2.1.pl.B v0.1.2.2.1.pl.C v0.1.2.2.1.pl.D v0.1.2.2.1.kids v0.1.2.2.2.1.inn v0.1.2.2.2.1.pl.A v0.1.2.2.2.1.pl.B v0.1.2.2.2.1.pl.C v0.1.2.2.2.1.pl.D v0.1.2.2.2.1.kids v0.1.2.2.2.2.1.inn v0.1.2.2.2.2.1.pl.A v0.1.2.2.2.2.1.pl.B v0.1.2.2.2.2.1.pl.C v0.1.2.2.2.2.1.pl.D v0.1.2.2.2.2.1.kids v1.inn v1.pl.A v1.pl.B v1.pl.C v1.pl.D v1.kids v0.1.2.2.2.2.2.2.1.inn v0.1.2.2.2.2.2.2.1.pl.A v0.1.2.2.2.2.2.2.1.pl.B v0.1.2.2.2.2.2.2.1.pl.C v0.1.2.2.2.2.2.2.1.pl.D v0.1.2.2.2.2.2.2.1.kids v0.1.2.2.2.2.2.2.2.inn v0.1.2.2.2.2.2.2.2.pl.A v0.1.2.2.2.2.2.2.2.pl.B v0.1.2.2.2.2.2.2.2.pl.C v0.1.2.2.2.2.2.2.2.pl.D v0.1.2.2.2.2.2.2.2.kids v0.2.1 v0.2.2.1 v0.2.2.2.1 v0.2.2.2.2.1 v0.2.2.2.2.2.1 true v0.2.2.2.2.2.2.2.1 v0.2.2.2.2.2.2.2.2) (frk (a1==6) (Dspec_l20Keeps_0 n a0 v0.1.1.inn v0.1.1.pl.A v0.1.1.pl.B v0.1.1.pl.C v0.1.1.pl.D v0.1.1.kids v0.1.2.1.inn v0.1.2.1.pl.A v0.1.2.1.pl.B v0.1.2.1.pl.C v0.1.2.1.pl.D v0.1.2.1.kids v0.1.2.2.1.inn v0.1.2.2.1.pl.A v0.1.2.2.1.pl.B v0.1.2.2.1.pl.C v0.1.2.2.1.pl.D v0.1.2.2.1.kids v0.1.2.2.2.1.inn v0.1.2.2.2.1.pl.A v0.1.2.2.2.1.pl.B v0.1.2.2.2.1.pl.C v0.1.2.2.2.1.pl.D v0.1.2.2.2.1.kids v0.1.2.2.2.2.1.inn v0.1.2.2.2.2.1.pl.A v0.1.2.2.2.2.1.pl.B v0.1.2.2.2.2.1.pl.C v0.1.2.2.2.2.1.pl.D v0.1.2.2.2.2.1.kids v0.1.2.2.2.2.2.1.inn v0.1.2.2.2.2.2.1.pl.A v0.1.2.2.2.2.2.1.pl.B v0.1.2.2.2.2.2.1.pl.C v0.1.2.2.2.2.2.1.pl.D v0.1.2.2.2.2.2.1.kids v1.inn v1.pl.A v1.pl.B v1.pl.C v1.pl.D v1.kids v0.1.2.2.2.2.2.2.2.inn v0.1.2.2.2.2.2.2.2.pl.A v0.1.2.2.2.2.2.2.2.pl.B v0.1.2.2.2.2.2.2.2.pl.C v0.1.2.2.2.2.2.2.2.pl.D v0.1.2.2.2.2.2.2.2.kids v0.2.1 v0.2.2.1 v0.2.2.2.1 v0.2.2.2.2.1 v0.2.2.2.2.2.1 v0.2.2.2.2.2.2.1 true v0.2.2.2.2.2.2.2.2) (frk (a1==7) (Dspec_l20Keeps_0 n a0 v0.1.1.inn v0.1.1.pl.A v0.1.1.pl.B v0.1.1.pl.C v0.1.1.pl.D v0.1.1.kids v0.1.2.1.inn v0.1.2.1.pl.A v0.1.2.1.pl.B v0.1.2.1.pl.C v0.1.2.1.pl.D v0.1.2.1.kids v0.1.2.2.1.inn v0.1.2.2.1.pl.A v0.1.2.2.1.pl.B v0.1.2.2.1.pl.C v0.1.2.2.1.pl.D v0.1.2.2.1.kids v0.1.2.2.2.1.inn v0.1.2.2.2.1.pl.A v0.1.2.2.2.1.pl.B v0.1.2.2.2.1.pl.C v0.1.2.2.2.1.pl.D v0.1.2.2.2.1.kids v0.1.2.2.2.2.1.inn v0.1.2.2.2.2.1.pl.A v0.1.2.2.2.2.1.pl.B v0.1.2.2.2.2.1.pl.C v0.1.2.2.2.2.1.pl.D v0.1.2.2.2.2.1.kids v0.1.2.2.2.2.2.1.inn v0.1.2.2.2.2.2.1.pl.A v0.1.2.2.2.2.2.1.pl.B v0.1.2.2.2.2.2.1.pl.C v0.1.2.2.2.2.2.1.pl.D v0.1.2.2.2.2.2.1.kids v0.1.2.2.2.2.2.2.1.inn v0.1.2.2.2.2.2.2.1.pl.A v0.1.2.2.2.2.2.2.1.pl.B v0.1.2.2.2.2.2.2.1.pl.C v0.1.2.2.2.2.2.2.1.pl.D v0.1.2.2.2.2.2.2.1.kids v1.inn v1.pl.A v1.pl.B v1.pl.C v1.pl.D v1.kids v0.2.1 v0.2.2.1 v0.2.2.2.1 v0.2.2.2.2.1 v0.2.2.2.2.2.1 v0.2.2.2.2.2.2.1 v0.2.2.2.2.2.2.2.1 true) (none))))))))
theorem Tspec_l20Keeps{Y}(n:Nat)(a0:Dsk)(a1:Int)(a2:Sol)(r:(Dsk×Int))(h:Dspec_l20Keeps n a0 a1 a2=some r):Big Tryz.prog H Y (.call 55 [.agg (cT38 a0),i64 a1,eF a2] (lk []) (.tup [.agg (cT38o r.1),i64 r.2]) (lk [])):=by
 unfold Dspec_l20Keeps at h
 refine x_call (fn:=Tryz.f55) (c:=bodyOf Tryz.f55) (bs0:=[]) Tryz.func55 (by kernel_rfl) (by kernel_rfl) ?_
 obtain⟨v0,y0,h⟩:=bm h
 obtain⟨v1,y1,h⟩:=bm h
 refine x_pt 20 [(5,.call [] [] (.agg (cT38o v0)) []),(4,.call [] [] (eS v1) [])] (ocons (Tspec_l20Copy (Y:=Y) n a0 _ y0) (ocons (Tspec_l8Copy (Y:=Y) n a2 _ y1) onil)) (by kernel_rfl) ?_
 rcases frk_eq h with ⟨hc,hk1⟩ | h
 ·subst hc
  replace h:=hk1
  exact x_to 12 [] onil (Tspec_l20Keeps_0 n a0 v1.inn v1.pl.A v1.pl.B v1.pl.C v1.pl.D v1.kids v0.1.2.1.inn v0.1.2.1.pl.A v0.1.2.1.pl.B v0.1.2.1.pl.C v0.1.2.1.pl.D v0.1.2.1.kids v0.1.2.2.1.inn v0.1.2.2.1.pl.A v0.1.2.2.1.pl.B v0.1.2.2.1.pl.C v0.1.2.2.1.pl.D v0.1.2.2.1.kids v0.1.2.2.2.1.inn v0.1.2.2.2.1.pl.A v0.1.2.2.2.1.pl.B v0.1.2.2.2.1.pl.C v0.1.2.2.2.1.pl.D v0.1.2.2.2.1.kids v0.1.2.2.2.2.1.inn v0.1.2.2.2.2.1.pl.A v0.1.2.2.2.2.1.pl.B v0.1.2.2.2.2.1.pl.C v0.1.2.2.2.2.1.pl.D v0.1.2.2.2.2.1.kids v0.1.2.2.2.2.2.1.inn v0.1.2.2.2.2.2.1.pl.A v0.1.2.2.2.2.2.1.pl.B v0.1.2.2.2.2.2.1.pl.C v0.1.2.2.2.2.2.1.pl.D v0.1.2.2.2.2.2.1.kids v0.1.2.2.2.2.2.2.1.inn v0.1.2.2.2.2.2.2.1.pl.A v0.1.2.2.2.2.2.2.1.pl.B v0.1.2.2.2.2.2.2.1.pl.C v0.1.2.2.2.2.2.2.1.pl.D v0.1.2.2.2.2.2.2.1.kids v0.1.2.2.2.2.2.2.2.inn v0.1.2.2.2.2.2.2.2.pl.A v0.1.2.2.2.2.2.2.2.pl.B v0.1.2.2.2.2.2.2.2.pl.C v0.1.2.2.2.2.2.2.2.pl.D v0.1.2.2.2.2.2.2.2.kids true v0.2.2.1 v0.2.2.2.1 v0.2.2.2.2.1 v0.2.2.2.2.2.1 v0.2.2.2.2.2.2.1 v0.2.2.2.2.2.2.2.1 v0.2.2.2.2.2.2.2.2 r h) 
 rcases frk_eq h with ⟨hc,hk2⟩ | h
 ·subst hc
  replace h:=hk2
  exact x_to 12 [] onil (Tspec_l20Keeps_0 n a0 v0.1.1.inn v0.1.1.pl.A v0.1.1.pl.B v0.1.1.pl.C v0.1.1.pl.D v0.1.1.kids v1.inn v1.pl.A v1.pl.B v1.pl.C v1.pl.D v1.kids v0.1.2.2.1.inn v0.1.2.2.1.pl.A v0.1.2.2.1.pl.B v0.1.2.2.1.pl.C v0.1.2.2.1.pl.D v0.1.2.2.1.kids v0.1.2.2.2.1.inn v0.1.2.2.2.1.pl.A v0.1.2.2.2.1.pl.B v0.1.2.2.2.1.pl.C v0.1.2.2.2.1.pl.D v0.1.2.2.2.1.kids v0.1.2.2.2.2.1.inn v0.1.2.2.2.2.1.pl.A v0.1.2.2.2.2.1.pl.B v0.1.2.2.2.2.1.pl.C v0.1.2.2.2.2.1.pl.D v0.1.2.2.2.2.1.kids v0.1.2.2.2.2.2.1.inn v0.1.2.2.2.2.2.1.pl.A v0.1.2.2.2.2.2.1.pl.B v0.1.2.2.2.2.2.1.pl.C v0.1.2.2.2.2.2.1.pl.D v0.1.2.2.2.2.2.1.kids v0.1.2.2.2.2.2.2.1.inn v0.1.2.2.2.2.2.2.1.pl.A v0.1.2.2.2.2.2.2.1.pl.B v0.1.2.2.2.2.2.2.1.pl.C v0.1.2.2.2.2.2.2.1.pl.D v0.1.2.2.2.2.2.2.1.kids v0.1.2.2.2.2.2.2.2.inn v0.1.2.2.2.2.2.2.2.pl.A v0.1.2.2.2.2.2.2.2.pl.B v0.1.2.2.2.2.2.2.2.pl.C v0.1.2.2.2.2.2.2.2.pl.D v0.1.2.2.2.2.2.2.2.kids v0.2.1 true v0.2.2.2.1 v0.2.2.2.2.1 v0.2.2.2.2.2.1 v0.2.2.2.2.2.2.1 v0.2.2.2.2.2.2.2.1 v0.2.2.2.2.2.2.2.2 r h) 
 rcases frk_eq h with ⟨hc,hk3⟩ | h
 ·subst hc
  replace h:=hk3
  exact x_to 12 [] onil (Tspec_l20Keeps_0 n a0 v0.1.1.inn v0.1.1.pl.A v0.1.1.pl.B v0.1.1.pl.C v0.1.1.pl.D v0.1.1.kids v0.1.2.1.inn v0.1.2.1.pl.A v0.1.2.1.pl.B v0.1.2.1.pl.C v0.1.2.1.pl.D v0.1.2.1.kids v1.inn v1.pl.A v1.pl.B v1.pl.C v1.pl.D v1.kids v0.1.2.2.2.1.inn v0.1.2.2.2.1.pl.A v0.1.2.2.2.1.pl.B v0.1.2.2.2.1.pl.C v0.1.2.2.2.1.pl.D v0.1.2.2.2.1.kids v0.1.2.2.2.2.1.inn v0.1.2.2.2.2.1.pl.A v0.1.2.2.2.2.1.pl.B v0.1.2.2.2.2.1.pl.C v0.1.2.2.2.2.1.pl.D v0.1.2.2.2.2.1.kids v0.1.2.2.2.2.2.1.inn v0.1.2.2.2.2.2.1.pl.A v0.1.2.2.2.2.2.1.pl.B v0.1.2.2.2.2.2.1.pl.C v0.1.2.2.2.2.2.1.pl.D v0.1.2.2.2.2.2.1.kids v0.1.2.2.2.2.2.2.1.inn v0.1.2.2.2.2.2.2.1.pl.A v0.1.2.2.2.2.2.2.1.pl.B v0.1.2.2.2.2.2.2.1.pl.C v0.1.2.2.2.2.2.2.1.pl.D v0.1.2.2.2.2.2.2.1.kids v0.1.2.2.2.2.2.2.2.inn v0.1.2.2.2.2.2.2.2.pl.A v0.1.2.2.2.2.2.2.2.pl.B v0.1.2.2.2.2.2.2.2.pl.C v0.1.2.2.2.2.2.2.2.pl.D v0.1.2.2.2.2.2.2.2.kids v0.2.1 v0.2.2.1 true v0.2.2.2.2.1 v0.2.2.2.2.2.1 v0.2.2.2.2.2.2.1 v0.2.2.2.2.2.2.2.1 v0.2.2.2.2.2.2.2.2 r h) 
 rcases frk_eq h with ⟨hc,hk4⟩ | h
 ·subst hc
  replace h:=hk4
  exact x_to 12 [] onil (Tspec_l20Keeps_0 n a0 v0.1.1.inn v0.1.1.pl.A v0.1.1.pl.B v0.1.1.pl.C v0.1.1.pl.D v0.1.1.kids v0.1.2.1.inn v0.1.2.1.pl.A v0.1.2.1.pl.B v0.1.2.1.pl.C v0.1.2.1.pl.D v0.1.2.1.kids v0.1.2.2.1.inn v0.1.2.2.1.pl.A v0.1.2.2.1.pl.B v0.1.2.2.1.pl.C v0.1.2.2.1.pl.D v0.1.2.2.1.kids v1.inn v1.pl.A v1.pl.B v1.pl.C v1.pl.D v1.kids v0.1.2.2.2.2.1.inn v0.1.2.2.2.2.1.pl.A v0.1.2.2.2.2.1.pl.B v0.1.2.2.2.2.1.pl.C v0.1.2.2.2.2.1.pl.D v0.1.2.2.2.2.1.kids v0.1.2.2.2.2.2.1.inn v0.1.2.2.2.2.2.1.pl.A v0.1.2.2.2.2.2.1.pl.B v0.1.2.2.2.2.2.1.pl.C v0.1.2.2.2.2.2.1.pl.D v0.1.2.2.2.2.2.1.kids v0.1.2.2.2.2.2.2.1.inn v0.1.2.2.2.2.2.2.1.pl.A v0.1.2.2.2.2.2.2.1.pl.B v0.1.2.2.2.2.2.2.1.pl.C v0.1.2.2.2.2.2.2.1.pl.D v0.1.2.2.2.2.2.2.1.kids v0.1.2.2.2.2.2.2.2.inn v0.1.2.2.2.2.2.2.2.pl.A v0.1.2.2.2.2.2.2.2.pl.B v0.1.2.2.2.2.2.2.2.pl.C v0.1.2.2.2.2.2.2.2.pl.D v0.1.2.2.2.2.2.2.2.kids v0.2.1 v0.2.2.1 v0.2.2.2.1 true v0.2.2.2.2.2.1 v0.2.2.2.2.2.2.1 v0.2.2.2.2.2.2.2.1 v0.2.2.2.2.2.2.2.2 r h) 
 rcases frk_eq h with ⟨hc,hk5⟩ | h
 ·subst hc
  replace h:=hk5
  exact x_to 12 [] onil (Tspec_l20Keeps_0 n a0 v0.1.1.inn v0.1.1.pl.A v0.1.1.pl.B v0.1.1.pl.C v0.1.1.pl.D v0.1.1.kids v0.1.2.1.inn v0.1.2.1.pl.A v0.1.2.1.pl.B v0.1.2.1.pl.C v0.1.2.1.pl.D v0.1.2.1.kids v0.1.2.2.1.inn v0.1.2.2.1.pl.A v0.1.2.2.1.pl.B v0.1.2.2.1.pl.C v0.1.2.2.1.pl.D v0.1.2.2.1.kids v0.1.2.2.2.1.inn v0.1.2.2.2.1.pl.A v0.1.2.2.2.1.pl.B v0.1.2.2.2.1.pl.C v0.1.2.2.2.1.pl.D v0.1.2.2.2.1.kids v1.inn v1.pl.A v1.pl.B v1.pl.C v1.pl.D v1.kids v0.1.2.2.2.2.2.1.inn v0.1.2.2.2.2.2.1.pl.A v0.1.2.2.2.2.2.1.pl.B v0.1.2.2.2.2.2.1.pl.C v0.1.2.2.2.2.2.1.pl.D v0.1.2.2.2.2.2.1.kids v0.1.2.2.2.2.2.2.1.inn v0.1.2.2.2.2.2.2.1.pl.A v0.1.2.2.2.2.2.2.1.pl.B v0.1.2.2.2.2.2.2.1.pl.C v0.1.2.2.2.2.2.2.1.pl.D v0.1.2.2.2.2.2.2.1.kids v0.1.2.2.2.2.2.2.2.inn v0.1.2.2.2.2.2.2.2.pl.A v0.1.2.2.2.2.2.2.2.pl.B v0.1.2.2.2.2.2.2.2.pl.C v0.1.2.2.2.2.2.2.2.pl.D v0.1.2.2.2.2.2.2.2.kids v0.2.1 v0.2.2.1 v0.2.2.2.1 v0.2.2.2.2.1 true v0.2.2.2.2.2.2.1 v0.2.2.2.2.2.2.2.1 v0.2.2.2.2.2.2.2.2 r h) 
 rcases frk_eq h with ⟨hc,hk6⟩ | h
 ·subst hc
  replace h:=hk6
  exact x_to 12 [] onil (Tspec_l20Keeps_0 n a0 v0.1.1.inn v0.1.1.pl.A v0.1.1.pl.B v0.1.1.pl.C v0.1.1.pl.D v0.1.1.kids v0.1.2.1.inn v0.1.2.1.pl.A v0.1.2.1.pl.B v0.1.2.1.pl.C v0.1.2.1.pl.D v0.1.2.1.kids v0.1.2.2.1.inn v0.1.2.2.1.pl.A v0.1.2.2.1.pl.B v0.1.2.2.1.pl.C v0.1.2.2.1.pl.D v0.1.2.2.1.kids v0.1.2.2.2.1.inn v0.1.2.2.2.1.pl.A v0.1.2.2.2.1.pl.B v0.1.2.2.2.1.pl.C v0.1.2.2.2.1.pl.D v0.1.2.2.2.1.kids v0.1.2.2.2.2.1.inn v0.1.2.2.2.2.1.pl.A v0.1.2.2.2.2.1.pl.B v0.1.2.2.2.2.1.pl.C v0.1.2.2.2.2.1.pl.D v0.1.2.2.2.2.1.kids v1.inn v1.pl.A v1.pl.B v1.pl.C v1.pl.D v1.kids v0.1.2.2.2.2.2.2.1.inn v0.1.2.2.2.2.2.2.1.pl.A v0.1.2.2.2.2.2.2.1.pl.B v0.1.2.2.2.2.2.2.1.pl.C v0.1.2.2.2.2.2.2.1.pl.D v0.1.2.2.2.2.2.2.1.kids v0.1.2.2.2.2.2.2.2.inn v0.1.2.2.2.2.2.2.2.pl.A v0.1.2.2.2.2.2.2.2.pl.B v0.1.2.2.2.2.2.2.2.pl.C v0.1.2.2.2.2.2.2.2.pl.D v0.1.2.2.2.2.2.2.2.kids v0.2.1 v0.2.2.1 v0.2.2.2.1 v0.2.2.2.2.1 v0.2.2.2.2.2.1 true v0.2.2.2.2.2.2.2.1 v0.2.2.2.2.2.2.2.2 r h) 
 rcases frk_eq h with ⟨hc,hk7⟩ | h
 ·subst hc
  replace h:=hk7
  exact x_to 12 [] onil (Tspec_l20Keeps_0 n a0 v0.1.1.inn v0.1.1.pl.A v0.1.1.pl.B v0.1.1.pl.C v0.1.1.pl.D v0.1.1.kids v0.1.2.1.inn v0.1.2.1.pl.A v0.1.2.1.pl.B v0.1.2.1.pl.C v0.1.2.1.pl.D v0.1.2.1.kids v0.1.2.2.1.inn v0.1.2.2.1.pl.A v0.1.2.2.1.pl.B v0.1.2.2.1.pl.C v0.1.2.2.1.pl.D v0.1.2.2.1.kids v0.1.2.2.2.1.inn v0.1.2.2.2.1.pl.A v0.1.2.2.2.1.pl.B v0.1.2.2.2.1.pl.C v0.1.2.2.2.1.pl.D v0.1.2.2.2.1.kids v0.1.2.2.2.2.1.inn v0.1.2.2.2.2.1.pl.A v0.1.2.2.2.2.1.pl.B v0.1.2.2.2.2.1.pl.C v0.1.2.2.2.2.1.pl.D v0.1.2.2.2.2.1.kids v0.1.2.2.2.2.2.1.inn v0.1.2.2.2.2.2.1.pl.A v0.1.2.2.2.2.2.1.pl.B v0.1.2.2.2.2.2.1.pl.C v0.1.2.2.2.2.2.1.pl.D v0.1.2.2.2.2.2.1.kids v1.inn v1.pl.A v1.pl.B v1.pl.C v1.pl.D v1.kids v0.1.2.2.2.2.2.2.2.inn v0.1.2.2.2.2.2.2.2.pl.A v0.1.2.2.2.2.2.2.2.pl.B v0.1.2.2.2.2.2.2.2.pl.C v0.1.2.2.2.2.2.2.2.pl.D v0.1.2.2.2.2.2.2.2.kids v0.2.1 v0.2.2.1 v0.2.2.2.1 v0.2.2.2.2.1 v0.2.2.2.2.2.1 v0.2.2.2.2.2.2.1 true v0.2.2.2.2.2.2.2.2 r h) 
 rcases frk_eq h with ⟨hc,hk8⟩ | h
 ·subst hc
  replace h:=hk8
  exact x_to 12 [] onil (Tspec_l20Keeps_0 n a0 v0.1.1.inn v0.1.1.pl.A v0.1.1.pl.B v0.1.1.pl.C v0.1.1.pl.D v0.1.1.kids v0.1.2.1.inn v0.1.2.1.pl.A v0.1.2.1.pl.B v0.1.2.1.pl.C v0.1.2.1.pl.D v0.1.2.1.kids v0.1.2.2.1.inn v0.1.2.2.1.pl.A v0.1.2.2.1.pl.B v0.1.2.2.1.pl.C v0.1.2.2.1.pl.D v0.1.2.2.1.kids v0.1.2.2.2.1.inn v0.1.2.2.2.1.pl.A v0.1.2.2.2.1.pl.B v0.1.2.2.2.1.pl.C v0.1.2.2.2.1.pl.D v0.1.2.2.2.1.kids v0.1.2.2.2.2.1.inn v0.1.2.2.2.2.1.pl.A v0.1.2.2.2.2.1.pl.B v0.1.2.2.2.2.1.pl.C v0.1.2.2.2.2.1.pl.D v0.1.2.2.2.2.1.kids v0.1.2.2.2.2.2.1.inn v0.1.2.2.2.2.2.1.pl.A v0.1.2.2.2.2.2.1.pl.B v0.1.2.2.2.2.2.1.pl.C v0.1.2.2.2.2.2.1.pl.D v0.1.2.2.2.2.2.1.kids v0.1.2.2.2.2.2.2.1.inn v0.1.2.2.2.2.2.2.1.pl.A v0.1.2.2.2.2.2.2.1.pl.B v0.1.2.2.2.2.2.2.1.pl.C v0.1.2.2.2.2.2.2.1.pl.D v0.1.2.2.2.2.2.2.1.kids v1.inn v1.pl.A v1.pl.B v1.pl.C v1.pl.D v1.kids v0.2.1 v0.2.2.1 v0.2.2.2.1 v0.2.2.2.2.1 v0.2.2.2.2.2.1 v0.2.2.2.2.2.2.1 v0.2.2.2.2.2.2.2.1 true r h) 
 exact absurd h (by simp)
def Dspec_Move_0(n:Nat)(a0:Dsk):Option (Dsk×Int) :=
 (Dspec_l20Copy n a0).bind fun v1=>some (v1,1)
theorem Tspec_Move_0{Y}(n:Nat)(a0:Dsk)(r:(Dsk×Int))(h:Dspec_Move_0 n a0=some r):Wk Tryz.prog H Y 16 [.code (cp [1,0,0,1,0,0] (bodyOf Tryz.f16)),.code (cp [1,0,0,1,0,1] (bodyOf Tryz.f16)),.blk 0,.code (cp [1,1] (bodyOf Tryz.f16))] (FinX Tryz.prog Tryz.f16 [] (.tup [.agg (cT38o r.1),i64 r.2]) []) ⟨[(4,.ptr 4 0),(8,.ptr 8 0)],[(4,⟨true,0,(cT38 a0)⟩),(8,⟨true,0,[bl false,i64 0,i64 0,i64 0,i64 0,.nil,bl false,i64 0,i64 0,i64 0,i64 0,.nil,bl false,i64 0,i64 0,i64 0,i64 0,.nil,bl false,i64 0,i64 0,i64 0,i64 0,.nil,bl false,i64 0,i64 0,i64 0,i64 0,.nil,bl false,i64 0,i64 0,i64 0,i64 0,.nil,bl false,i64 0,i64 0,i64 0,i64 0,.nil,bl false,i64 0,i64 0,i64 0,i64 0,.nil,bl false,bl false,bl false,bl false,bl false,bl false,bl false,bl false]⟩)]⟩:=by
 unfold Dspec_Move_0 at h
 obtain⟨v1,y1,h⟩:=bm h
 replace h:=sj h;subst h
 exact x_end 6 [(1,.call [] [] (.agg (cT38o v1)) [])] [] (ocons (Tspec_l20Copy (Y:=Y) n a0 _ y1) onil) onil 
def Dspec_Move_3(n:Nat)(t1:Int)(t51:Bool)(a0:Dsk)(zcm:Bool)(zcn zco zcp zcq:Int)(zcr:List Sol):Option (Dsk×Int) :=
 frk t51 ((Dspec_l20Copy n a0).bind fun v8=>some (v8,3)) ((Dspec_l20Keeps n a0 t1 (Sol.mk zcm (Pl.mk zcn zco zcp zcq) zcr)).bind fun v9=>some v9)
theorem Tspec_Move_3{Y}(n:Nat)(t1:Int)(t51:Bool)(a0:Dsk)(zcm:Bool)(zcn zco zcp zcq:Int)(zcr:List Sol)(r:(Dsk×Int))(h:Dspec_Move_3 n t1 t51 a0 zcm zcn zco zcp zcq zcr=some r):Wk Tryz.prog H Y 16 [.code (cp [1,1,1,0,1] (bodyOf Tryz.f16)),.code (cp [1,1,1,1] (bodyOf Tryz.f16))] (FinX Tryz.prog Tryz.f16 [] (.tup [.agg (cT38o r.1),i64 r.2]) []) ⟨[(1,i64 t1),(4,.ptr 4 0),(8,.ptr 8 0),(10,.ptr 10 0),(51,bl t51)],[(4,⟨true,0,(cT38 a0)⟩),(8,⟨true,0,[bl false,i64 0,i64 0,i64 0,i64 0,.nil,bl false,i64 0,i64 0,i64 0,i64 0,.nil,bl false,i64 0,i64 0,i64 0,i64 0,.nil,bl false,i64 0,i64 0,i64 0,i64 0,.nil,bl false,i64 0,i64 0,i64 0,i64 0,.nil,bl false,i64 0,i64 0,i64 0,i64 0,.nil,bl false,i64 0,i64 0,i64 0,i64 0,.nil,bl false,i64 0,i64 0,i64 0,i64 0,.nil,bl false,bl false,bl false,bl false,bl false,bl false,bl false,bl false]⟩),(10,⟨true,0,[bl zcm,i64 zcn,i64 zco,i64 zcp,i64 zcq,.sl true 6 zcr.length ((eSol true).f zcr)]⟩)]⟩:=by
 unfold Dspec_Move_3 at h
 refine x_frk 0 [] onil h (by kernel_rfl) (fun h=>?_) (fun h=>?_)
 ·obtain⟨v8,y8,h⟩:=bm h
  replace h:=sj h;subst h
  exact x_end 7 [(1,.call [] [] (.agg (cT38o v8)) [])] [] (ocons (Tspec_l20Copy (Y:=Y) n a0 _ y8) onil) onil 
 ·obtain⟨v9,y9,h⟩:=bm h
  replace h:=sj h;subst h
  exact x_end 12 [(2,.rows [(eSol false).f zcr]),(0,.call [] [] (.tup [.agg (cT38o v9.1),i64 v9.2]) [])] [] (ocons (Enc.share (eSol true) (eSol false) (sSol true) zcr) (ocons (Tspec_l20Keeps (Y:=Y) n a0 t1 (Sol.mk zcm (Pl.mk zcn zco zcp zcq) zcr) _ y9) onil)) onil 
def Dspec_Move_2(n:Nat)(t1 t2:Int)(t33:Bool)(a0:Dsk)(zs zt zu:Int):Option (Dsk×Int) :=
 frk t33 ((Dspec_l20Copy n a0).bind fun v6=>some (v6,2)) (frk (t2==0) ((Dspec_ShiftSolid n a0.1.1 (Pt.mk zs zt zu)).bind fun v7=>Dspec_Move_3 n t1 (v7.2 != 0) a0 v7.1.inn v7.1.pl.A v7.1.pl.B v7.1.pl.C v7.1.pl.D v7.1.kids) (frk (t2==1) ((Dspec_ShiftSolid n a0.1.2.1 (Pt.mk zs zt zu)).bind fun v10=>Dspec_Move_3 n t1 (v10.2 != 0) a0 v10.1.inn v10.1.pl.A v10.1.pl.B v10.1.pl.C v10.1.pl.D v10.1.kids) (frk (t2==2) ((Dspec_ShiftSolid n a0.1.2.2.1 (Pt.mk zs zt zu)).bind fun v11=>Dspec_Move_3 n t1 (v11.2 != 0) a0 v11.1.inn v11.1.pl.A v11.1.pl.B v11.1.pl.C v11.1.pl.D v11.1.kids) (frk (t2==3) ((Dspec_ShiftSolid n a0.1.2.2.2.1 (Pt.mk zs zt zu)).bind fun v12=>Dspec_Move_3 n t1 (v12.2 != 0) a0 v12.1.inn v12.1.pl.A v12.1.pl.B v12.1.pl.C v12.1.pl.D v12.1.kids) (frk (t2==4) ((Dspec_ShiftSolid n a0.1.2.2.2.2.1 (Pt.mk zs zt zu)).bind fun v13=>Dspec_Move_3 n t1 (v13.2 != 0) a0 v13.1.inn v13.1.pl.A v13.1.pl.B v13.1.pl.C v13.1.pl.D v13.1.kids) (frk (t2==5) ((Dspec_ShiftSolid n a0.1.2.2.2.2.2.1 (Pt.mk zs zt zu)).bind fun v14=>Dspec_Move_3 n t1 (v14.2 != 0) a0 v14.1.inn v14.1.pl.A v14.1.pl.B v14.1.pl.C v14.1.pl.D v14.1.kids) (frk (t2==6) ((Dspec_ShiftSolid n a0.1.2.2.2.2.2.2.1 (Pt.mk zs zt zu)).bind fun v15=>Dspec_Move_3 n t1 (v15.2 != 0) a0 v15.1.inn v15.1.pl.A v15.1.pl.B v15.1.pl.C v15.1.pl.D v15.1.kids) (frk (t2==7) ((Dspec_ShiftSolid n a0.1.2.2.2.2.2.2.2 (Pt.mk zs zt zu)).bind fun v16=>Dspec_Move_3 n t1 (v16.2 != 0) a0 v16.1.inn v16.1.pl.A v16.1.pl.B v16.1.pl.C v16.1.pl.D v16.1.kids) (none)))))))))
theorem Tspec_Move_2{Y}(n:Nat)(t1 t2:Int)(t33:Bool)(a0:Dsk)(zs zt zu:Int)(r:(Dsk×Int))(h:Dspec_Move_2 n t1 t2 t33 a0 zs zt zu=some r):Wk Tryz.prog H Y 16 [.code (cp [1,0,0,1,1,1] (bodyOf Tryz.f16)),.blk 0,.code (cp [1,1] (bodyOf Tryz.f16))] (FinX Tryz.prog Tryz.f16 [] (.tup [.agg (cT38o r.1),i64 r.2]) []) ⟨[(1,i64 t1),(2,i64 t2),(4,.ptr 4 0),(7,.ptr 7 0),(8,.ptr 8 0),(33,bl t33)],[(4,⟨true,0,(cT38 a0)⟩),(7,⟨true,0,[i64 zs,i64 zt,i64 zu]⟩),(8,⟨true,0,[bl false,i64 0,i64 0,i64 0,i64 0,.nil,bl false,i64 0,i64 0,i64 0,i64 0,.nil,bl false,i64 0,i64 0,i64 0,i64 0,.nil,bl false,i64 0,i64 0,i64 0,i64 0,.nil,bl false,i64 0,i64 0,i64 0,i64 0,.nil,bl false,i64 0,i64 0,i64 0,i64 0,.nil,bl false,i64 0,i64 0,i64 0,i64 0,.nil,bl false,i64 0,i64 0,i64 0,i64 0,.nil,bl false,bl false,bl false,bl false,bl false,bl false,bl false,bl false]⟩)]⟩:=by
 unfold Dspec_Move_2 at h
 refine x_frk 0 [] onil h (by kernel_rfl) (fun h=>?_) (fun h=>?_)
 ·obtain⟨v6,y6,h⟩:=bm h
  replace h:=sj h;subst h
  exact x_end 7 [(1,.call [] [] (.agg (cT38o v6)) [])] [] (ocons (Tspec_l20Copy (Y:=Y) n a0 _ y6) onil) onil 
 ·refine x_pt 6 [] onil (by kernel_rfl) ?_
  rcases frk_eq h with ⟨hc,hk9⟩ | h
  ·subst hc
   replace h:=hk9
   obtain⟨v7,y7,h⟩:=bm h
   exact x_to 17 [(3,.call [] [] (.tup [eS v7.1,i64 v7.2]) [])] (ocons (Tspec_ShiftSolid (Y:=Y) n a0.1.1 (Pt.mk zs zt zu) _ y7) onil) (Tspec_Move_3 n t1 (v7.2 != 0) a0 v7.1.inn v7.1.pl.A v7.1.pl.B v7.1.pl.C v7.1.pl.D v7.1.kids r h) 
  rcases frk_eq h with ⟨hc,hk10⟩ | h
  ·subst hc
   replace h:=hk10
   obtain⟨v10,y10,h⟩:=bm h
   exact x_to 17 [(3,.call [] [] (.tup [eS v10.1,i64 v10.2]) [])] (ocons (Tspec_ShiftSolid (Y:=Y) n a0.1.2.1 (Pt.mk zs zt zu) _ y10) onil) (Tspec_Move_3 n t1 (v10.2 != 0) a0 v10.1.inn v10.1.pl.A v10.1.pl.B v10.1.pl.C v10.1.pl.D v10.1.kids r h) 
  rcases frk_eq h with ⟨hc,hk11⟩ | h
  ·subst hc
   replace h:=hk11
   obtain⟨v11,y11,h⟩:=bm h
   exact x_to 17 [(3,.call [] [] (.tup [eS v11.1,i64 v11.2]) [])] (ocons (Tspec_ShiftSolid (Y:=Y) n a0.1.2.2.1 (Pt.mk zs zt zu) _ y11) onil) (Tspec_Move_3 n t1 (v11.2 != 0) a0 v11.1.inn v11.1.pl.A v11.1.pl.B v11.1.pl.C v11.1.pl.D v11.1.kids r h) 
  rcases frk_eq h with ⟨hc,hk12⟩ | h
  ·subst hc
   replace h:=hk12
   obtain⟨v12,y12,h⟩:=bm h
   exact x_to 17 [(3,.call [] [] (.tup [eS v12.1,i64 v12.2]) [])] (ocons (Tspec_ShiftSolid (Y:=Y) n a0.1.2.2.2.1 (Pt.mk zs zt zu) _ y12) onil) (Tspec_Move_3 n t1 (v12.2 != 0) a0 v12.1.inn v12.1.pl.A v12.1.pl.B v12.1.pl.C v12.1.pl.D v12.1.kids r h) 
  rcases frk_eq h with ⟨hc,hk13⟩ | h
  ·subst hc
   replace h:=hk13
   obtain⟨v13,y13,h⟩:=bm h
   exact x_to 17 [(3,.call [] [] (.tup [eS v13.1,i64 v13.2]) [])] (ocons (Tspec_ShiftSolid (Y:=Y) n a0.1.2.2.2.2.1 (Pt.mk zs zt zu) _ y13) onil) (Tspec_Move_3 n t1 (v13.2 != 0) a0 v13.1.inn v13.1.pl.A v13.1.pl.B v13.1.pl.C v13.1.pl.D v13.1.kids r h) 
  rcases frk_eq h with ⟨hc,hk14⟩ | h
  ·subst hc
   replace h:=hk14
   obtain⟨v14,y14,h⟩:=bm h
   exact x_to 17 [(3,.call [] [] (.tup [eS v14.1,i64 v14.2]) [])] (ocons (Tspec_ShiftSolid (Y:=Y) n a0.1.2.2.2.2.2.1 (Pt.mk zs zt zu) _ y14) onil) (Tspec_Move_3 n t1 (v14.2 != 0) a0 v14.1.inn v14.1.pl.A v14.1.pl.B v14.1.pl.C v14.1.pl.D v14.1.kids r h) 
  rcases frk_eq h with ⟨hc,hk15⟩ | h
  ·subst hc
   replace h:=hk15
   obtain⟨v15,y15,h⟩:=bm h
   exact x_to 17 [(3,.call [] [] (.tup [eS v15.1,i64 v15.2]) [])] (ocons (Tspec_ShiftSolid (Y:=Y) n a0.1.2.2.2.2.2.2.1 (Pt.mk zs zt zu) _ y15) onil) (Tspec_Move_3 n t1 (v15.2 != 0) a0 v15.1.inn v15.1.pl.A v15.1.pl.B v15.1.pl.C v15.1.pl.D v15.1.kids r h) 
  rcases frk_eq h with ⟨hc,hk16⟩ | h
  ·subst hc
   replace h:=hk16
   obtain⟨v16,y16,h⟩:=bm h
   exact x_to 17 [(3,.call [] [] (.tup [eS v16.1,i64 v16.2]) [])] (ocons (Tspec_ShiftSolid (Y:=Y) n a0.1.2.2.2.2.2.2.2 (Pt.mk zs zt zu) _ y16) onil) (Tspec_Move_3 n t1 (v16.2 != 0) a0 v16.1.inn v16.1.pl.A v16.1.pl.B v16.1.pl.C v16.1.pl.D v16.1.kids r h) 
  exact absurd h (by simp)
def Dspec_Move_1(n:Nat)(t1 t2:Int)(t12:Bool)(a0:Dsk)(zs zt zu:Int):Option (Dsk×Int) :=
 frk t12 ((Dspec_l20Copy n a0).bind fun v5=>some (v5,1)) (frk (t2==0) (Dspec_Move_2 n t1 0 (!a0.2.1) a0 zs zt zu) (frk (t2==1) (Dspec_Move_2 n t1 1 (!a0.2.2.1) a0 zs zt zu) (frk (t2==2) (Dspec_Move_2 n t1 2 (!a0.2.2.2.1) a0 zs zt zu) (frk (t2==3) (Dspec_Move_2 n t1 3 (!a0.2.2.2.2.1) a0 zs zt zu) (frk (t2==4) (Dspec_Move_2 n t1 4 (!a0.2.2.2.2.2.1) a0 zs zt zu) (frk (t2==5) (Dspec_Move_2 n t1 5 (!a0.2.2.2.2.2.2.1) a0 zs zt zu) (frk (t2==6) (Dspec_Move_2 n t1 6 (!a0.2.2.2.2.2.2.2.1) a0 zs zt zu) (frk (t2==7) (Dspec_Move_2 n t1 7 (!a0.2.2.2.2.2.2.2.2) a0 zs zt zu) (none)))))))))
theorem Tspec_Move_1{Y}(n:Nat)(t1 t2:Int)(t12:Bool)(a0:Dsk)(zs zt zu:Int)(r:(Dsk×Int))(h:Dspec_Move_1 n t1 t2 t12 a0 zs zt zu=some r):Wk Tryz.prog H Y 16 [.code (cp [1,0,0,1] (bodyOf Tryz.f16)),.blk 0,.code (cp [1,1] (bodyOf Tryz.f16))] (FinX Tryz.prog Tryz.f16 [] (.tup [.agg (cT38o r.1),i64 r.2]) []) ⟨[(1,i64 t1),(2,i64 t2),(4,.ptr 4 0),(7,.ptr 7 0),(8,.ptr 8 0),(12,bl t12)],[(4,⟨true,0,(cT38 a0)⟩),(7,⟨true,0,[i64 zs,i64 zt,i64 zu]⟩),(8,⟨true,0,[bl false,i64 0,i64 0,i64 0,i64 0,.nil,bl false,i64 0,i64 0,i64 0,i64 0,.nil,bl false,i64 0,i64 0,i64 0,i64 0,.nil,bl false,i64 0,i64 0,i64 0,i64 0,.nil,bl false,i64 0,i64 0,i64 0,i64 0,.nil,bl false,i64 0,i64 0,i64 0,i64 0,.nil,bl false,i64 0,i64 0,i64 0,i64 0,.nil,bl false,i64 0,i64 0,i64 0,i64 0,.nil,bl false,bl false,bl false,bl false,bl false,bl false,bl false,bl false]⟩)]⟩:=by
 unfold Dspec_Move_1 at h
 refine x_frk 0 [] onil h (by kernel_rfl) (fun h=>?_) (fun h=>?_)
 ·obtain⟨v5,y5,h⟩:=bm h
  replace h:=sj h;subst h
  exact x_end 7 [(1,.call [] [] (.agg (cT38o v5)) [])] [] (ocons (Tspec_l20Copy (Y:=Y) n a0 _ y5) onil) onil 
 ·refine x_pt 4 [] onil (by kernel_rfl) ?_
  rcases frk_eq h with ⟨hc,hk17⟩ | h
  ·subst hc
   replace h:=hk17
   exact x_to 5 [] onil (Tspec_Move_2 n t1 0 (!a0.2.1) a0 zs zt zu r h) 
  rcases frk_eq h with ⟨hc,hk18⟩ | h
  ·subst hc
   replace h:=hk18
   exact x_to 5 [] onil (Tspec_Move_2 n t1 1 (!a0.2.2.1) a0 zs zt zu r h) 
  rcases frk_eq h with ⟨hc,hk19⟩ | h
  ·subst hc
   replace h:=hk19
   exact x_to 5 [] onil (Tspec_Move_2 n t1 2 (!a0.2.2.2.1) a0 zs zt zu r h) 
  rcases frk_eq h with ⟨hc,hk20⟩ | h
  ·subst hc
   replace h:=hk20
   exact x_to 5 [] onil (Tspec_Move_2 n t1 3 (!a0.2.2.2.2.1) a0 zs zt zu r h) 
  rcases frk_eq h with ⟨hc,hk21⟩ | h
  ·subst hc
   replace h:=hk21
   exact x_to 5 [] onil (Tspec_Move_2 n t1 4 (!a0.2.2.2.2.2.1) a0 zs zt zu r h) 
  rcases frk_eq h with ⟨hc,hk22⟩ | h
  ·subst hc
   replace h:=hk22
   exact x_to 5 [] onil (Tspec_Move_2 n t1 5 (!a0.2.2.2.2.2.2.1) a0 zs zt zu r h) 
  rcases frk_eq h with ⟨hc,hk23⟩ | h
  ·subst hc
   replace h:=hk23
   exact x_to 5 [] onil (Tspec_Move_2 n t1 6 (!a0.2.2.2.2.2.2.2.1) a0 zs zt zu r h) 
  rcases frk_eq h with ⟨hc,hk24⟩ | h
  ·subst hc
   replace h:=hk24
   exact x_to 5 [] onil (Tspec_Move_2 n t1 7 (!a0.2.2.2.2.2.2.2.2) a0 zs zt zu r h) 
  exact absurd h (by simp)
def Dspec_Move(n:Nat)(a0:Dsk)(a1 a2:Int)(a3:Pt):Option (Dsk×Int) :=
 (Dspec_DeskOk n a0).bind fun v0=>frk (!v0) (Dspec_Move_0 n a0) ((Dspec_l20At a1).bind fun v2=>frk (!v2) (Dspec_Move_0 n a0) ((Dspec_l20At a2).bind fun v3=>frk (!v3) (Dspec_Move_0 n a0) ((Dspec_PtOk a3).bind fun v4=>Dspec_Move_1 n a1 a2 (!v4) a0 a3.X a3.Y a3.Z)))
theorem Tspec_Move{Y}(n:Nat)(a0:Dsk)(a1 a2:Int)(a3:Pt)(r:(Dsk×Int))(h:Dspec_Move n a0 a1 a2 a3=some r):Big Tryz.prog H Y (.call 16 [.agg (cT38 a0),i64 a1,i64 a2,.agg [i64 a3.X,i64 a3.Y,i64 a3.Z]] (lk []) (.tup [.agg (cT38o r.1),i64 r.2]) (lk [])):=by
 unfold Dspec_Move at h
 refine x_call (fn:=Tryz.f16) (c:=bodyOf Tryz.f16) (bs0:=[]) Tryz.func16 (by kernel_rfl) (by kernel_rfl) ?_
 obtain⟨v0,y0,h⟩:=bm h
 refine x_frk 15 [(5,.call [] [] (bl v0) [])] (ocons (Tspec_DeskOk (Y:=Y) n a0 _ y0) onil) h (by kernel_rfl) (fun h=>?_) (fun h=>?_)
 ·exact x_to 18 [] onil (Tspec_Move_0 n a0 r h) 
 ·obtain⟨v2,y2,h⟩:=bm h
  refine x_frk 5 [(1,.call [] [] (bl v2) [])] (ocons (Tspec_l20At (Y:=Y) a1 _ y2) onil) h (by kernel_rfl) (fun h=>?_) (fun h=>?_)
  ·exact x_to 13 [] onil (Tspec_Move_0 n a0 r h) 
  ·obtain⟨v3,y3,h⟩:=bm h
   refine x_frk 5 [(1,.call [] [] (bl v3) [])] (ocons (Tspec_l20At (Y:=Y) a2 _ y3) onil) h (by kernel_rfl) (fun h=>?_) (fun h=>?_)
   ·exact x_to 8 [] onil (Tspec_Move_0 n a0 r h) 
   ·obtain⟨v4,y4,h⟩:=bm h
    exact x_to 6 [(1,.call [] [] (bl v4) [])] (ocons (Tspec_PtOk (Y:=Y) a3 _ y4) onil) (Tspec_Move_1 n a1 a2 (!v4) a0 a3.X a3.Y a3.Z r h) 
def Dimpl_inRange(a0 a1 a2:Int):Option Bool :=
 frk (decide (a0≥a1)) (some (decide (a0≤a2))) (some false)
theorem Timpl_inRange{Y}(a0 a1 a2:Int)(r:Bool)(h:Dimpl_inRange a0 a1 a2=some r):Big Tryz.prog H Y (.call 123 [i64 a0,i64 a1,i64 a2] (lk []) (bl r) (lk [])):=by
 unfold Dimpl_inRange at h
 refine x_call (fn:=Tryz.f123) (c:=bodyOf Tryz.f123) (bs0:=[]) Tryz.func123 (by kernel_rfl) (by kernel_rfl) ?_
 refine x_frk 10 [] onil h (by kernel_rfl) (fun h=>?_) (fun h=>?_)
 ·replace h:=sj h;subst h
  exact x_end 6 [] [] onil onil 
 ·replace h:=sj h;subst h
  exact x_end 6 [] [] onil onil 
def Dimpl_isPlace(a0:Int):Option Bool :=
 (Dimpl_inRange a0 0 7).bind fun v0=>some v0
theorem Timpl_isPlace{Y}(a0:Int)(r:Bool)(h:Dimpl_isPlace a0=some r):Big Tryz.prog H Y (.call 59 [i64 a0] (lk []) (bl r) (lk [])):=by
 unfold Dimpl_isPlace at h
 refine x_call (fn:=Tryz.f59) (c:=bodyOf Tryz.f59) (bs0:=[]) Tryz.func59 (by kernel_rfl) (by kernel_rfl) ?_
 obtain⟨v0,y0,h⟩:=bm h
 replace h:=sj h;subst h
 exact x_end 10 [(2,.call [] [] (bl v0) [])] [] (ocons (Timpl_inRange (Y:=Y) a0 0 7 _ y0) onil) onil 
def Dimpl_copySolid_0(_n:Nat)(self:Sol→Option Sol)(t12:List Sol)(t13:Int)(_za:Bool)(_zb _zc _zd _ze:Int)(zg:Bool)(zh zi zj zah:Int)(rec0:(Int×List Sol)→Option Sol)(a:(Int×List Sol)):Option Sol :=
 match a with
 | (t14,l635)=>frk (decide (t14<t13)) ((lget t12 t14).bind fun v0=>(self v0).bind fun v1=>chk (apB 64 (l635.length+1)) (rec0 (w64 (t14+1),(l635++[v1])))) (some (Sol.mk zg (Pl.mk zh zi zj zah) l635))
theorem Timpl_copySolid_0{Y}(n:Nat)(self:Sol→Option Sol)(hself:∀(a:Sol) (r:Sol),self a=some r→Big Tryz.prog H Y (.call 124 [eF a] (lk []) (eS r) (lk [])))(t12:List Sol)(t13:Int)(za:Bool)(zb zc zd ze:Int)(zg:Bool)(zh zi zj zah:Int):∀(m:Nat) (a:(Int×List Sol)) (r:Sol),loopN (Dimpl_copySolid_0 n self t12 t13 za zb zc zd ze zg zh zi zj zah) m a=some r→Wk Tryz.prog H Y 124 [.code (cp [1,1,0,1,0] (bodyOf Tryz.f124)),.blk 0,.code (cp [1,1,1] (bodyOf Tryz.f124))] (FinX Tryz.prog Tryz.f124 [] (eS r) []) ⟨[(2,.ptr 2 0),(3,.ptr 3 0),(12,.sl false 6 t12.length ((eSol false).f t12)),(13,i64 t13),(14,i64 a.1)],[(2,⟨true,0,[bl za,i64 zb,i64 zc,i64 zd,i64 ze,.nil]⟩),(3,⟨true,0,[bl zg,i64 zh,i64 zi,i64 zj,i64 zah,.msl 635 a.2.length]⟩),(635,⟨true,6,(eSol true).f a.2⟩)]⟩:=by
 refine loopN_ind (fun _rec0 hrec0 a r h=>?_)
 obtain⟨t14,l635⟩:=a
 unfold Dimpl_copySolid_0 at h
 refine x_frk 6 [] onil h (by kernel_rfl) (fun h=>?_) (fun h=>?_)
 ·obtain⟨v0,y0,h⟩:=bm h
  obtain⟨v1,y1,h⟩:=bm h
  obtain⟨c2,h⟩:=chk_some h
  exact x_to 28 [(0,.val (.cptr ((eSol false).c v0++(eSol false).f ((t12).drop (Int.toNat t14+1))))),(6,.call [] [] (eS v1) []),(1,.fixb 22 ⟨true,6,(eSol true).f [v1]⟩),(0,.app true (List.length (l635++[v1])) ((eSol true).f (l635++[v1]))),(4,.ren 23 635)] (ocons (ix (eSol false) y0) (ocons (hself v0 _ y1) (ocons (boxSol true true [v1]) (ocons (len_row' (L:=l635) (eSol true)) (ocons (app_one (L:=l635) (M:=[v1]) (eSol true) c2) (ocons (app_new (L:=l635) (M:=[v1]) (eSol true)) (ocons (app_m (L:=l635) (M:=[v1]) (eSol true) rfl) (ocons (len_row' (L:=[v1]) (eSol true)) (ocons (show 23<1000∧635<1000 by decide) onil))))))))) (hrec0 (w64 (t14+1),(l635++[v1])) r h) 
 ·replace h:=sj h;subst h
  exact x_end 6 [] [] onil (ocons (len_row (L:=l635) (eSol true)) onil) 
def Dimpl_copySolid_b(n:Nat)(self:Sol→Option Sol)(a:Sol):Option Sol :=
 match a with
 | a0=>loopN (Dimpl_copySolid_0 n self a0.kids (a0.kids.length:Int) false 0 0 0 0 a0.inn a0.pl.A a0.pl.B a0.pl.C a0.pl.D) n (0,[])
def Dimpl_copySolid(n:Nat)(a0:Sol):Option Sol:=loopN (Dimpl_copySolid_b n) n a0
theorem Timpl_copySolid_b{Y}(n:Nat):∀(m:Nat) (a:Sol) (r:Sol),loopN (Dimpl_copySolid_b n) m a=some r→∀(_:Unit),Big Tryz.prog H Y (.call 124 [eF a] (lk []) (eS r) (lk [])):=by
 refine loopN_ind (fun self hs a r h=>?_)
 have hself:∀(a:Sol) (r:Sol),self a=some r→Big Tryz.prog H Y (.call 124 [eF a] (lk []) (eS r) (lk [])):=fun a r h=>hs a r h ()
 intro _
 obtain⟨a0,rfl⟩:∃x,x=a:=⟨a,rfl⟩
 unfold Dimpl_copySolid_b at h
 refine x_call (fn:=Tryz.f124) (c:=bodyOf Tryz.f124) (bs0:=[]) Tryz.func124 (by kernel_rfl) (by kernel_rfl) ?_
 exact x_to 25 [(9,.virtc 3 ⟨true,0,[bl a0.inn,i64 a0.pl.A,i64 a0.pl.B,i64 a0.pl.C,i64 a0.pl.D,.nil]⟩ 5 635 6)] (ocons (rflB ⟨true,0,[bl a0.inn,i64 a0.pl.A,i64 a0.pl.B,i64 a0.pl.C,i64 a0.pl.D,.nil]⟩) (ocons (⟨rfl,rfl,by decide,by decide,by decide⟩:(⟨true,0,[bl a0.inn,i64 a0.pl.A,i64 a0.pl.B,i64 a0.pl.C,i64 a0.pl.D,.nil]⟩:Box).cs[5]?=some .nil∧(⟨true,0,[bl a0.inn,i64 a0.pl.A,i64 a0.pl.B,i64 a0.pl.C,i64 a0.pl.D,.nil]⟩:Box).sz=0∧3≠635∧635<1000∧6≠0) onil)) (Timpl_copySolid_0 n self hself a0.kids (a0.kids.length:Int) false 0 0 0 0 a0.inn a0.pl.A a0.pl.B a0.pl.C a0.pl.D n (0,[]) r h) 
theorem Timpl_copySolid{Y}(n:Nat)(a0:Sol)(r:Sol)(h:Dimpl_copySolid n a0=some r):Big Tryz.prog H Y (.call 124 [eF a0] (lk []) (eS r) (lk [])):=Timpl_copySolid_b n n a0 r h ()
def Dimpl_copyDesk(n:Nat)(a0:Dsk):Option Dsk :=
 (Dimpl_copySolid n a0.1.1).bind fun v0=>(Dimpl_copySolid n a0.1.2.1).bind fun v1=>(Dimpl_copySolid n a0.1.2.2.1).bind fun v2=>(Dimpl_copySolid n a0.1.2.2.2.1).bind fun v3=>(Dimpl_copySolid n a0.1.2.2.2.2.1).bind fun v4=>(Dimpl_copySolid n a0.1.2.2.2.2.2.1).bind fun v5=>(Dimpl_copySolid n a0.1.2.2.2.2.2.2.1).bind fun v6=>(Dimpl_copySolid n a0.1.2.2.2.2.2.2.2).bind fun v7=>some ((v0,v1,v2,v3,v4,v5,v6,v7),a0.2)
theorem Timpl_copyDesk{Y}(n:Nat)(a0:Dsk)(r:Dsk)(h:Dimpl_copyDesk n a0=some r):Big Tryz.prog H Y (.call 61 [.agg (cT38 a0)] (lk []) (.agg (cT38o r)) (lk [])):=by
 unfold Dimpl_copyDesk at h
 refine x_call (fn:=Tryz.f61) (c:=bodyOf Tryz.f61) (bs0:=[]) Tryz.func61 (by kernel_rfl) (by kernel_rfl) ?_
 obtain⟨v0,y0,h⟩:=bm h
 obtain⟨v1,y1,h⟩:=bm h
 obtain⟨v2,y2,h⟩:=bm h
 obtain⟨v3,y3,h⟩:=bm h
 obtain⟨v4,y4,h⟩:=bm h
 obtain⟨v5,y5,h⟩:=bm h
 obtain⟨v6,y6,h⟩:=bm h
 obtain⟨v7,y7,h⟩:=bm h
 replace h:=sj h;subst h
 exact x_end 282 [(13,.call [] [] (eS v0) []),(13,.call [] [] (eS v1) []),(13,.call [] [] (eS v2) []),(13,.call [] [] (eS v3) []),(13,.call [] [] (eS v4) []),(13,.call [] [] (eS v5) []),(13,.call [] [] (eS v6) []),(13,.call [] [] (eS v7) [])] [] (ocons (Timpl_copySolid (Y:=Y) n a0.1.1 _ y0) (ocons (Timpl_copySolid (Y:=Y) n a0.1.2.1 _ y1) (ocons (Timpl_copySolid (Y:=Y) n a0.1.2.2.1 _ y2) (ocons (Timpl_copySolid (Y:=Y) n a0.1.2.2.2.1 _ y3) (ocons (Timpl_copySolid (Y:=Y) n a0.1.2.2.2.2.1 _ y4) (ocons (Timpl_copySolid (Y:=Y) n a0.1.2.2.2.2.2.1 _ y5) (ocons (Timpl_copySolid (Y:=Y) n a0.1.2.2.2.2.2.2.1 _ y6) (ocons (Timpl_copySolid (Y:=Y) n a0.1.2.2.2.2.2.2.2 _ y7) onil)))))))) onil 
def Dimpl_PtOk(a0:Pt):Option Bool :=
 (Dimpl_inRange a0.X (-1000000) 1000000).bind fun v0=>frk v0 ((Dimpl_inRange a0.Y (-1000000) 1000000).bind fun v1=>frk v1 ((Dimpl_inRange a0.Z (-1000000) 1000000).bind fun v2=>some v2) (some false)) (some false)
theorem Timpl_PtOk{Y}(a0:Pt)(r:Bool)(h:Dimpl_PtOk a0=some r):Big Tryz.prog H Y (.call 71 [.agg [i64 a0.X,i64 a0.Y,i64 a0.Z]] (lk []) (bl r) (lk [])):=by
 unfold Dimpl_PtOk at h
 refine x_call (fn:=Tryz.f71) (c:=bodyOf Tryz.f71) (bs0:=[]) Tryz.func71 (by kernel_rfl) (by kernel_rfl) ?_
 obtain⟨v0,y0,h⟩:=bm h
 refine x_frk 11 [(4,.call [] [] (bl v0) [])] (ocons (Timpl_inRange (Y:=Y) a0.X (-1000000) 1000000 _ y0) onil) h (by kernel_rfl) (fun h=>?_) (fun h=>?_)
 ·obtain⟨v1,y1,h⟩:=bm h
  refine x_frk 5 [(2,.call [] [] (bl v1) [])] (ocons (Timpl_inRange (Y:=Y) a0.Y (-1000000) 1000000 _ y1) onil) h (by kernel_rfl) (fun h=>?_) (fun h=>?_)
  ·obtain⟨v2,y2,h⟩:=bm h
   replace h:=sj h;subst h
   exact x_end 6 [(2,.call [] [] (bl v2) [])] [] (ocons (Timpl_inRange (Y:=Y) a0.Z (-1000000) 1000000 _ y2) onil) onil 
  ·replace h:=sj h;subst h
   exact x_end 6 [] [] onil onil 
 ·replace h:=sj h;subst h
  exact x_end 11 [] [] onil onil 
def Dimpl_Solid_isLeaf(a0:Sol):Option Bool :=
 some ((a0.kids.length:Int)==0)
theorem Timpl_Solid_isLeaf{Y}(a0:Sol)(q0:List AV)(r:Bool)(h:Dimpl_Solid_isLeaf a0=some r):Big Tryz.prog H Y (.call 127 [.cptr ([bl a0.inn,i64 a0.pl.A,i64 a0.pl.B,i64 a0.pl.C,i64 a0.pl.D,.sl false 6 a0.kids.length ((eSol false).f a0.kids)]++q0)] (lk []) (bl r) (lk [])):=by
 unfold Dimpl_Solid_isLeaf at h
 refine x_call (fn:=Tryz.f127) (c:=bodyOf Tryz.f127) (bs0:=[]) Tryz.func127 (by kernel_rfl) (by kernel_rfl) ?_
 replace h:=sj h;subst h
 exact x_end 14 [] [] onil onil 
def Dimpl_isCoef(a0:Int):Option Bool :=
 (Dimpl_inRange a0 (-500) 500).bind fun v0=>some v0
theorem Timpl_isCoef{Y}(a0:Int)(r:Bool)(h:Dimpl_isCoef a0=some r):Big Tryz.prog H Y (.call 189 [i64 a0] (lk []) (bl r) (lk [])):=by
 unfold Dimpl_isCoef at h
 refine x_call (fn:=Tryz.f189) (c:=bodyOf Tryz.f189) (bs0:=[]) Tryz.func189 (by kernel_rfl) (by kernel_rfl) ?_
 obtain⟨v0,y0,h⟩:=bm h
 replace h:=sj h;subst h
 exact x_end 10 [(2,.call [] [] (bl v0) [])] [] (ocons (Timpl_inRange (Y:=Y) a0 (-500) 500 _ y0) onil) onil 
def Dimpl_divisor_0(_n:Nat)(rec0:(Int×Int)→Option Int)(_t6:List Int)(_t7 t8:Int)(rec1:(Int×Int)→Option Int)(a:(Int×Int)):Option Int :=
 match a with
 | (t3,t5)=>frk (t5 != 0) ((rm .i64 t3 t5).bind fun v1=>rec1 (t5,v1)) (rec0 (t3,w64 (t8+1)))
theorem Timpl_divisor_0{Y}(n:Nat)(rec0:(Int×Int)→Option Int)(t6:List Int)(t7:Int)(hrec0:∀(a:(Int×Int)) (r:Int),rec0 a=some r→Wk Tryz.prog H Y 175 [.code (cp [1,1,0,1,0] (bodyOf Tryz.f175)),.blk 0,.code (cp [1,1,1] (bodyOf Tryz.f175))] (FinX Tryz.prog Tryz.f175 [] (i64 r) []) ⟨[(3,i64 a.1),(6,.sl false 1 t6.length ((eInt).f t6)),(7,i64 t7),(8,i64 a.2)],[]⟩)(t8:Int):∀(m:Nat) (a:(Int×Int)) (r:Int),loopN (Dimpl_divisor_0 n rec0 t6 t7 t8) m a=some r→Wk Tryz.prog H Y 175 [.code (cp [1,1,0,1,0,0,1,1,0,0,1,1,0] (bodyOf Tryz.f175)),.blk 2,.blk 1,.code (cp [1,1,0,1,0,0,1,1,1] (bodyOf Tryz.f175)),.lp (cp [1,1,0,1,0] (bodyOf Tryz.f175)),.blk 0,.code (cp [1,1,1] (bodyOf Tryz.f175))] (FinX Tryz.prog Tryz.f175 [] (i64 r) []) ⟨[(3,i64 a.1),(5,i64 a.2),(6,.sl false 1 t6.length ((eInt).f t6)),(7,i64 t7),(8,i64 t8)],[]⟩:=by
 refine loopN_ind (fun _rec1 hrec1 a r h=>?_)
 obtain⟨t3,t5⟩:=a
 unfold Dimpl_divisor_0 at h
 refine x_frk 7 [] onil h (by kernel_rfl) (fun h=>?_) (fun h=>?_)
 ·obtain⟨v1,y1,h⟩:=bm h
  exact x_to 12 [(3,.val (i64 v1))] (ocons (rmOk y1) onil) (hrec1 (t5,v1) r h) 
 ·exact x_to 7 [] onil (hrec0 (t3,w64 (t8+1)) r h) 
def Dimpl_divisor_1(n:Nat)(t6:List Int)(t7:Int)(rec0:(Int×Int)→Option Int)(a:(Int×Int)):Option Int :=
 match a with
 | (t3,t8)=>frk (decide (t8<t7)) ((lget t6 t8).bind fun v0=>loopN (Dimpl_divisor_0 n rec0 t6 t7 t8) n (t3,maxN v0 [w64 (0-v0)])) (some t3)
theorem Timpl_divisor_1{Y}(n:Nat)(t6:List Int)(t7:Int):∀(m:Nat) (a:(Int×Int)) (r:Int),loopN (Dimpl_divisor_1 n t6 t7) m a=some r→Wk Tryz.prog H Y 175 [.code (cp [1,1,0,1,0] (bodyOf Tryz.f175)),.blk 0,.code (cp [1,1,1] (bodyOf Tryz.f175))] (FinX Tryz.prog Tryz.f175 [] (i64 r) []) ⟨[(3,i64 a.1),(6,.sl false 1 t6.length ((eInt).f t6)),(7,i64 t7),(8,i64 a.2)],[]⟩:=by
 refine loopN_ind (fun rec0 hrec0 a r h=>?_)
 obtain⟨t3,t8⟩:=a
 unfold Dimpl_divisor_1 at h
 refine x_frk 6 [] onil h (by kernel_rfl) (fun h=>?_) (fun h=>?_)
 ·obtain⟨v0,y0,h⟩:=bm h
  exact x_to 18 [(0,.val (.cptr (eInt.c v0++(eInt).f ((t6).drop (Int.toNat t8+1))))),(5,.val (.lit (.int .i64 (maxN v0 [w64 (0-v0)]))))] (ocons (ix eInt y0) (ocons (maxNok .i64 [w64 (0-v0)] v0) onil)) (Timpl_divisor_0 n rec0 t6 t7 hrec0 t8 n (t3,maxN v0 [w64 (0-v0)]) r h) 
 ·replace h:=sj h;subst h
  exact x_end 6 [] [] onil onil 
def Dimpl_divisor(n:Nat)(a0:(List Int)):Option Int :=
 loopN (Dimpl_divisor_1 n a0 (a0.length:Int)) n (0,0)
theorem Timpl_divisor{Y}(n:Nat)(a0:(List Int))(r:Int)(h:Dimpl_divisor n a0=some r):Big Tryz.prog H Y (.call 175 [.sl false 1 a0.length ((eInt).f a0)] (lk []) (i64 r) (lk [])):=by
 unfold Dimpl_divisor at h
 refine x_call (fn:=Tryz.f175) (c:=bodyOf Tryz.f175) (bs0:=[]) Tryz.func175 (by kernel_rfl) (by kernel_rfl) ?_
 exact x_to 16 [] onil (Timpl_divisor_1 n a0 (a0.length:Int) n (0,0) r h) 
def Dimpl_PlaneOk_0(n:Nat)(t24:Bool)(zab zac zad zae:Int):Option Bool :=
 frk t24 (some false) (frk (zab != 0) ((Dimpl_divisor n [zab,zac,zad,zae]).bind fun v4=>some (v4==1)) (frk (zac != 0) ((Dimpl_divisor n [zab,zac,zad,zae]).bind fun v5=>some (v5==1)) (frk (zad != 0) ((Dimpl_divisor n [zab,zac,zad,zae]).bind fun v6=>some (v6==1)) (some false))))
theorem Timpl_PlaneOk_0{Y}(n:Nat)(t24:Bool)(zab zac zad zae:Int)(r:Bool)(h:Dimpl_PlaneOk_0 n t24 zab zac zad zae=some r):Wk Tryz.prog H Y 167 [.code (cp [1,0,1] (bodyOf Tryz.f167)),.code (cp [1,1] (bodyOf Tryz.f167))] (FinX Tryz.prog Tryz.f167 [] (bl r) []) ⟨[(1,.ptr 1 0),(24,bl t24)],[(1,⟨true,0,[i64 zab,i64 zac,i64 zad,i64 zae]⟩)]⟩:=by
 unfold Dimpl_PlaneOk_0 at h
 refine x_frk 0 [] onil h (by kernel_rfl) (fun h=>?_) (fun h=>?_)
 ·replace h:=sj h;subst h
  exact x_end 4 [] [] onil onil 
 ·refine x_frk 7 [] onil h (by kernel_rfl) (fun h=>?_) (fun h=>?_)
  ·obtain⟨v4,y4,h⟩:=bm h
   replace h:=sj h;subst h
   exact x_end 24 [(19,.call [] [(eInt).f [zab,zac,zad,zae]] (i64 v4) [])] [] (ocons (Timpl_divisor (Y:=Y) n [zab,zac,zad,zae] _ y4) (ocons (len_row (L:=[zab,zac,zad,zae]) eInt) (ocons (Enc.share eInt eInt sInt [zab,zac,zad,zae]) onil))) onil 
  ·refine x_frk 5 [] onil h (by kernel_rfl) (fun h=>?_) (fun h=>?_)
   ·obtain⟨v5,y5,h⟩:=bm h
    replace h:=sj h;subst h
    exact x_end 19 [(14,.call [] [(eInt).f [zab,zac,zad,zae]] (i64 v5) [])] [] (ocons (Timpl_divisor (Y:=Y) n [zab,zac,zad,zae] _ y5) (ocons (len_row (L:=[zab,zac,zad,zae]) eInt) (ocons (Enc.share eInt eInt sInt [zab,zac,zad,zae]) onil))) onil 
   ·refine x_frk 5 [] onil h (by kernel_rfl) (fun h=>?_) (fun h=>?_)
    ·obtain⟨v6,y6,h⟩:=bm h
     replace h:=sj h;subst h
     exact x_end 14 [(9,.call [] [(eInt).f [zab,zac,zad,zae]] (i64 v6) [])] [] (ocons (Timpl_divisor (Y:=Y) n [zab,zac,zad,zae] _ y6) (ocons (len_row (L:=[zab,zac,zad,zae]) eInt) (ocons (Enc.share eInt eInt sInt [zab,zac,zad,zae]) onil))) onil 
    ·replace h:=sj h;subst h
     exact x_end 14 [] [] onil onil 
def Dimpl_PlaneOk(n:Nat)(a0:Pl):Option Bool :=
 (Dimpl_isCoef a0.A).bind fun v0=>frk (!v0) (some false) ((Dimpl_isCoef a0.B).bind fun v1=>frk (!v1) (some false) ((Dimpl_isCoef a0.C).bind fun v2=>frk (!v2) (some false) ((Dimpl_isCoef a0.D).bind fun v3=>Dimpl_PlaneOk_0 n (!v3) a0.A a0.B a0.C a0.D)))
theorem Timpl_PlaneOk{Y}(n:Nat)(a0:Pl)(r:Bool)(h:Dimpl_PlaneOk n a0=some r):Big Tryz.prog H Y (.call 167 [.agg [i64 a0.A,i64 a0.B,i64 a0.C,i64 a0.D]] (lk []) (bl r) (lk [])):=by
 unfold Dimpl_PlaneOk at h
 refine x_call (fn:=Tryz.f167) (c:=bodyOf Tryz.f167) (bs0:=[]) Tryz.func167 (by kernel_rfl) (by kernel_rfl) ?_
 obtain⟨v0,y0,h⟩:=bm h
 refine x_frk 13 [(4,.call [] [] (bl v0) [])] (ocons (Timpl_isCoef (Y:=Y) a0.A _ y0) onil) h (by kernel_rfl) (fun h=>?_) (fun h=>?_)
 ·replace h:=sj h;subst h
  exact x_end 23 [] [] onil onil 
 ·obtain⟨v1,y1,h⟩:=bm h
  refine x_frk 6 [(2,.call [] [] (bl v1) [])] (ocons (Timpl_isCoef (Y:=Y) a0.B _ y1) onil) h (by kernel_rfl) (fun h=>?_) (fun h=>?_)
  ·replace h:=sj h;subst h
   exact x_end 17 [] [] onil onil 
  ·obtain⟨v2,y2,h⟩:=bm h
   refine x_frk 6 [(2,.call [] [] (bl v2) [])] (ocons (Timpl_isCoef (Y:=Y) a0.C _ y2) onil) h (by kernel_rfl) (fun h=>?_) (fun h=>?_)
   ·replace h:=sj h;subst h
    exact x_end 11 [] [] onil onil 
   ·obtain⟨v3,y3,h⟩:=bm h
    exact x_to 6 [(2,.call [] [] (bl v3) [])] (ocons (Timpl_isCoef (Y:=Y) a0.D _ y3) onil) (Timpl_PlaneOk_0 n (!v3) a0.A a0.B a0.C a0.D r h) 
def Dimpl_flip(a0:Pl):Option Pl :=
 some (Pl.mk (w64 (0-a0.A)) (w64 (0-a0.B)) (w64 (0-a0.C)) (w64 (0-a0.D)))
theorem Timpl_flip{Y}(a0:Pl)(r:Pl)(h:Dimpl_flip a0=some r):Big Tryz.prog H Y (.call 163 [.agg [i64 a0.A,i64 a0.B,i64 a0.C,i64 a0.D]] (lk []) (.agg [i64 r.A,i64 r.B,i64 r.C,i64 r.D]) (lk [])):=by
 unfold Dimpl_flip at h
 refine x_call (fn:=Tryz.f163) (c:=bodyOf Tryz.f163) (bs0:=[]) Tryz.func163 (by kernel_rfl) (by kernel_rfl) ?_
 replace h:=sj h;subst h
 exact x_end 22 [] [] onil onil 
def Dimpl_normal(a0:Pl):Option (Int×Int×Int) :=
 some (a0.A,a0.B,a0.C)
theorem Timpl_normal{Y}(a0:Pl)(r:(Int×Int×Int))(h:Dimpl_normal a0=some r):Big Tryz.prog H Y (.call 144 [.agg [i64 a0.A,i64 a0.B,i64 a0.C,i64 a0.D]] (lk []) (.agg [i64 r.1,i64 r.2.1,i64 r.2.2]) (lk [])):=by
 unfold Dimpl_normal at h
 refine x_call (fn:=Tryz.f144) (c:=bodyOf Tryz.f144) (bs0:=[]) Tryz.func144 (by kernel_rfl) (by kernel_rfl) ?_
 replace h:=sj h;subst h
 exact x_end 16 [] [] onil onil 
def Dimpl_crossOf(a0:(Int×Int×Int))(a1:(Int×Int×Int)):Option (Int×Int×Int) :=
 some (w64 ((w64 (a0.2.1*a1.2.2))-(w64 (a0.2.2*a1.2.1))),w64 ((w64 (a0.2.2*a1.1))-(w64 (a0.1*a1.2.2))),w64 ((w64 (a0.1*a1.2.1))-(w64 (a0.2.1*a1.1))))
theorem Timpl_crossOf{Y}(a0:(Int×Int×Int))(a1:(Int×Int×Int))(r:(Int×Int×Int))(h:Dimpl_crossOf a0 a1=some r):Big Tryz.prog H Y (.call 143 [.agg [i64 a0.1,i64 a0.2.1,i64 a0.2.2],.agg [i64 a1.1,i64 a1.2.1,i64 a1.2.2]] (lk []) (.agg [i64 r.1,i64 r.2.1,i64 r.2.2]) (lk [])):=by
 unfold Dimpl_crossOf at h
 refine x_call (fn:=Tryz.f143) (c:=bodyOf Tryz.f143) (bs0:=[]) Tryz.func143 (by kernel_rfl) (by kernel_rfl) ?_
 replace h:=sj h;subst h
 exact x_end 44 [] [] onil onil 
def Dimpl_dot(a0:(Int×Int×Int))(a1:(Int×Int×Int)):Option Int :=
 some (w64 ((w64 ((w64 (a0.1*a1.1))+(w64 (a0.2.1*a1.2.1))))+(w64 (a0.2.2*a1.2.2))))
theorem Timpl_dot{Y}(a0:(Int×Int×Int))(a1:(Int×Int×Int))(r:Int)(h:Dimpl_dot a0 a1=some r):Big Tryz.prog H Y (.call 195 [.agg [i64 a0.1,i64 a0.2.1,i64 a0.2.2],.agg [i64 a1.1,i64 a1.2.1,i64 a1.2.2]] (lk []) (i64 r) (lk [])):=by
 unfold Dimpl_dot at h
 refine x_call (fn:=Tryz.f195) (c:=bodyOf Tryz.f195) (bs0:=[]) Tryz.func195 (by kernel_rfl) (by kernel_rfl) ?_
 replace h:=sj h;subst h
 exact x_end 27 [] [] onil onil 
def Dcmp_isNaN(a0:Int):Option Bool :=
 some (a0 != a0)
theorem Tcmp_isNaN{Y}(a0:Int)(r:Bool)(h:Dcmp_isNaN a0=some r):Big Tryz.prog H Y (.call 231 [i64 a0] (lk []) (bl r) (lk [])):=by
 unfold Dcmp_isNaN at h
 refine x_call (fn:=Tryz.f231) (c:=bodyOf Tryz.f231) (bs0:=[]) Tryz.func231 (by kernel_rfl) (by kernel_rfl) ?_
 replace h:=sj h;subst h
 exact x_end 11 [] [] onil onil 
def Dcmp_Compare(a0 a1:Int):Option Int :=
 (Dcmp_isNaN a0).bind fun v0=>(Dcmp_isNaN a1).bind fun v1=>frk v0 (frk v1 (some 0) (some (-1))) (frk v1 (some 1) (frk (decide (a0<a1)) (some (-1)) (frk (decide (a0>a1)) (some 1) (some 0))))
theorem Tcmp_Compare{Y}(a0 a1 r:Int)(h:Dcmp_Compare a0 a1=some r):Big Tryz.prog H Y (.call 200 [i64 a0,i64 a1] (lk []) (i64 r) (lk [])):=by
 unfold Dcmp_Compare at h
 refine x_call (fn:=Tryz.f200) (c:=bodyOf Tryz.f200) (bs0:=[]) Tryz.func200 (by kernel_rfl) (by kernel_rfl) ?_
 obtain⟨v0,y0,h⟩:=bm h
 obtain⟨v1,y1,h⟩:=bm h
 refine x_frk 21 [(2,.call [] [] (bl v0) []),(2,.call [] [] (bl v1) [])] (ocons (Tcmp_isNaN (Y:=Y) a0 _ y0) (ocons (Tcmp_isNaN (Y:=Y) a1 _ y1) onil)) h (by kernel_rfl) (fun h=>?_) (fun h=>?_)
 ·refine x_frk 5 [] onil h (by kernel_rfl) (fun h=>?_) (fun h=>?_)
  ·replace h:=sj h;subst h
   exact x_end 4 [] [] onil onil 
  ·replace h:=sj h;subst h
   exact x_end 5 [] [] onil onil 
 ·refine x_frk 6 [] onil h (by kernel_rfl) (fun h=>?_) (fun h=>?_)
  ·replace h:=sj h;subst h
   exact x_end 4 [] [] onil onil 
  ·refine x_frk 8 [] onil h (by kernel_rfl) (fun h=>?_) (fun h=>?_)
   ·replace h:=sj h;subst h
    exact x_end 4 [] [] onil onil 
   ·refine x_frk 8 [] onil h (by kernel_rfl) (fun h=>?_) (fun h=>?_)
    ·replace h:=sj h;subst h
     exact x_end 4 [] [] onil onil 
    ·replace h:=sj h;subst h
     exact x_end 5 [] [] onil onil 
def Dimpl_sign(a0:Int):Option Int :=
 (Dcmp_Compare a0 0).bind fun v0=>some v0
theorem Timpl_sign{Y}(a0 r:Int)(h:Dimpl_sign a0=some r):Big Tryz.prog H Y (.call 214 [i64 a0] (lk []) (i64 r) (lk [])):=by
 unfold Dimpl_sign at h
 refine x_call (fn:=Tryz.f214) (c:=bodyOf Tryz.f214) (bs0:=[]) Tryz.func214 (by kernel_rfl) (by kernel_rfl) ?_
 obtain⟨v0,y0,h⟩:=bm h
 replace h:=sj h;subst h
 exact x_end 10 [(2,.call [] [] (i64 v0) [])] [] (ocons (Tcmp_Compare (Y:=Y) a0 0 _ y0) onil) onil 
def Dimpl_parallel(a0:Pl)(a1:Pl):Option Int :=
 (Dimpl_normal a0).bind fun v0=>(Dimpl_normal a1).bind fun v1=>(Dimpl_crossOf v0 v1).bind fun v2=>frk (!(v2.1==0&&(v2.2.1==0&&(v2.2.2==0&&true)))) (some 0) ((Dimpl_normal a0).bind fun v3=>(Dimpl_normal a1).bind fun v4=>(Dimpl_dot v3 v4).bind fun v5=>(Dimpl_sign v5).bind fun v6=>some v6)
theorem Timpl_parallel{Y}(a0:Pl)(a1:Pl)(r:Int)(h:Dimpl_parallel a0 a1=some r):Big Tryz.prog H Y (.call 242 [.agg [i64 a0.A,i64 a0.B,i64 a0.C,i64 a0.D],.agg [i64 a1.A,i64 a1.B,i64 a1.C,i64 a1.D]] (lk []) (i64 r) (lk [])):=by
 unfold Dimpl_parallel at h
 refine x_call (fn:=Tryz.f242) (c:=bodyOf Tryz.f242) (bs0:=[]) Tryz.func242 (by kernel_rfl) (by kernel_rfl) ?_
 obtain⟨v0,y0,h⟩:=bm h
 obtain⟨v1,y1,h⟩:=bm h
 obtain⟨v2,y2,h⟩:=bm h
 refine x_frk 17 [(4,.call [] [] (.agg [i64 v0.1,i64 v0.2.1,i64 v0.2.2]) []),(1,.call [] [] (.agg [i64 v1.1,i64 v1.2.1,i64 v1.2.2]) []),(0,.call [] [] (.agg [i64 v2.1,i64 v2.2.1,i64 v2.2.2]) [])] (ocons (Timpl_normal (Y:=Y) a0 _ y0) (ocons (Timpl_normal (Y:=Y) a1 _ y1) (ocons (Timpl_crossOf (Y:=Y) v0 v1 _ y2) onil))) h (by kernel_rfl) (fun h=>?_) (fun h=>?_)
 ·replace h:=sj h;subst h
  exact x_end 4 [] [] onil onil 
 ·obtain⟨v3,y3,h⟩:=bm h
  obtain⟨v4,y4,h⟩:=bm h
  obtain⟨v5,y5,h⟩:=bm h
  obtain⟨v6,y6,h⟩:=bm h
  replace h:=sj h;subst h
  exact x_end 11 [(1,.call [] [] (.agg [i64 v3.1,i64 v3.2.1,i64 v3.2.2]) []),(1,.call [] [] (.agg [i64 v4.1,i64 v4.2.1,i64 v4.2.2]) []),(0,.call [] [] (i64 v5) []),(0,.call [] [] (i64 v6) [])] [] (ocons (Timpl_normal (Y:=Y) a0 _ y3) (ocons (Timpl_normal (Y:=Y) a1 _ y4) (ocons (Timpl_dot (Y:=Y) v3 v4 _ y5) (ocons (Timpl_sign (Y:=Y) v5 _ y6) onil)))) onil 
def Dimpl_clash2(_n:Nat)(a0:Pl)(a1:Pl):Option Bool :=
 (Dimpl_parallel a0 a1).bind fun v0=>frk (decide (v0≥0)) (some false) ((Dimpl_normal a0).bind fun v1=>(Dimpl_normal a1).bind fun v2=>frk (v1.1 != 0) (some (decide ((w64 ((w64 (a0.D*(maxN v2.1 [w64 (0-v2.1)])))+(w64 (a1.D*(maxN v1.1 [w64 (0-v1.1)])))))≤0))) (frk (v1.2.1 != 0) (some (decide ((w64 ((w64 (a0.D*(maxN v2.2.1 [w64 (0-v2.2.1)])))+(w64 (a1.D*(maxN v1.2.1 [w64 (0-v1.2.1)])))))≤0))) (frk (v1.2.2 != 0) (some (decide ((w64 ((w64 (a0.D*(maxN v2.2.2 [w64 (0-v2.2.2)])))+(w64 (a1.D*(maxN v1.2.2 [w64 (0-v1.2.2)])))))≤0))) (some false))))
theorem Timpl_clash2{Y}(n:Nat)(a0:Pl)(a1:Pl)(r:Bool)(h:Dimpl_clash2 n a0 a1=some r):Big Tryz.prog H Y (.call 210 [.agg [i64 a0.A,i64 a0.B,i64 a0.C,i64 a0.D],.agg [i64 a1.A,i64 a1.B,i64 a1.C,i64 a1.D]] (lk []) (bl r) (lk [])):=by
 unfold Dimpl_clash2 at h
 refine x_call (fn:=Tryz.f210) (c:=bodyOf Tryz.f210) (bs0:=[]) Tryz.func210 (by kernel_rfl) (by kernel_rfl) ?_
 obtain⟨v0,y0,h⟩:=bm h
 refine x_frk 14 [(5,.call [] [] (i64 v0) [])] (ocons (Timpl_parallel (Y:=Y) a0 a1 _ y0) onil) h (by kernel_rfl) (fun h=>?_) (fun h=>?_)
 ·replace h:=sj h;subst h
  exact x_end 4 [] [] onil onil 
 ·obtain⟨v1,y1,h⟩:=bm h
  obtain⟨v2,y2,h⟩:=bm h
  refine x_frk 40 [(1,.call [] [] (.agg [i64 v1.1,i64 v1.2.1,i64 v1.2.2]) []),(1,.call [] [] (.agg [i64 v2.1,i64 v2.2.1,i64 v2.2.2]) [])] (ocons (Timpl_normal (Y:=Y) a0 _ y1) (ocons (Timpl_normal (Y:=Y) a1 _ y2) onil)) h (by kernel_rfl) (fun h=>?_) (fun h=>?_)
  ·replace h:=sj h;subst h
   exact x_end 28 [(9,.val (.lit (.int .i64 (maxN v2.1 [w64 (0-v2.1)])))),(10,.val (.lit (.int .i64 (maxN v1.1 [w64 (0-v1.1)]))))] [] (ocons (maxNok .i64 [w64 (0-v2.1)] v2.1) (ocons (maxNok .i64 [w64 (0-v1.1)] v1.1) onil)) onil 
  ·refine x_frk 29 [] onil h (by kernel_rfl) (fun h=>?_) (fun h=>?_)
   ·replace h:=sj h;subst h
    exact x_end 28 [(9,.val (.lit (.int .i64 (maxN v2.2.1 [w64 (0-v2.2.1)])))),(10,.val (.lit (.int .i64 (maxN v1.2.1 [w64 (0-v1.2.1)]))))] [] (ocons (maxNok .i64 [w64 (0-v2.2.1)] v2.2.1) (ocons (maxNok .i64 [w64 (0-v1.2.1)] v1.2.1) onil)) onil 
   ·refine x_frk 29 [] onil h (by kernel_rfl) (fun h=>?_) (fun h=>?_)
    ·replace h:=sj h;subst h
     exact x_end 28 [(9,.val (.lit (.int .i64 (maxN v2.2.2 [w64 (0-v2.2.2)])))),(10,.val (.lit (.int .i64 (maxN v1.2.2 [w64 (0-v1.2.2)]))))] [] (ocons (maxNok .i64 [w64 (0-v2.2.2)] v2.2.2) (ocons (maxNok .i64 [w64 (0-v1.2.2)] v1.2.2) onil)) onil 
    ·replace h:=sj h;subst h
     exact x_end 19 [] [] onil onil 
def Dimpl_det(a0:(Int×Int×Int))(a1:(Int×Int×Int))(a2:(Int×Int×Int)):Option Int :=
 (Dimpl_crossOf a1 a2).bind fun v0=>(Dimpl_dot a0 v0).bind fun v1=>some v1
theorem Timpl_det{Y}(a0:(Int×Int×Int))(a1:(Int×Int×Int))(a2:(Int×Int×Int))(r:Int)(h:Dimpl_det a0 a1 a2=some r):Big Tryz.prog H Y (.call 194 [.agg [i64 a0.1,i64 a0.2.1,i64 a0.2.2],.agg [i64 a1.1,i64 a1.2.1,i64 a1.2.2],.agg [i64 a2.1,i64 a2.2.1,i64 a2.2.2]] (lk []) (i64 r) (lk [])):=by
 unfold Dimpl_det at h
 refine x_call (fn:=Tryz.f194) (c:=bodyOf Tryz.f194) (bs0:=[]) Tryz.func194 (by kernel_rfl) (by kernel_rfl) ?_
 obtain⟨v0,y0,h⟩:=bm h
 obtain⟨v1,y1,h⟩:=bm h
 replace h:=sj h;subst h
 exact x_end 16 [(7,.call [] [] (.agg [i64 v0.1,i64 v0.2.1,i64 v0.2.2]) []),(0,.call [] [] (i64 v1) [])] [] (ocons (Timpl_crossOf (Y:=Y) a1 a2 _ y0) (ocons (Timpl_dot (Y:=Y) a0 v0 _ y1) onil)) onil 
def Dimpl_weighs_0(_n:Nat)(rec0:(Int×Int)→Option Bool)(t1:List Int)(_t5:Int)(_t13:List Int)(_t14 t6 t7 t8 t15:Int)(t27:Bool):Option Bool :=
 frk t27 (some false) ((lget t1 t7).bind fun v4=>rec0 (w64 (t6+(w64 (t8*v4))),w64 (t15+1)))
theorem Timpl_weighs_0{Y}(n:Nat)(rec0:(Int×Int)→Option Bool)(t1:List Int)(t5:Int)(t13:List Int)(t14:Int)(hrec0:∀(a:(Int×Int)) (r:Bool),rec0 a=some r→Wk Tryz.prog H Y 243 [.code (cp [1,1,1,0,1,0] (bodyOf Tryz.f243)),.blk 0,.code (cp [1,1,1,1] (bodyOf Tryz.f243))] (FinX Tryz.prog Tryz.f243 [] (bl r) []) ⟨[(1,.sl false 1 t1.length ((eInt).f t1)),(5,i64 t5),(6,i64 a.1),(13,.sl false 1 t13.length ((eInt).f t13)),(14,i64 t14),(15,i64 a.2)],[]⟩)(t6 t7 t8 t15:Int)(t27 r:Bool)(h:Dimpl_weighs_0 n rec0 t1 t5 t13 t14 t6 t7 t8 t15 t27=some r):Wk Tryz.prog H Y 243 [.code (cp [1,1,1,0,1,0,0,1,1,0,0,1,0,1] (bodyOf Tryz.f243)),.code (cp [1,1,1,0,1,0,0,1,1,0,0,1,1] (bodyOf Tryz.f243)),.blk 1,.code (cp [1,1,1,0,1,0,0,1,1,1] (bodyOf Tryz.f243)),.lp (cp [1,1,1,0,1,0] (bodyOf Tryz.f243)),.blk 0,.code (cp [1,1,1,1] (bodyOf Tryz.f243))] (FinX Tryz.prog Tryz.f243 [] (bl r) []) ⟨[(1,.sl false 1 t1.length ((eInt).f t1)),(5,i64 t5),(6,i64 t6),(7,i64 t7),(8,i64 t8),(13,.sl false 1 t13.length ((eInt).f t13)),(14,i64 t14),(15,i64 t15),(27,bl t27)],[]⟩:=by
 unfold Dimpl_weighs_0 at h
 refine x_frk 0 [] onil h (by kernel_rfl) (fun h=>?_) (fun h=>?_)
 ·replace h:=sj h;subst h
  exact x_end 4 [] [] onil onil 
 ·obtain⟨v4,y4,h⟩:=bm h
  exact x_to 18 [(4,.val (.cptr (eInt.c v4++(eInt).f ((t1).drop (Int.toNat t7+1)))))] (ocons (ix eInt y4) onil) (hrec0 (w64 (t6+(w64 (t8*v4))),w64 (t15+1)) r h) 
def Dimpl_weighs_1(n:Nat)(t1:List Int)(t5:Int)(t13:List Int)(t14:Int)(rec0:(Int×Int)→Option Bool)(a:(Int×Int)):Option Bool :=
 match a with
 | (t6,t15)=>frk (decide (t15<t14)) ((lget t13 t15).bind fun v2=>frk (t5==0) (some false) ((Dimpl_sign v2).bind fun v3=>Dimpl_weighs_0 n rec0 t1 t5 t13 t14 t6 t15 v2 t15 (v3 != t5))) (some (decide ((w64 (t6*t5))≤0)))
theorem Timpl_weighs_1{Y}(n:Nat)(t1:List Int)(t5:Int)(t13:List Int)(t14:Int):∀(m:Nat) (a:(Int×Int)) (r:Bool),loopN (Dimpl_weighs_1 n t1 t5 t13 t14) m a=some r→Wk Tryz.prog H Y 243 [.code (cp [1,1,1,0,1,0] (bodyOf Tryz.f243)),.blk 0,.code (cp [1,1,1,1] (bodyOf Tryz.f243))] (FinX Tryz.prog Tryz.f243 [] (bl r) []) ⟨[(1,.sl false 1 t1.length ((eInt).f t1)),(5,i64 t5),(6,i64 a.1),(13,.sl false 1 t13.length ((eInt).f t13)),(14,i64 t14),(15,i64 a.2)],[]⟩:=by
 refine loopN_ind (fun rec0 hrec0 a r h=>?_)
 obtain⟨t6,t15⟩:=a
 unfold Dimpl_weighs_1 at h
 refine x_frk 6 [] onil h (by kernel_rfl) (fun h=>?_) (fun h=>?_)
 ·obtain⟨v2,y2,h⟩:=bm h
  refine x_frk 17 [(1,.val (.cptr (eInt.c v2++(eInt).f ((t13).drop (Int.toNat t15+1)))))] (ocons (ix eInt y2) onil) h (by kernel_rfl) (fun h=>?_) (fun h=>?_)
  ·replace h:=sj h;subst h
   exact x_end 11 [] [] onil onil 
  ·obtain⟨v3,y3,h⟩:=bm h
   exact x_to 6 [(1,.call [] [] (i64 v3) [])] (ocons (Timpl_sign (Y:=Y) v2 _ y3) onil) (Timpl_weighs_0 n rec0 t1 t5 t13 t14 hrec0 t6 t15 v2 t15 (v3 != t5) r h) 
 ·replace h:=sj h;subst h
  exact x_end 9 [] [] onil onil 
def Dimpl_weighs(n:Nat)(a0:(List Int))(a1:(List Int)):Option Bool :=
 (lget a0 0).bind fun v0=>(Dimpl_sign v0).bind fun v1=>loopN (Dimpl_weighs_1 n a1 v1 a0 (a0.length:Int)) n (0,0)
theorem Timpl_weighs{Y}(n:Nat)(a0:(List Int))(a1:(List Int))(r:Bool)(h:Dimpl_weighs n a0 a1=some r):Big Tryz.prog H Y (.call 243 [.sl false 1 a0.length ((eInt).f a0),.sl false 1 a1.length ((eInt).f a1)] (lk []) (bl r) (lk [])):=by
 unfold Dimpl_weighs at h
 refine x_call (fn:=Tryz.f243) (c:=bodyOf Tryz.f243) (bs0:=[]) Tryz.func243 (by kernel_rfl) (by kernel_rfl) ?_
 obtain⟨v0,y0,h⟩:=bm h
 obtain⟨v1,y1,h⟩:=bm h
 exact x_to 24 [(2,.val (.cptr (eInt.c v0++(eInt).f ((a0).drop (Int.toNat 0+1))))),(1,.call [] [] (i64 v1) [])] (ocons (ix eInt y0) (ocons (Timpl_sign (Y:=Y) v0 _ y1) onil)) (Timpl_weighs_1 n a1 v1 a0 (a0.length:Int) n (0,0) r h) 
def Dimpl_clash3(n:Nat)(a0:Pl)(a1:Pl)(a2:Pl):Option Bool :=
 (Dimpl_normal a0).bind fun v0=>(Dimpl_normal a1).bind fun v1=>(Dimpl_normal a2).bind fun v2=>(Dimpl_det v0 v1 v2).bind fun v3=>frk (v3 != 0) (some false) ((Dimpl_crossOf v0 v1).bind fun v4=>(Dimpl_crossOf v1 v2).bind fun v5=>(Dimpl_dot v5 v4).bind fun v6=>(Dimpl_crossOf v2 v0).bind fun v7=>(Dimpl_dot v7 v4).bind fun v8=>(Dimpl_dot v4 v4).bind fun v9=>(Dimpl_weighs n [v6,v8,v9] [a0.D,a1.D,a2.D]).bind fun v10=>some v10)
theorem Timpl_clash3{Y}(n:Nat)(a0:Pl)(a1:Pl)(a2:Pl)(r:Bool)(h:Dimpl_clash3 n a0 a1 a2=some r):Big Tryz.prog H Y (.call 211 [.agg [i64 a0.A,i64 a0.B,i64 a0.C,i64 a0.D],.agg [i64 a1.A,i64 a1.B,i64 a1.C,i64 a1.D],.agg [i64 a2.A,i64 a2.B,i64 a2.C,i64 a2.D]] (lk []) (bl r) (lk [])):=by
 unfold Dimpl_clash3 at h
 refine x_call (fn:=Tryz.f211) (c:=bodyOf Tryz.f211) (bs0:=[]) Tryz.func211 (by kernel_rfl) (by kernel_rfl) ?_
 obtain⟨v0,y0,h⟩:=bm h
 obtain⟨v1,y1,h⟩:=bm h
 obtain⟨v2,y2,h⟩:=bm h
 obtain⟨v3,y3,h⟩:=bm h
 refine x_frk 31 [(5,.call [] [] (.agg [i64 v0.1,i64 v0.2.1,i64 v0.2.2]) []),(1,.call [] [] (.agg [i64 v1.1,i64 v1.2.1,i64 v1.2.2]) []),(1,.call [] [] (.agg [i64 v2.1,i64 v2.2.1,i64 v2.2.2]) []),(9,.call [] [] (i64 v3) [])] (ocons (Timpl_normal (Y:=Y) a0 _ y0) (ocons (Timpl_normal (Y:=Y) a1 _ y1) (ocons (Timpl_normal (Y:=Y) a2 _ y2) (ocons (Timpl_det (Y:=Y) v0 v1 v2 _ y3) onil)))) h (by kernel_rfl) (fun h=>?_) (fun h=>?_)
 ·replace h:=sj h;subst h
  exact x_end 4 [] [] onil onil 
 ·obtain⟨v4,y4,h⟩:=bm h
  obtain⟨v5,y5,h⟩:=bm h
  obtain⟨v6,y6,h⟩:=bm h
  obtain⟨v7,y7,h⟩:=bm h
  obtain⟨v8,y8,h⟩:=bm h
  obtain⟨v9,y9,h⟩:=bm h
  obtain⟨v10,y10,h⟩:=bm h
  replace h:=sj h;subst h
  exact x_end 35 [(2,.call [] [] (.agg [i64 v4.1,i64 v4.2.1,i64 v4.2.2]) []),(4,.call [] [] (.agg [i64 v5.1,i64 v5.2.1,i64 v5.2.2]) []),(1,.call [] [] (i64 v6) []),(2,.call [] [] (.agg [i64 v7.1,i64 v7.2.1,i64 v7.2.2]) []),(1,.call [] [] (i64 v8) []),(2,.call [] [] (i64 v9) []),(8,.call [] [(eInt).f [a0.D,a1.D,a2.D],(eInt).f [v6,v8,v9]] (bl v10) [])] [] (ocons (Timpl_crossOf (Y:=Y) v0 v1 _ y4) (ocons (Timpl_crossOf (Y:=Y) v1 v2 _ y5) (ocons (Timpl_dot (Y:=Y) v5 v4 _ y6) (ocons (Timpl_crossOf (Y:=Y) v2 v0 _ y7) (ocons (Timpl_dot (Y:=Y) v7 v4 _ y8) (ocons (Timpl_dot (Y:=Y) v4 v4 _ y9) (ocons (Timpl_weighs (Y:=Y) n [v6,v8,v9] [a0.D,a1.D,a2.D] _ y10) (ocons (len_row (L:=[v6,v8,v9]) eInt) (ocons (Enc.share eInt eInt sInt [v6,v8,v9]) (ocons (len_row (L:=[a0.D,a1.D,a2.D]) eInt) (ocons (Enc.share eInt eInt sInt [a0.D,a1.D,a2.D]) onil))))))))))) onil 
def Dimpl_det3(a0:Pl)(a1:Pl)(a2:Pl):Option Int :=
 (Dimpl_normal a0).bind fun v0=>(Dimpl_normal a1).bind fun v1=>(Dimpl_normal a2).bind fun v2=>(Dimpl_det v0 v1 v2).bind fun v3=>some v3
theorem Timpl_det3{Y}(a0:Pl)(a1:Pl)(a2:Pl)(r:Int)(h:Dimpl_det3 a0 a1 a2=some r):Big Tryz.prog H Y (.call 196 [.agg [i64 a0.A,i64 a0.B,i64 a0.C,i64 a0.D],.agg [i64 a1.A,i64 a1.B,i64 a1.C,i64 a1.D],.agg [i64 a2.A,i64 a2.B,i64 a2.C,i64 a2.D]] (lk []) (i64 r) (lk [])):=by
 unfold Dimpl_det3 at h
 refine x_call (fn:=Tryz.f196) (c:=bodyOf Tryz.f196) (bs0:=[]) Tryz.func196 (by kernel_rfl) (by kernel_rfl) ?_
 obtain⟨v0,y0,h⟩:=bm h
 obtain⟨v1,y1,h⟩:=bm h
 obtain⟨v2,y2,h⟩:=bm h
 obtain⟨v3,y3,h⟩:=bm h
 replace h:=sj h;subst h
 exact x_end 18 [(5,.call [] [] (.agg [i64 v0.1,i64 v0.2.1,i64 v0.2.2]) []),(1,.call [] [] (.agg [i64 v1.1,i64 v1.2.1,i64 v1.2.2]) []),(1,.call [] [] (.agg [i64 v2.1,i64 v2.2.1,i64 v2.2.2]) []),(0,.call [] [] (i64 v3) [])] [] (ocons (Timpl_normal (Y:=Y) a0 _ y0) (ocons (Timpl_normal (Y:=Y) a1 _ y1) (ocons (Timpl_normal (Y:=Y) a2 _ y2) (ocons (Timpl_det (Y:=Y) v0 v1 v2 _ y3) onil)))) onil 
def Dimpl_clash4(n:Nat)(a0:Pl)(a1:Pl)(a2:Pl)(a3:Pl):Option Bool :=
 (Dimpl_det3 a1 a2 a3).bind fun v0=>(Dimpl_det3 a0 a2 a3).bind fun v1=>(Dimpl_det3 a0 a1 a3).bind fun v2=>(Dimpl_det3 a0 a1 a2).bind fun v3=>(Dimpl_weighs n [v0,w64 (0-v1),v2,w64 (0-v3)] [a0.D,a1.D,a2.D,a3.D]).bind fun v4=>some v4
theorem Timpl_clash4{Y}(n:Nat)(a0:Pl)(a1:Pl)(a2:Pl)(a3:Pl)(r:Bool)(h:Dimpl_clash4 n a0 a1 a2 a3=some r):Big Tryz.prog H Y (.call 212 [.agg [i64 a0.A,i64 a0.B,i64 a0.C,i64 a0.D],.agg [i64 a1.A,i64 a1.B,i64 a1.C,i64 a1.D],.agg [i64 a2.A,i64 a2.B,i64 a2.C,i64 a2.D],.agg [i64 a3.A,i64 a3.B,i64 a3.C,i64 a3.D]] (lk []) (bl r) (lk [])):=by
 unfold Dimpl_clash4 at h
 refine x_call (fn:=Tryz.f212) (c:=bodyOf Tryz.f212) (bs0:=[]) Tryz.func212 (by kernel_rfl) (by kernel_rfl) ?_
 obtain⟨v0,y0,h⟩:=bm h
 obtain⟨v1,y1,h⟩:=bm h
 obtain⟨v2,y2,h⟩:=bm h
 obtain⟨v3,y3,h⟩:=bm h
 obtain⟨v4,y4,h⟩:=bm h
 replace h:=sj h;subst h
 exact x_end 46 [(8,.call [] [] (i64 v0) []),(3,.call [] [] (i64 v1) []),(4,.call [] [] (i64 v2) []),(3,.call [] [] (i64 v3) []),(13,.call [] [(eInt).f [a0.D,a1.D,a2.D,a3.D],(eInt).f [v0,w64 (0-v1),v2,w64 (0-v3)]] (bl v4) [])] [] (ocons (Timpl_det3 (Y:=Y) a1 a2 a3 _ y0) (ocons (Timpl_det3 (Y:=Y) a0 a2 a3 _ y1) (ocons (Timpl_det3 (Y:=Y) a0 a1 a3 _ y2) (ocons (Timpl_det3 (Y:=Y) a0 a1 a2 _ y3) (ocons (Timpl_weighs (Y:=Y) n [v0,w64 (0-v1),v2,w64 (0-v3)] [a0.D,a1.D,a2.D,a3.D] _ y4) (ocons (len_row (L:=[v0,w64 (0-v1),v2,w64 (0-v3)]) eInt) (ocons (Enc.share eInt eInt sInt [v0,w64 (0-v1),v2,w64 (0-v3)]) (ocons (len_row (L:=[a0.D,a1.D,a2.D,a3.D]) eInt) (ocons (Enc.share eInt eInt sInt [a0.D,a1.D,a2.D,a3.D]) onil))))))))) onil 
def Dimpl_room_0(n:Nat)(rec1:Int→Option Bool)(_rec0:Int→Option Bool)(_t13:Int)(_t23:List Pl)(_t24 zcs zct zcu zcv:Int)(_t0:List Pl)(_t11:List Pl)(_t12 zg zh zi zj t25:Int)(t36:List Pl)(t37 zv zw zx zai:Int)(rec2:Int→Option Bool)(a:Int):Option Bool :=
 match a with
 | t38=>frk (decide (t38<t37)) ((lget t36 t38).bind fun v6=>(Dimpl_clash4 n v6 (Pl.mk zv zw zx zai) (Pl.mk zcs zct zcu zcv) (Pl.mk zg zh zi zj)).bind fun v7=>frk v7 (some false) (rec2 (w64 (t38+1)))) (rec1 (w64 (t25+1)))
theorem Timpl_room_0{Y}(n:Nat)(rec1:Int→Option Bool)(rec0:Int→Option Bool)(t13:Int)(t23:List Pl)(t24 zcs zct zcu zcv:Int)(t0:List Pl)(t11:List Pl)(t12 zg zh zi zj:Int)(hrec1:∀(a:Int) (r:Bool),rec1 a=some r→Wk Tryz.prog H Y 168 [.code (cp [1,0,1,0,0,1,1,0,0,1,1,1,0] (bodyOf Tryz.f168)),.blk 2,.blk 1,.code (cp [1,0,1,0,0,1,1,1] (bodyOf Tryz.f168)),.lp (cp [1,0,1,0] (bodyOf Tryz.f168)),.blk 0,.code (cp [1,1] (bodyOf Tryz.f168))] (FinX Tryz.prog Tryz.f168 [] (bl r) []) ⟨[(0,.sl false 4 t0.length ((ePl).f t0)),(3,.ptr 3 0),(6,.ptr 6 0),(11,.sl false 4 t11.length ((ePl).f t11)),(12,i64 t12),(13,i64 t13),(23,.sl false 4 t23.length ((ePl).f t23)),(24,i64 t24),(25,i64 a)],[(3,⟨true,0,[i64 zg,i64 zh,i64 zi,i64 zj]⟩),(6,⟨true,0,[i64 zcs,i64 zct,i64 zcu,i64 zcv]⟩)]⟩)(_hrec0:∀(a:Int) (r:Bool),rec0 a=some r→Wk Tryz.prog H Y 168 [.code (cp [1,0,1,0] (bodyOf Tryz.f168)),.blk 0,.code (cp [1,1] (bodyOf Tryz.f168))] (FinX Tryz.prog Tryz.f168 [] (bl r) []) ⟨[(0,.sl false 4 t0.length ((ePl).f t0)),(3,.ptr 3 0),(11,.sl false 4 t11.length ((ePl).f t11)),(12,i64 t12),(13,i64 a)],[(3,⟨true,0,[i64 zg,i64 zh,i64 zi,i64 zj]⟩)]⟩)(t25:Int)(t36:List Pl)(t37 zv zw zx zai:Int):∀(m:Nat) (a:Int) (r:Bool),loopN (Dimpl_room_0 n rec1 rec0 t13 t23 t24 zcs zct zcu zcv t0 t11 t12 zg zh zi zj t25 t36 t37 zv zw zx zai) m a=some r→Wk Tryz.prog H Y 168 [.code (cp [1,0,1,0,0,1,1,0,0,1,1,1,0,0,1,1,0,0,1,1,1,0] (bodyOf Tryz.f168)),.blk 4,.blk 3,.code (cp [1,0,1,0,0,1,1,0,0,1,1,1,0,0,1,1,1] (bodyOf Tryz.f168)),.lp (cp [1,0,1,0,0,1,1,0,0,1,1,1,0] (bodyOf Tryz.f168)),.blk 2,.blk 1,.code (cp [1,0,1,0,0,1,1,1] (bodyOf Tryz.f168)),.lp (cp [1,0,1,0] (bodyOf Tryz.f168)),.blk 0,.code (cp [1,1] (bodyOf Tryz.f168))] (FinX Tryz.prog Tryz.f168 [] (bl r) []) ⟨[(0,.sl false 4 t0.length ((ePl).f t0)),(3,.ptr 3 0),(6,.ptr 6 0),(8,.ptr 8 0),(11,.sl false 4 t11.length ((ePl).f t11)),(12,i64 t12),(13,i64 t13),(23,.sl false 4 t23.length ((ePl).f t23)),(24,i64 t24),(25,i64 t25),(36,.sl false 4 t36.length ((ePl).f t36)),(37,i64 t37),(38,i64 a)],[(3,⟨true,0,[i64 zg,i64 zh,i64 zi,i64 zj]⟩),(6,⟨true,0,[i64 zcs,i64 zct,i64 zcu,i64 zcv]⟩),(8,⟨true,0,[i64 zv,i64 zw,i64 zx,i64 zai]⟩)]⟩:=by
 refine loopN_ind (fun _rec2 hrec2 a r h=>?_)
 obtain⟨t38,rfl⟩:∃x,x=a:=⟨a,rfl⟩
 unfold Dimpl_room_0 at h
 refine x_frk 6 [] onil h (by kernel_rfl) (fun h=>?_) (fun h=>?_)
 ·obtain⟨v6,y6,h⟩:=bm h
  obtain⟨v7,y7,h⟩:=bm h
  refine x_frk 18 [(0,.val (.cptr (ePl.c v6++(ePl).f ((t36).drop (Int.toNat t38+1))))),(7,.call [] [] (bl v7) [])] (ocons (ix ePl y6) (ocons (Timpl_clash4 (Y:=Y) n v6 (Pl.mk zv zw zx zai) (Pl.mk zcs zct zcu zcv) (Pl.mk zg zh zi zj) _ y7) onil)) h (by kernel_rfl) (fun h=>?_) (fun h=>?_)
  ·replace h:=sj h;subst h
   exact x_end 4 [] [] onil onil 
  ·exact x_to 7 [] onil (hrec2 (w64 (t38+1)) r h) 
 ·exact x_to 7 [] onil (hrec1 (w64 (t25+1)) r h) 
def Dimpl_room_1(n:Nat)(rec0:Int→Option Bool)(t0:List Pl)(t11:List Pl)(t12 zg zh zi zj t13:Int)(t23:List Pl)(t24 zcs zct zcu zcv:Int)(rec1:Int→Option Bool)(a:Int):Option Bool :=
 match a with
 | t25=>frk (decide (t25<t24)) ((lget t23 t25).bind fun v3=>(Dimpl_clash3 n v3 (Pl.mk zcs zct zcu zcv) (Pl.mk zg zh zi zj)).bind fun v4=>frk v4 (some false) ((lsl t0 0 t25).bind fun v5=>loopN (Dimpl_room_0 n rec1 rec0 t13 t23 t24 zcs zct zcu zcv t0 t11 t12 zg zh zi zj t25 v5 (v5.length:Int) v3.A v3.B v3.C v3.D) n 0)) (rec0 (w64 (t13+1)))
theorem Timpl_room_1{Y}(n:Nat)(rec0:Int→Option Bool)(t0:List Pl)(t11:List Pl)(t12 zg zh zi zj:Int)(hrec0:∀(a:Int) (r:Bool),rec0 a=some r→Wk Tryz.prog H Y 168 [.code (cp [1,0,1,0] (bodyOf Tryz.f168)),.blk 0,.code (cp [1,1] (bodyOf Tryz.f168))] (FinX Tryz.prog Tryz.f168 [] (bl r) []) ⟨[(0,.sl false 4 t0.length ((ePl).f t0)),(3,.ptr 3 0),(11,.sl false 4 t11.length ((ePl).f t11)),(12,i64 t12),(13,i64 a)],[(3,⟨true,0,[i64 zg,i64 zh,i64 zi,i64 zj]⟩)]⟩)(t13:Int)(t23:List Pl)(t24 zcs zct zcu zcv:Int):∀(m:Nat) (a:Int) (r:Bool),loopN (Dimpl_room_1 n rec0 t0 t11 t12 zg zh zi zj t13 t23 t24 zcs zct zcu zcv) m a=some r→Wk Tryz.prog H Y 168 [.code (cp [1,0,1,0,0,1,1,0,0,1,1,1,0] (bodyOf Tryz.f168)),.blk 2,.blk 1,.code (cp [1,0,1,0,0,1,1,1] (bodyOf Tryz.f168)),.lp (cp [1,0,1,0] (bodyOf Tryz.f168)),.blk 0,.code (cp [1,1] (bodyOf Tryz.f168))] (FinX Tryz.prog Tryz.f168 [] (bl r) []) ⟨[(0,.sl false 4 t0.length ((ePl).f t0)),(3,.ptr 3 0),(6,.ptr 6 0),(11,.sl false 4 t11.length ((ePl).f t11)),(12,i64 t12),(13,i64 t13),(23,.sl false 4 t23.length ((ePl).f t23)),(24,i64 t24),(25,i64 a)],[(3,⟨true,0,[i64 zg,i64 zh,i64 zi,i64 zj]⟩),(6,⟨true,0,[i64 zcs,i64 zct,i64 zcu,i64 zcv]⟩)]⟩:=by
 refine loopN_ind (fun rec1 hrec1 a r h=>?_)
 obtain⟨t25,rfl⟩:∃x,x=a:=⟨a,rfl⟩
 unfold Dimpl_room_1 at h
 refine x_frk 6 [] onil h (by kernel_rfl) (fun h=>?_) (fun h=>?_)
 ·obtain⟨v3,y3,h⟩:=bm h
  obtain⟨v4,y4,h⟩:=bm h
  refine x_frk 20 [(1,.val (.cptr (ePl.c v3++(ePl).f ((t23).drop (Int.toNat t25+1))))),(7,.call [] [] (bl v4) [])] (ocons (ix ePl y3) (ocons (Timpl_clash3 (Y:=Y) n v3 (Pl.mk zcs zct zcu zcv) (Pl.mk zg zh zi zj) _ y4) onil)) h (by kernel_rfl) (fun h=>?_) (fun h=>?_)
  ·replace h:=sj h;subst h
   exact x_end 4 [] [] onil onil 
  ·obtain⟨v5,y5,h⟩:=bm h
   exact x_to 10 [(2,.val (.sl false 4 v5.length ((ePl).f v5)))] (ocons (slF ePl y5) onil) (Timpl_room_0 n rec1 rec0 t13 t23 t24 zcs zct zcu zcv t0 t11 t12 zg zh zi zj hrec1 hrec0 t25 v5 (v5.length:Int) v3.A v3.B v3.C v3.D n 0 r h) 
 ·exact x_to 7 [] onil (hrec0 (w64 (t13+1)) r h) 
def Dimpl_room_2(n:Nat)(t0:List Pl)(t11:List Pl)(t12 zg zh zi zj:Int)(rec0:Int→Option Bool)(a:Int):Option Bool :=
 match a with
 | t13=>frk (decide (t13<t12)) ((lget t11 t13).bind fun v0=>(Dimpl_clash2 n v0 (Pl.mk zg zh zi zj)).bind fun v1=>frk v1 (some false) ((lsl t0 0 t13).bind fun v2=>loopN (Dimpl_room_1 n rec0 t0 t11 t12 zg zh zi zj t13 v2 (v2.length:Int) v0.A v0.B v0.C v0.D) n 0)) (some true)
theorem Timpl_room_2{Y}(n:Nat)(t0:List Pl)(t11:List Pl)(t12 zg zh zi zj:Int):∀(m:Nat) (a:Int) (r:Bool),loopN (Dimpl_room_2 n t0 t11 t12 zg zh zi zj) m a=some r→Wk Tryz.prog H Y 168 [.code (cp [1,0,1,0] (bodyOf Tryz.f168)),.blk 0,.code (cp [1,1] (bodyOf Tryz.f168))] (FinX Tryz.prog Tryz.f168 [] (bl r) []) ⟨[(0,.sl false 4 t0.length ((ePl).f t0)),(3,.ptr 3 0),(11,.sl false 4 t11.length ((ePl).f t11)),(12,i64 t12),(13,i64 a)],[(3,⟨true,0,[i64 zg,i64 zh,i64 zi,i64 zj]⟩)]⟩:=by
 refine loopN_ind (fun rec0 hrec0 a r h=>?_)
 obtain⟨t13,rfl⟩:∃x,x=a:=⟨a,rfl⟩
 unfold Dimpl_room_2 at h
 refine x_frk 6 [] onil h (by kernel_rfl) (fun h=>?_) (fun h=>?_)
 ·obtain⟨v0,y0,h⟩:=bm h
  obtain⟨v1,y1,h⟩:=bm h
  refine x_frk 19 [(1,.val (.cptr (ePl.c v0++(ePl).f ((t11).drop (Int.toNat t13+1))))),(6,.call [] [] (bl v1) [])] (ocons (ix ePl y0) (ocons (Timpl_clash2 (Y:=Y) n v0 (Pl.mk zg zh zi zj) _ y1) onil)) h (by kernel_rfl) (fun h=>?_) (fun h=>?_)
  ·replace h:=sj h;subst h
   exact x_end 4 [] [] onil onil 
  ·obtain⟨v2,y2,h⟩:=bm h
   exact x_to 10 [(2,.val (.sl false 4 v2.length ((ePl).f v2)))] (ocons (slF ePl y2) onil) (Timpl_room_1 n rec0 t0 t11 t12 zg zh zi zj hrec0 t13 v2 (v2.length:Int) v0.A v0.B v0.C v0.D n 0 r h) 
 ·replace h:=sj h;subst h
  exact x_end 5 [] [] onil onil 
def Dimpl_room(n:Nat)(a0:(List Pl))(a1:Pl):Option Bool :=
 loopN (Dimpl_room_2 n a0 a0 (a0.length:Int) a1.A a1.B a1.C a1.D) n 0
theorem Timpl_room{Y}(n:Nat)(a0:(List Pl))(a1:Pl)(r:Bool)(h:Dimpl_room n a0 a1=some r):Big Tryz.prog H Y (.call 168 [.sl false 4 a0.length ((ePl).f a0),.agg [i64 a1.A,i64 a1.B,i64 a1.C,i64 a1.D]] (lk []) (bl r) (lk [])):=by
 unfold Dimpl_room at h
 refine x_call (fn:=Tryz.f168) (c:=bodyOf Tryz.f168) (bs0:=[]) Tryz.func168 (by kernel_rfl) (by kernel_rfl) ?_
 exact x_to 13 [] onil (Timpl_room_2 n a0 a0 (a0.length:Int) a1.A a1.B a1.C a1.D n 0 r h) 
def Dimpl_with(a0:(List Pl))(a1:Pl):Option (List Pl) :=
 chk (apB 32 (0+a0.length)) (chk (apB 32 (([]++a0).length+1)) (some (([]++a0)++[a1])))
theorem Timpl_with{Y}(a0:(List Pl))(a1:Pl)(r:(List Pl))(h:Dimpl_with a0 a1=some r):Big Tryz.prog H Y (.call 162 [.sl false 4 a0.length ((ePl).f a0),.agg [i64 a1.A,i64 a1.B,i64 a1.C,i64 a1.D]] (lk []) (.sl true 4 r.length ((ePl).f r)) (lk [])):=by
 unfold Dimpl_with at h
 refine x_call (fn:=Tryz.f162) (c:=bodyOf Tryz.f162) (bs0:=[]) Tryz.func162 (by kernel_rfl) (by kernel_rfl) ?_
 obtain⟨c0,h⟩:=chk_some h
 obtain⟨c1,h⟩:=chk_some h
 replace h:=sj h;subst h
 exact x_end 15 [(4,.app false (List.length ([]++a0)) ((ePl).f ([]++a0))),(2,.app false (List.length (([]++a0)++[a1])) ((ePl).f (([]++a0)++[a1])))] [] (ocons (len_row' (L:=[]) ePl) (ocons (app_one (L:=[]) (M:=a0) ePl c0) (ocons (app_new (L:=[]) (M:=a0) ePl) (ocons (app_m (L:=[]) (M:=a0) ePl rfl) (ocons (len_row' (L:=a0) ePl) (ocons (len_row' (L:=([]++a0)) ePl) (ocons (app_one (L:=([]++a0)) (M:=[a1]) ePl c1) (ocons (app_new (L:=([]++a0)) (M:=[a1]) ePl) (ocons (app_m (L:=([]++a0)) (M:=[a1]) ePl rfl) (ocons (len_row' (L:=[a1]) ePl) (ocons (Enc.noOwn ePl (fun _=>rfl) [a1]) onil))))))))))) (ocons (len_row (L:=(([]++a0)++[a1])) ePl) onil) 
def Dimpl_checker_right_1(_n:Nat)(self:(Int×Sol×(List Pl))→Option (Bool×Int))(t2:List Pl)(t59 _zk:Bool)(zl zm zn zal:Int)(zcw:List Sol)(zs zt zu zcx zcy:Int):Option (Bool×Int) :=
 frk t59 (some (false,zcy)) ((lget zcw 0).bind fun v5=>(Dimpl_with t2 (Pl.mk zl zm zn zal)).bind fun v6=>(self (zcy,v5,v6)).bind fun v7=>frk v7.1 ((lget zcw 1).bind fun v8=>(Dimpl_with t2 (Pl.mk zs zt zu zcx)).bind fun v9=>(self (v7.2,v8,v9)).bind fun v10=>some v10) (some (false,v7.2)))
theorem Timpl_checker_right_1{Y}(n:Nat)(self:(Int×Sol×(List Pl))→Option (Bool×Int))(hself:∀(a:(Int×Sol×(List Pl))) (r:(Bool×Int)),self a=some r→Big Tryz.prog H Y (.call 113 [.ptr 1000 0,eF a.2.1,.sl false 4 a.2.2.length ((ePl).f a.2.2)] (lk [(1000,⟨true,0,[i64 a.1]⟩)]) (bl r.1) (lk [(1000,⟨true,0,[i64 r.2]⟩)])))(t2:List Pl)(t59 zk:Bool)(zl zm zn zal:Int)(zcw:List Sol)(zs zt zu zcx zcy:Int)(r:(Bool×Int))(h:Dimpl_checker_right_1 n self t2 t59 zk zl zm zn zal zcw zs zt zu zcx zcy=some r):Wk Tryz.prog H Y 113 [.code (cp [1,1,1,1,1,0,1] (bodyOf Tryz.f113)),.code (cp [1,1,1,1,1,1] (bodyOf Tryz.f113))] (FinX Tryz.prog Tryz.f113 [(1000,⟨true,0,[.bad]⟩)] (bl r.1) [(1000,⟨true,0,[i64 r.2]⟩)]) ⟨[(0,.ptr 1000 0),(2,.sl false 4 t2.length ((ePl).f t2)),(4,.ptr 4 0),(7,.ptr 7 0),(59,bl t59)],[(4,⟨true,0,[bl zk,i64 zl,i64 zm,i64 zn,i64 zal,.sl false 6 zcw.length ((eSol false).f zcw)]⟩),(7,⟨true,0,[i64 zs,i64 zt,i64 zu,i64 zcx]⟩),(1000,⟨true,0,[i64 zcy]⟩)]⟩:=by
 unfold Dimpl_checker_right_1 at h
 refine x_frk 0 [] onil h (by kernel_rfl) (fun h=>?_) (fun h=>?_)
 ·replace h:=sj h;subst h
  exact x_end 4 [] [] onil onil 
 ·obtain⟨v5,y5,h⟩:=bm h
  obtain⟨v6,y6,h⟩:=bm h
  obtain⟨v7,y7,h⟩:=bm h
  refine x_frk 14 [(3,.val (.cptr ((eSol false).c v5++(eSol false).f ((zcw).drop (Int.toNat 0+1))))),(4,.call [] [] (.sl false 4 v6.length ((ePl).f v6)) []),(0,.call [] [] (bl v7.1) [(1000,⟨true,0,[i64 v7.2]⟩)])] (ocons (ix (eSol false) y5) (ocons (shSl (L:=v6) ePl ePl sPl (Timpl_with (Y:=Y) t2 (Pl.mk zl zm zn zal) _ y6)) (ocons (hself (zcy,v5,v6) _ y7) onil))) h (by kernel_rfl) (fun h=>?_) (fun h=>?_)
  ·obtain⟨v8,y8,h⟩:=bm h
   obtain⟨v9,y9,h⟩:=bm h
   obtain⟨v10,y10,h⟩:=bm h
   replace h:=sj h;subst h
   exact x_end 12 [(3,.val (.cptr ((eSol false).c v8++(eSol false).f ((zcw).drop (Int.toNat 1+1))))),(3,.call [] [] (.sl false 4 v9.length ((ePl).f v9)) []),(0,.call [] [] (bl v10.1) [(1000,⟨true,0,[i64 v10.2]⟩)])] [] (ocons (ix (eSol false) y8) (ocons (shSl (L:=v9) ePl ePl sPl (Timpl_with (Y:=Y) t2 (Pl.mk zs zt zu zcx) _ y9)) (ocons (hself (v7.2,v8,v9) _ y10) onil))) onil 
  ·replace h:=sj h;subst h
   exact x_end 12 [] [] onil onil 
def Dimpl_checker_right_0(n:Nat)(self:(Int×Sol×(List Pl))→Option (Bool×Int))(t2:List Pl)(t45 zk:Bool)(zl zm zn zal:Int)(zcw:List Sol)(zcy:Int):Option (Bool×Int) :=
 frk t45 (some (false,zcy)) ((Dimpl_flip (Pl.mk zl zm zn zal)).bind fun v2=>(Dimpl_room n t2 (Pl.mk zl zm zn zal)).bind fun v3=>frk (!v3) (some (false,zcy)) ((Dimpl_room n t2 v2).bind fun v4=>Dimpl_checker_right_1 n self t2 (!v4) zk zl zm zn zal zcw v2.A v2.B v2.C v2.D zcy))
theorem Timpl_checker_right_0{Y}(n:Nat)(self:(Int×Sol×(List Pl))→Option (Bool×Int))(hself:∀(a:(Int×Sol×(List Pl))) (r:(Bool×Int)),self a=some r→Big Tryz.prog H Y (.call 113 [.ptr 1000 0,eF a.2.1,.sl false 4 a.2.2.length ((ePl).f a.2.2)] (lk [(1000,⟨true,0,[i64 a.1]⟩)]) (bl r.1) (lk [(1000,⟨true,0,[i64 r.2]⟩)])))(t2:List Pl)(t45 zk:Bool)(zl zm zn zal:Int)(zcw:List Sol)(zcy:Int)(r:(Bool×Int))(h:Dimpl_checker_right_0 n self t2 t45 zk zl zm zn zal zcw zcy=some r):Wk Tryz.prog H Y 113 [.code (cp [1,1,1,0,1] (bodyOf Tryz.f113)),.code (cp [1,1,1,1] (bodyOf Tryz.f113))] (FinX Tryz.prog Tryz.f113 [(1000,⟨true,0,[.bad]⟩)] (bl r.1) [(1000,⟨true,0,[i64 r.2]⟩)]) ⟨[(0,.ptr 1000 0),(2,.sl false 4 t2.length ((ePl).f t2)),(4,.ptr 4 0),(45,bl t45)],[(4,⟨true,0,[bl zk,i64 zl,i64 zm,i64 zn,i64 zal,.sl false 6 zcw.length ((eSol false).f zcw)]⟩),(1000,⟨true,0,[i64 zcy]⟩)]⟩:=by
 unfold Dimpl_checker_right_0 at h
 refine x_frk 0 [] onil h (by kernel_rfl) (fun h=>?_) (fun h=>?_)
 ·replace h:=sj h;subst h
  exact x_end 4 [] [] onil onil 
 ·obtain⟨v2,y2,h⟩:=bm h
  obtain⟨v3,y3,h⟩:=bm h
  refine x_frk 18 [(2,.call [] [] (.agg [i64 v2.A,i64 v2.B,i64 v2.C,i64 v2.D]) []),(5,.call [] [] (bl v3) [])] (ocons (Timpl_flip (Y:=Y) (Pl.mk zl zm zn zal) _ y2) (ocons (Timpl_room (Y:=Y) n t2 (Pl.mk zl zm zn zal) _ y3) onil)) h (by kernel_rfl) (fun h=>?_) (fun h=>?_)
  ·replace h:=sj h;subst h
   exact x_end 11 [] [] onil onil 
  ·obtain⟨v4,y4,h⟩:=bm h
   exact x_to 6 [(2,.call [] [] (bl v4) [])] (ocons (Timpl_room (Y:=Y) n t2 v2 _ y4) onil) (Timpl_checker_right_1 n self hself t2 (!v4) zk zl zm zn zal zcw v2.A v2.B v2.C v2.D zcy r h) 
def Dimpl_checker_right_b(n:Nat)(self:(Int×Sol×(List Pl))→Option (Bool×Int))(a:(Int×Sol×(List Pl))):Option (Bool×Int) :=
 match a with
 | (a0,a1,a2)=>(Dimpl_Solid_isLeaf a1).bind fun v0=>frk v0 (some ((a1.pl.A==0&&(a1.pl.B==0&&(a1.pl.C==0&&(a1.pl.D==0&&true)))),a0)) (frk a1.inn (some (false,w64 (a0+1))) (frk ((a1.kids.length:Int) != 2) (some (false,w64 (a0+1))) (frk (decide ((w64 (a0+1))>300)) (some (false,w64 (a0+1))) (frk (decide ((a2.length:Int)≥24)) (some (false,w64 (a0+1))) ((Dimpl_PlaneOk n a1.pl).bind fun v1=>Dimpl_checker_right_0 n self a2 (!v1) a1.inn a1.pl.A a1.pl.B a1.pl.C a1.pl.D a1.kids (w64 (a0+1)))))))
def Dimpl_checker_right(n:Nat)(a0:Int)(a1:Sol)(a2:(List Pl)):Option (Bool×Int):=loopN (Dimpl_checker_right_b n) n (a0,a1,a2)
theorem Timpl_checker_right_b{Y}(n:Nat):∀(m:Nat) (a:(Int×Sol×(List Pl))) (r:(Bool×Int)),loopN (Dimpl_checker_right_b n) m a=some r→∀(_:Unit),Big Tryz.prog H Y (.call 113 [.ptr 1000 0,eF a.2.1,.sl false 4 a.2.2.length ((ePl).f a.2.2)] (lk [(1000,⟨true,0,[i64 a.1]⟩)]) (bl r.1) (lk [(1000,⟨true,0,[i64 r.2]⟩)])):=by
 refine loopN_ind (fun self hs a r h=>?_)
 have hself:∀(a:(Int×Sol×(List Pl))) (r:(Bool×Int)),self a=some r→Big Tryz.prog H Y (.call 113 [.ptr 1000 0,eF a.2.1,.sl false 4 a.2.2.length ((ePl).f a.2.2)] (lk [(1000,⟨true,0,[i64 a.1]⟩)]) (bl r.1) (lk [(1000,⟨true,0,[i64 r.2]⟩)])):=fun a r h=>hs a r h ()
 intro _
 obtain⟨a0,a1,a2⟩:=a
 unfold Dimpl_checker_right_b at h
 refine x_call (fn:=Tryz.f113) (c:=bodyOf Tryz.f113) (bs0:=[(1000,⟨true,0,[.bad]⟩)]) Tryz.func113 (by kernel_rfl) (by kernel_rfl) ?_
 obtain⟨v0,y0,h⟩:=bm h
 refine x_frk 10 [(2,.call [] [] (bl v0) [])] (ocons (Timpl_Solid_isLeaf (Y:=Y) a1 [] _ y0) onil) h (by kernel_rfl) (fun h=>?_) (fun h=>?_)
 ·replace h:=sj h;subst h
  exact x_end 8 [] [] onil onil 
 ·refine x_frk 18 [] onil h (by kernel_rfl) (fun h=>?_) (fun h=>?_)
  ·replace h:=sj h;subst h
   exact x_end 29 [] [] onil onil 
  ·refine x_frk 6 [] onil h (by kernel_rfl) (fun h=>?_) (fun h=>?_)
   ·replace h:=sj h;subst h
    exact x_end 23 [] [] onil onil 
   ·refine x_frk 7 [] onil h (by kernel_rfl) (fun h=>?_) (fun h=>?_)
    ·replace h:=sj h;subst h
     exact x_end 16 [] [] onil onil 
    ·refine x_frk 5 [] onil h (by kernel_rfl) (fun h=>?_) (fun h=>?_)
     ·replace h:=sj h;subst h
      exact x_end 11 [] [] onil onil 
     ·obtain⟨v1,y1,h⟩:=bm h
      exact x_to 6 [(2,.call [] [] (bl v1) [])] (ocons (Timpl_PlaneOk (Y:=Y) n a1.pl _ y1) onil) (Timpl_checker_right_0 n self hself a2 (!v1) a1.inn a1.pl.A a1.pl.B a1.pl.C a1.pl.D a1.kids (w64 (a0+1)) r h) 
theorem Timpl_checker_right{Y}(n:Nat)(a0:Int)(a1:Sol)(a2:(List Pl))(r:(Bool×Int))(h:Dimpl_checker_right n a0 a1 a2=some r):Big Tryz.prog H Y (.call 113 [.ptr 1000 0,eF a1,.sl false 4 a2.length ((ePl).f a2)] (lk [(1000,⟨true,0,[i64 a0]⟩)]) (bl r.1) (lk [(1000,⟨true,0,[i64 r.2]⟩)])):=Timpl_checker_right_b n n (a0,a1,a2) r h ()
def Dimpl_SolidOk(n:Nat)(a0:Sol):Option Bool :=
 (Dimpl_checker_right n 0 a0 []).bind fun v0=>some v0.1
theorem Timpl_SolidOk{Y}(n:Nat)(a0:Sol)(r:Bool)(h:Dimpl_SolidOk n a0=some r):Big Tryz.prog H Y (.call 47 [eF a0] (lk []) (bl r) (lk [])):=by
 unfold Dimpl_SolidOk at h
 refine x_call (fn:=Tryz.f47) (c:=bodyOf Tryz.f47) (bs0:=[]) Tryz.func47 (by kernel_rfl) (by kernel_rfl) ?_
 obtain⟨v0,y0,h⟩:=bm h
 replace h:=sj h;subst h
 exact x_end 15 [(4,.call [(false,4)] [] (bl v0.1) [(1000,⟨true,0,[i64 v0.2]⟩)])] [] (ocons (Timpl_checker_right (Y:=Y) n 0 a0 [] _ y0) onil) onil 
def Dslices_EqualFuncfimpl_SameTree_in_0(_n:Nat)(self:(Sol×Sol)→Option Bool)(t1 t15:List Sol)(t16:Int)(rec0:Int→Option Bool)(a:Int):Option Bool :=
 match a with
 | t17=>frk (decide (t17<t16)) ((lget t15 t17).bind fun v0=>(lget t1 t17).bind fun v1=>(self (v0,v1)).bind fun v2=>frk (!v2) (some false) (rec0 (w64 (t17+1)))) (some true)
theorem Tslices_EqualFuncfimpl_SameTree_in_0{Y}(n:Nat)(self:(Sol×Sol)→Option Bool)(hself:∀(a:(Sol×Sol)) (r:Bool),self a=some r→Big Tryz.prog H Y (.call 40 [eF a.1,eF a.2] (lk []) (bl r) (lk [])))(t1 t15:List Sol)(t16:Int):∀(m:Nat) (a:Int) (r:Bool),loopN (Dslices_EqualFuncfimpl_SameTree_in_0 n self t1 t15 t16) m a=some r→Wk Tryz.prog H Y 106 [.code (cp [1,1,0,1,0] (bodyOf Tryz.f106)),.blk 0,.code (cp [1,1,1] (bodyOf Tryz.f106))] (FinX Tryz.prog Tryz.f106 [] (bl r) []) ⟨[(1,.sl false 6 t1.length ((eSol false).f t1)),(2,.lit (.func (.func 40) #[] #[])),(15,.sl false 6 t15.length ((eSol false).f t15)),(16,i64 t16),(17,i64 a)],[]⟩:=by
 refine loopN_ind (fun _rec0 hrec0 a r h=>?_)
 obtain⟨t17,rfl⟩:∃x,x=a:=⟨a,rfl⟩
 unfold Dslices_EqualFuncfimpl_SameTree_in_0 at h
 refine x_frk 6 [] onil h (by kernel_rfl) (fun h=>?_) (fun h=>?_)
 ·obtain⟨v0,y0,h⟩:=bm h
  obtain⟨v1,y1,h⟩:=bm h
  obtain⟨v2,y2,h⟩:=bm h
  refine x_frk 29 [(1,.val (.cptr ((eSol false).c v0++(eSol false).f ((t15).drop (Int.toNat t17+1))))),(6,.val (.cptr ((eSol false).c v1++(eSol false).f ((t1).drop (Int.toNat t17+1))))),(6,.call [] [] (bl v2) [])] (ocons (ix (eSol false) y0) (ocons (ix (eSol false) y1) (ocons (hself (v0,v1) _ y2) onil))) h (by kernel_rfl) (fun h=>?_) (fun h=>?_)
  ·replace h:=sj h;subst h
   exact x_end 4 [] [] onil onil 
  ·exact x_to 7 [] onil (hrec0 (w64 (t17+1)) r h) 
 ·replace h:=sj h;subst h
  exact x_end 5 [] [] onil onil 
def Dslices_EqualFuncfimpl_SameTree_in(n:Nat)(self:(Sol×Sol)→Option Bool)(a0:(List Sol))(a1:(List Sol)):Option Bool :=
 frk ((a0.length:Int) != (a1.length:Int)) (some false) (loopN (Dslices_EqualFuncfimpl_SameTree_in_0 n self a1 a0 (a0.length:Int)) n 0)
theorem Tslices_EqualFuncfimpl_SameTree_in{Y}(n:Nat)(self:(Sol×Sol)→Option Bool)(hself:∀(a:(Sol×Sol)) (r:Bool),self a=some r→Big Tryz.prog H Y (.call 40 [eF a.1,eF a.2] (lk []) (bl r) (lk [])))(a0:(List Sol))(a1:(List Sol))(r:Bool)(h:Dslices_EqualFuncfimpl_SameTree_in n self a0 a1=some r):Big Tryz.prog H Y (.call 106 [.sl false 6 a0.length ((eSol false).f a0),.sl false 6 a1.length ((eSol false).f a1),.lit (.func (.func 40) #[] #[])] (lk []) (bl r) (lk [])):=by
 unfold Dslices_EqualFuncfimpl_SameTree_in at h
 refine x_call (fn:=Tryz.f106) (c:=bodyOf Tryz.f106) (bs0:=[]) Tryz.func106 (by kernel_rfl) (by kernel_rfl) ?_
 refine x_frk 13 [] onil h (by kernel_rfl) (fun h=>?_) (fun h=>?_)
 ·replace h:=sj h;subst h
  exact x_end 4 [] [] onil onil 
 ·exact x_to 9 [] onil (Tslices_EqualFuncfimpl_SameTree_in_0 n self hself a1 a0 (a0.length:Int) n 0 r h) 
def Dimpl_SameTree_b(n:Nat)(self:(Sol×Sol)→Option Bool)(a:(Sol×Sol)):Option Bool :=
 match a with
 | (a0,a1)=>frk (a0.inn==a1.inn) (frk (a0.pl.A==a1.pl.A&&(a0.pl.B==a1.pl.B&&(a0.pl.C==a1.pl.C&&(a0.pl.D==a1.pl.D&&true)))) ((Dslices_EqualFuncfimpl_SameTree_in n self a0.kids a1.kids).bind fun v0=>some v0) (some false)) (some false)
def Dimpl_SameTree(n:Nat)(a0:Sol)(a1:Sol):Option Bool:=loopN (Dimpl_SameTree_b n) n (a0,a1)
theorem Timpl_SameTree_b{Y}(n:Nat):∀(m:Nat) (a:(Sol×Sol)) (r:Bool),loopN (Dimpl_SameTree_b n) m a=some r→∀(_:Unit),Big Tryz.prog H Y (.call 40 [eF a.1,eF a.2] (lk []) (bl r) (lk [])):=by
 refine loopN_ind (fun self hs a r h=>?_)
 have hself:∀(a:(Sol×Sol)) (r:Bool),self a=some r→Big Tryz.prog H Y (.call 40 [eF a.1,eF a.2] (lk []) (bl r) (lk [])):=fun a r h=>hs a r h ()
 intro _
 obtain⟨a0,a1⟩:=a
 unfold Dimpl_SameTree_b at h
 refine x_call (fn:=Tryz.f40) (c:=bodyOf Tryz.f40) (bs0:=[]) Tryz.func40 (by kernel_rfl) (by kernel_rfl) ?_
 refine x_frk 14 [] onil h (by kernel_rfl) (fun h=>?_) (fun h=>?_)
 ·refine x_frk 7 [] onil h (by kernel_rfl) (fun h=>?_) (fun h=>?_)
  ·obtain⟨v0,y0,h⟩:=bm h
   replace h:=sj h;subst h
   exact x_end 8 [(4,.call [] [] (bl v0) [])] [] (ocons (Tslices_EqualFuncfimpl_SameTree_in (Y:=Y) n self hself a0.kids a1.kids _ y0) onil) onil 
  ·replace h:=sj h;subst h
   exact x_end 8 [] [] onil onil 
 ·replace h:=sj h;subst h
  exact x_end 15 [] [] onil onil 
theorem Timpl_SameTree{Y}(n:Nat)(a0:Sol)(a1:Sol)(r:Bool)(h:Dimpl_SameTree n a0 a1=some r):Big Tryz.prog H Y (.call 40 [eF a0,eF a1] (lk []) (bl r) (lk [])):=Timpl_SameTree_b n n (a0,a1) r h ()
def Dimpl_Solid_nodes_b(_n:Nat)(self:Sol→Option Int)(a:Sol):Option Int :=
 match a with
 | a0=>(Dimpl_Solid_isLeaf a0).bind fun v0=>frk v0 (some 0) ((lget a0.kids 0).bind fun v1=>(self v1).bind fun v2=>(lget a0.kids 1).bind fun v3=>(self v3).bind fun v4=>some (w64 ((w64 (1+v2))+v4)))
def Dimpl_Solid_nodes(n:Nat)(a0:Sol):Option Int:=loopN (Dimpl_Solid_nodes_b n) n a0
theorem Timpl_Solid_nodes_b{Y}(n:Nat):∀(m:Nat) (a:Sol) (r:Int),loopN (Dimpl_Solid_nodes_b n) m a=some r→∀(q0:List AV),Big Tryz.prog H Y (.call 108 [.cptr ([bl a.inn,i64 a.pl.A,i64 a.pl.B,i64 a.pl.C,i64 a.pl.D,.sl false 6 a.kids.length ((eSol false).f a.kids)]++q0)] (lk []) (i64 r) (lk [])):=by
 refine loopN_ind (fun self hs a r h=>?_)
 have hself:∀(a:Sol) (q0:List AV) (r:Int),self a=some r→Big Tryz.prog H Y (.call 108 [.cptr ([bl a.inn,i64 a.pl.A,i64 a.pl.B,i64 a.pl.C,i64 a.pl.D,.sl false 6 a.kids.length ((eSol false).f a.kids)]++q0)] (lk []) (i64 r) (lk [])):=fun a q0 r h=>hs a r h q0
 intro q0
 obtain⟨a0,rfl⟩:∃x,x=a:=⟨a,rfl⟩
 unfold Dimpl_Solid_nodes_b at h
 refine x_call (fn:=Tryz.f108) (c:=bodyOf Tryz.f108) (bs0:=[]) Tryz.func108 (by kernel_rfl) (by kernel_rfl) ?_
 obtain⟨v0,y0,h⟩:=bm h
 refine x_frk 10 [(2,.call [] [] (bl v0) [])] (ocons (Timpl_Solid_isLeaf (Y:=Y) a0 q0 _ y0) onil) h (by kernel_rfl) (fun h=>?_) (fun h=>?_)
 ·replace h:=sj h;subst h
  exact x_end 4 [] [] onil onil 
 ·obtain⟨v1,y1,h⟩:=bm h
  obtain⟨v2,y2,h⟩:=bm h
  obtain⟨v3,y3,h⟩:=bm h
  obtain⟨v4,y4,h⟩:=bm h
  replace h:=sj h;subst h
  exact x_end 19 [(4,.val (.cptr ((eSol false).c v1++(eSol false).f ((a0.kids).drop (Int.toNat 0+1))))),(0,.call [] [] (i64 v2) []),(5,.val (.cptr ((eSol false).c v3++(eSol false).f ((a0.kids).drop (Int.toNat 1+1))))),(0,.call [] [] (i64 v4) [])] [] (ocons (ix (eSol false) y1) (ocons (hself v1 ((eSol false).f ((a0.kids).drop (Int.toNat 0+1))) _ y2) (ocons (ix (eSol false) y3) (ocons (hself v3 ((eSol false).f ((a0.kids).drop (Int.toNat 1+1))) _ y4) onil)))) onil 
theorem Timpl_Solid_nodes{Y}(n:Nat)(a0:Sol)(q0:List AV)(r:Int)(h:Dimpl_Solid_nodes n a0=some r):Big Tryz.prog H Y (.call 108 [.cptr ([bl a0.inn,i64 a0.pl.A,i64 a0.pl.B,i64 a0.pl.C,i64 a0.pl.D,.sl false 6 a0.kids.length ((eSol false).f a0.kids)]++q0)] (lk []) (i64 r) (lk [])):=Timpl_Solid_nodes_b n n a0 r h q0
def Dimpl_Desk_held(n:Nat)(a0:Dsk):Option Int :=
 (Dimpl_Solid_nodes n a0.1.1).bind fun v0=>(Dimpl_Solid_nodes n a0.1.2.1).bind fun v1=>(Dimpl_Solid_nodes n a0.1.2.2.1).bind fun v2=>(Dimpl_Solid_nodes n a0.1.2.2.2.1).bind fun v3=>(Dimpl_Solid_nodes n a0.1.2.2.2.2.1).bind fun v4=>(Dimpl_Solid_nodes n a0.1.2.2.2.2.2.1).bind fun v5=>(Dimpl_Solid_nodes n a0.1.2.2.2.2.2.2.1).bind fun v6=>(Dimpl_Solid_nodes n a0.1.2.2.2.2.2.2.2).bind fun v7=>some (w64 ((w64 ((w64 ((w64 ((w64 ((w64 ((w64 ((w64 (0+v0))+v1))+v2))+v3))+v4))+v5))+v6))+v7))
theorem Timpl_Desk_held{Y}(n:Nat)(a0:Dsk)(q0:List AV)(r:Int)(h:Dimpl_Desk_held n a0=some r):Big Tryz.prog H Y (.call 105 [.cptr ([bl a0.1.1.inn,i64 a0.1.1.pl.A,i64 a0.1.1.pl.B,i64 a0.1.1.pl.C,i64 a0.1.1.pl.D,.sl false 6 a0.1.1.kids.length ((eSol false).f a0.1.1.kids),bl a0.1.2.1.inn,i64 a0.1.2.1.pl.A,i64 a0.1.2.1.pl.B,i64 a0.1.2.1.pl.C,i64 a0.1.2.1.pl.D,.sl false 6 a0.1.2.1.kids.length ((eSol false).f a0.1.2.1.kids),bl a0.1.2.2.1.inn,i64 a0.1.2.2.1.pl.A,i64 a0.1.2.2.1.pl.B,i64 a0.1.2.2.1.pl.C,i64 a0.1.2.2.1.pl.D,.sl false 6 a0.1.2.2.1.kids.length ((eSol false).f a0.1.2.2.1.kids),bl a0.1.2.2.2.1.inn,i64 a0.1.2.2.2.1.pl.A,i64 a0.1.2.2.2.1.pl.B,i64 a0.1.2.2.2.1.pl.C,i64 a0.1.2.2.2.1.pl.D,.sl false 6 a0.1.2.2.2.1.kids.length ((eSol false).f a0.1.2.2.2.1.kids),bl a0.1.2.2.2.2.1.inn,i64 a0.1.2.2.2.2.1.pl.A,i64 a0.1.2.2.2.2.1.pl.B,i64 a0.1.2.2.2.2.1.pl.C,i64 a0.1.2.2.2.2.1.pl.D,.sl false 6 a0.1.2.2.2.2.1.kids.length ((eSol false).f a0.1.2.2.2.2.1.kids),bl a0.1.2.2.2.2.2.1.inn,i64 a0.1.2.2.2.2.2.1.pl.A,i64 a0.1.2.2.2.2.2.1.pl.B,i64 a0.1.2.2.2.2.2.1.pl.C,i64 a0.1.2.2.2.2.2.1.pl.D,.sl false 6 a0.1.2.2.2.2.2.1.kids.length ((eSol false).f a0.1.2.2.2.2.2.1.kids),bl a0.1.2.2.2.2.2.2.1.inn,i64 a0.1.2.2.2.2.2.2.1.pl.A,i64 a0.1.2.2.2.2.2.2.1.pl.B,i64 a0.1.2.2.2.2.2.2.1.pl.C,i64 a0.1.2.2.2.2.2.2.1.pl.D,.sl false 6 a0.1.2.2.2.2.2.2.1.kids.length ((eSol false).f a0.1.2.2.2.2.2.2.1.kids),bl a0.1.2.2.2.2.2.2.2.inn,i64 a0.1.2.2.2.2.2.2.2.pl.A,i64 a0.1.2.2.2.2.2.2.2.pl.B,i64 a0.1.2.2.2.2.2.2.2.pl.C,i64 a0.1.2.2.2.2.2.2.2.pl.D,.sl false 6 a0.1.2.2.2.2.2.2.2.kids.length ((eSol false).f a0.1.2.2.2.2.2.2.2.kids),bl a0.2.1,bl a0.2.2.1,bl a0.2.2.2.1,bl a0.2.2.2.2.1,bl a0.2.2.2.2.2.1,bl a0.2.2.2.2.2.2.1,bl a0.2.2.2.2.2.2.2.1,bl a0.2.2.2.2.2.2.2.2]++q0)] (lk []) (i64 r) (lk [])):=by
 unfold Dimpl_Desk_held at h
 refine x_call (fn:=Tryz.f105) (c:=bodyOf Tryz.f105) (bs0:=[]) Tryz.func105 (by kernel_rfl) (by kernel_rfl) ?_
 obtain⟨v0,y0,h⟩:=bm h
 obtain⟨v1,y1,h⟩:=bm h
 obtain⟨v2,y2,h⟩:=bm h
 obtain⟨v3,y3,h⟩:=bm h
 obtain⟨v4,y4,h⟩:=bm h
 obtain⟨v5,y5,h⟩:=bm h
 obtain⟨v6,y6,h⟩:=bm h
 obtain⟨v7,y7,h⟩:=bm h
 replace h:=sj h;subst h
 exact x_end 283 [(12,.call [] [] (i64 v0) []),(13,.call [] [] (i64 v1) []),(13,.call [] [] (i64 v2) []),(13,.call [] [] (i64 v3) []),(13,.call [] [] (i64 v4) []),(13,.call [] [] (i64 v5) []),(13,.call [] [] (i64 v6) []),(13,.call [] [] (i64 v7) [])] [] (ocons (Timpl_Solid_nodes (Y:=Y) n a0.1.1 ([bl a0.1.2.1.inn,i64 a0.1.2.1.pl.A,i64 a0.1.2.1.pl.B,i64 a0.1.2.1.pl.C,i64 a0.1.2.1.pl.D,.sl false 6 a0.1.2.1.kids.length ((eSol false).f a0.1.2.1.kids),bl a0.1.2.2.1.inn,i64 a0.1.2.2.1.pl.A,i64 a0.1.2.2.1.pl.B,i64 a0.1.2.2.1.pl.C,i64 a0.1.2.2.1.pl.D,.sl false 6 a0.1.2.2.1.kids.length ((eSol false).f a0.1.2.2.1.kids),bl a0.1.2.2.2.1.inn,i64 a0.1.2.2.2.1.pl.A,i64 a0.1.2.2.2.1.pl.B,i64 a0.1.2.2.2.1.pl.C,i64 a0.1.2.2.2.1.pl.D,.sl false 6 a0.1.2.2.2.1.kids.length ((eSol false).f a0.1.2.2.2.1.kids),bl a0.1.2.2.2.2.1.inn,i64 a0.1.2.2.2.2.1.pl.A,i64 a0.1.2.2.2.2.1.pl.B,i64 a0.1.2.2.2.2.1.pl.C,i64 a0.1.2.2.2.2.1.pl.D,.sl false 6 a0.1.2.2.2.2.1.kids.length ((eSol false).f a0.1.2.2.2.2.1.kids),bl a0.1.2.2.2.2.2.1.inn,i64 a0.1.2.2.2.2.2.1.pl.A,i64 a0.1.2.2.2.2.2.1.pl.B,i64 a0.1.2.2.2.2.2.1.pl.C,i64 a0.1.2.2.2.2.2.1.pl.D,.sl false 6 a0.1.2.2.2.2.2.1.kids.length ((eSol false).f a0.1.2.2.2.2.2.1.kids),bl a0.1.2.2.2.2.2.2.1.inn,i64 a0.1.2.2.2.2.2.2.1.pl.A,i64 a0.1.2.2.2.2.2.2.1.pl.B,i64 a0.1.2.2.2.2.2.2.1.pl.C,i64 a0.1.2.2.2.2.2.2.1.pl.D,.sl false 6 a0.1.2.2.2.2.2.2.1.kids.length ((eSol false).f a0.1.2.2.2.2.2.2.1.kids),bl a0.1.2.2.2.2.2.2.2.inn,i64 a0.1.2.2.2.2.2.2.2.pl.A,i64 a0.1.2.2.2.2.2.2.2.pl.B,i64 a0.1.2.2.2.2.2.2.2.pl.C,i64 a0.1.2.2.2.2.2.2.2.pl.D,.sl false 6 a0.1.2.2.2.2.2.2.2.kids.length ((eSol false).f a0.1.2.2.2.2.2.2.2.kids),bl a0.2.1,bl a0.2.2.1,bl a0.2.2.2.1,bl a0.2.2.2.2.1,bl a0.2.2.2.2.2.1,bl a0.2.2.2.2.2.2.1,bl a0.2.2.2.2.2.2.2.1,bl a0.2.2.2.2.2.2.2.2]++q0) _ y0) (ocons (Timpl_Solid_nodes (Y:=Y) n a0.1.2.1 ([bl a0.1.2.2.1.inn,i64 a0.1.2.2.1.pl.A,i64 a0.1.2.2.1.pl.B,i64 a0.1.2.2.1.pl.C,i64 a0.1.2.2.1.pl.D,.sl false 6 a0.1.2.2.1.kids.length ((eSol false).f a0.1.2.2.1.kids),bl a0.1.2.2.2.1.inn,i64 a0.1.2.2.2.1.pl.A,i64 a0.1.2.2.2.1.pl.B,i64 a0.1.2.2.2.1.pl.C,i64 a0.1.2.2.2.1.pl.D,.sl false 6 a0.1.2.2.2.1.kids.length ((eSol false).f a0.1.2.2.2.1.kids),bl a0.1.2.2.2.2.1.inn,i64 a0.1.2.2.2.2.1.pl.A,i64 a0.1.2.2.2.2.1.pl.B,i64 a0.1.2.2.2.2.1.pl.C,i64 a0.1.2.2.2.2.1.pl.D,.sl false 6 a0.1.2.2.2.2.1.kids.length ((eSol false).f a0.1.2.2.2.2.1.kids),bl a0.1.2.2.2.2.2.1.inn,i64 a0.1.2.2.2.2.2.1.pl.A,i64 a0.1.2.2.2.2.2.1.pl.B,i64 a0.1.2.2.2.2.2.1.pl.C,i64 a0.1.2.2.2.2.2.1.pl.D,.sl false 6 a0.1.2.2.2.2.2.1.kids.length ((eSol false).f a0.1.2.2.2.2.2.1.kids),bl a0.1.2.2.2.2.2.2.1.inn,i64 a0.1.2.2.2.2.2.2.1.pl.A,i64 a0.1.2.2.2.2.2.2.1.pl.B,i64 a0.1.2.2.2.2.2.2.1.pl.C,i64 a0.1.2.2.2.2.2.2.1.pl.D,.sl false 6 a0.1.2.2.2.2.2.2.1.kids.length ((eSol false).f a0.1.2.2.2.2.2.2.1.kids),bl a0.1.2.2.2.2.2.2.2.inn,i64 a0.1.2.2.2.2.2.2.2.pl.A,i64 a0.1.2.2.2.2.2.2.2.pl.B,i64 a0.1.2.2.2.2.2.2.2.pl.C,i64 a0.1.2.2.2.2.2.2.2.pl.D,.sl false 6 a0.1.2.2.2.2.2.2.2.kids.length ((eSol false).f a0.1.2.2.2.2.2.2.2.kids),bl a0.2.1,bl a0.2.2.1,bl a0.2.2.2.1,bl a0.2.2.2.2.1,bl a0.2.2.2.2.2.1,bl a0.2.2.2.2.2.2.1,bl a0.2.2.2.2.2.2.2.1,bl a0.2.2.2.2.2.2.2.2]++q0) _ y1) (ocons (Timpl_Solid_nodes (Y:=Y) n a0.1.2.2.1 ([bl a0.1.2.2.2.1.inn,i64 a0.1.2.2.2.1.pl.A,i64 a0.1.2.2.2.1.pl.B,i64 a0.1.2.2.2.1.pl.C,i64 a0.1.2.2.2.1.pl.D,.sl false 6 a0.1.2.2.2.1.kids.length ((eSol false).f a0.1.2.2.2.1.kids),bl a0.1.2.2.2.2.1.inn,i64 a0.1.2.2.2.2.1.pl.A,i64 a0.1.2.2.2.2.1.pl.B,i64 a0.1.2.2.2.2.1.pl.C,i64 a0.1.2.2.2.2.1.pl.D,.sl false 6 a0.1.2.2.2.2.1.kids.length ((eSol false).f a0.1.2.2.2.2.1.kids),bl a0.1.2.2.2.2.2.1.inn,i64 a0.1.2.2.2.2.2.1.pl.A,i64 a0.1.2.2.2.2.2.1.pl.B,i64 a0.1.2.2.2.2.2.1.pl.C,i64 a0.1.2.2.2.2.2.1.pl.D,.sl false 6 a0.1.2.2.2.2.2.1.kids.length ((eSol false).f a0.1.2.2.2.2.2.1.kids),bl a0.1.2.2.2.2.2.2.1.inn,i64 a0.1.2.2.2.2.2.2.1.pl.A,i64 a0.1.2.2.2.2.2.2.1.pl.B,i64 a0.1.2.2.2.2.2.2.1.pl.C,i64 a0.1.2.2.2.2.2.2.1.pl.D,.sl false 6 a0.1.2.2.2.2.2.2.1.kids.length ((eSol false).f a0.1.2.2.2.2.2.2.1.kids),bl a0.1.2.2.2.2.2.2.2.inn,i64 a0.1.2.2.2.2.2.2.2.pl.A,i64 a0.1.2.2.2.2.2.2.2.pl.B,i64 a0.1.2.2.2.2.2.2.2.pl.C,i64 a0.1.2.2.2.2.2.2.2.pl.D,.sl false 6 a0.1.2.2.2.2.2.2.2.kids.length ((eSol false).f a0.1.2.2.2.2.2.2.2.kids),bl a0.2.1,bl a0.2.2.1,bl a0.2.2.2.1,bl a0.2.2.2.2.1,bl a0.2.2.2.2.2.1,bl a0.2.2.2.2.2.2.1,bl a0.2.2.2.2.2.2.2.1,bl a0.2.2.2.2.2.2.2.2]++q0) _ y2) (ocons (Timpl_Solid_nodes (Y:=Y) n a0.1.2.2.2.1 ([bl a0.1.2.2.2.2.1.inn,i64 a0.1.2.2.2.2.1.pl.A,i64 a0.1.2.2.2.2.1.pl.B,i64 a0.1.2.2.2.2.1.pl.C,i64 a0.1.2.2.2.2.1.pl.D,.sl false 6 a0.1.2.2.2.2.1.kids.length ((eSol false).f a0.1.2.2.2.2.1.kids),bl a0.1.2.2.2.2.2.1.inn,i64 a0.1.2.2.2.2.2.1.pl.A,i64 a0.1.2.2.2.2.2.1.pl.B,i64 a0.1.2.2.2.2.2.1.pl.C,i64 a0.1.2.2.2.2.2.1.pl.D,.sl false 6 a0.1.2.2.2.2.2.1.kids.length ((eSol false).f a0.1.2.2.2.2.2.1.kids),bl a0.1.2.2.2.2.2.2.1.inn,i64 a0.1.2.2.2.2.2.2.1.pl.A,i64 a0.1.2.2.2.2.2.2.1.pl.B,i64 a0.1.2.2.2.2.2.2.1.pl.C,i64 a0.1.2.2.2.2.2.2.1.pl.D,.sl false 6 a0.1.2.2.2.2.2.2.1.kids.length ((eSol false).f a0.1.2.2.2.2.2.2.1.kids),bl a0.1.2.2.2.2.2.2.2.inn,i64 a0.1.2.2.2.2.2.2.2.pl.A,i64 a0.1.2.2.2.2.2.2.2.pl.B,i64 a0.1.2.2.2.2.2.2.2.pl.C,i64 a0.1.2.2.2.2.2.2.2.pl.D,.sl false 6 a0.1.2.2.2.2.2.2.2.kids.length ((eSol false).f a0.1.2.2.2.2.2.2.2.kids),bl a0.2.1,bl a0.2.2.1,bl a0.2.2.2.1,bl a0.2.2.2.2.1,bl a0.2.2.2.2.2.1,bl a0.2.2.2.2.2.2.1,bl a0.2.2.2.2.2.2.2.1,bl a0.2.2.2.2.2.2.2.2]++q0) _ y3) (ocons (Timpl_Solid_nodes (Y:=Y) n a0.1.2.2.2.2.1 ([bl a0.1.2.2.2.2.2.1.inn,i64 a0.1.2.2.2.2.2.1.pl.A,i64 a0.1.2.2.2.2.2.1.pl.B,i64 a0.1.2.2.2.2.2.1.pl.C,i64 a0.1.2.2.2.2.2.1.pl.D,.sl false 6 a0.1.2.2.2.2.2.1.kids.length ((eSol false).f a0.1.2.2.2.2.2.1.kids),bl a0.1.2.2.2.2.2.2.1.inn,i64 a0.1.2.2.2.2.2.2.1.pl.A,i64 a0.1.2.2.2.2.2.2.1.pl.B,i64 a0.1.2.2.2.2.2.2.1.pl.C,i64 a0.1.2.2.2.2.2.2.1.pl.D,.sl false 6 a0.1.2.2.2.2.2.2.1.kids.length ((eSol false).f a0.1.2.2.2.2.2.2.1.kids),bl a0.1.2.2.2.2.2.2.2.inn,i64 a0.1.2.2.2.2.2.2.2.pl.A,i64 a0.1.2.2.2.2.2.2.2.pl.B,i64 a0.1.2.2.2.2.2.2.2.pl.C,i64 a0.1.2.2.2.2.2.2.2.pl.D,.sl false 6 a0.1.2.2.2.2.2.2.2.kids.length ((eSol false).f a0.1.2.2.2.2.2.2.2.kids),bl a0.2.1,bl a0.2.2.1,bl a0.2.2.2.1,bl a0.2.2.2.2.1,bl a0.2.2.2.2.2.1,bl a0.2.2.2.2.2.2.1,bl a0.2.2.2.2.2.2.2.1,bl a0.2.2.2.2.2.2.2.2]++q0) _ y4) (ocons (Timpl_Solid_nodes (Y:=Y) n a0.1.2.2.2.2.2.1 ([bl a0.1.2.2.2.2.2.2.1.inn,i64 a0.1.2.2.2.2.2.2.1.pl.A,i64 a0.1.2.2.2.2.2.2.1.pl.B,i64 a0.1.2.2.2.2.2.2.1.pl.C,i64 a0.1.2.2.2.2.2.2.1.pl.D,.sl false 6 a0.1.2.2.2.2.2.2.1.kids.length ((eSol false).f a0.1.2.2.2.2.2.2.1.kids),bl a0.1.2.2.2.2.2.2.2.inn,i64 a0.1.2.2.2.2.2.2.2.pl.A,i64 a0.1.2.2.2.2.2.2.2.pl.B,i64 a0.1.2.2.2.2.2.2.2.pl.C,i64 a0.1.2.2.2.2.2.2.2.pl.D,.sl false 6 a0.1.2.2.2.2.2.2.2.kids.length ((eSol false).f a0.1.2.2.2.2.2.2.2.kids),bl a0.2.1,bl a0.2.2.1,bl a0.2.2.2.1,bl a0.2.2.2.2.1,bl a0.2.2.2.2.2.1,bl a0.2.2.2.2.2.2.1,bl a0.2.2.2.2.2.2.2.1,bl a0.2.2.2.2.2.2.2.2]++q0) _ y5) (ocons (Timpl_Solid_nodes (Y:=Y) n a0.1.2.2.2.2.2.2.1 ([bl a0.1.2.2.2.2.2.2.2.inn,i64 a0.1.2.2.2.2.2.2.2.pl.A,i64 a0.1.2.2.2.2.2.2.2.pl.B,i64 a0.1.2.2.2.2.2.2.2.pl.C,i64 a0.1.2.2.2.2.2.2.2.pl.D,.sl false 6 a0.1.2.2.2.2.2.2.2.kids.length ((eSol false).f a0.1.2.2.2.2.2.2.2.kids),bl a0.2.1,bl a0.2.2.1,bl a0.2.2.2.1,bl a0.2.2.2.2.1,bl a0.2.2.2.2.2.1,bl a0.2.2.2.2.2.2.1,bl a0.2.2.2.2.2.2.2.1,bl a0.2.2.2.2.2.2.2.2]++q0) _ y6) (ocons (Timpl_Solid_nodes (Y:=Y) n a0.1.2.2.2.2.2.2.2 ([bl a0.2.1,bl a0.2.2.1,bl a0.2.2.2.1,bl a0.2.2.2.2.1,bl a0.2.2.2.2.2.1,bl a0.2.2.2.2.2.2.1,bl a0.2.2.2.2.2.2.2.1,bl a0.2.2.2.2.2.2.2.2]++q0) _ y7) onil)))))))) onil 
def Dimpl_DeskOk_7(n:Nat)(a0:Dsk)(t26:Bool):Option Bool :=
 frk t26 (some false) ((Dimpl_Desk_held n a0).bind fun v16=>some (decide (v16≤900)))
theorem Timpl_DeskOk_7{Y}(n:Nat)(a0:Dsk)(t26 r:Bool)(h:Dimpl_DeskOk_7 n a0 t26=some r):Wk Tryz.prog H Y 37 [.code (cp [1,0,1,0,0,1,1,0,0,1,1] (bodyOf Tryz.f37)),.blk 1,.code (cp [1,0,1,0,0,1,1,1] (bodyOf Tryz.f37)),.lp (cp [1,0,1,0] (bodyOf Tryz.f37)),.blk 0,.code (cp [1,1] (bodyOf Tryz.f37))] (FinX Tryz.prog Tryz.f37 [] (bl r) []) ⟨[(1,.ptr 1 0),(6,.agg [bl a0.1.1.inn,i64 a0.1.1.pl.A,i64 a0.1.1.pl.B,i64 a0.1.1.pl.C,i64 a0.1.1.pl.D,.sl false 6 a0.1.1.kids.length ((eSol false).f a0.1.1.kids),bl a0.1.2.1.inn,i64 a0.1.2.1.pl.A,i64 a0.1.2.1.pl.B,i64 a0.1.2.1.pl.C,i64 a0.1.2.1.pl.D,.sl false 6 a0.1.2.1.kids.length ((eSol false).f a0.1.2.1.kids),bl a0.1.2.2.1.inn,i64 a0.1.2.2.1.pl.A,i64 a0.1.2.2.1.pl.B,i64 a0.1.2.2.1.pl.C,i64 a0.1.2.2.1.pl.D,.sl false 6 a0.1.2.2.1.kids.length ((eSol false).f a0.1.2.2.1.kids),bl a0.1.2.2.2.1.inn,i64 a0.1.2.2.2.1.pl.A,i64 a0.1.2.2.2.1.pl.B,i64 a0.1.2.2.2.1.pl.C,i64 a0.1.2.2.2.1.pl.D,.sl false 6 a0.1.2.2.2.1.kids.length ((eSol false).f a0.1.2.2.2.1.kids),bl a0.1.2.2.2.2.1.inn,i64 a0.1.2.2.2.2.1.pl.A,i64 a0.1.2.2.2.2.1.pl.B,i64 a0.1.2.2.2.2.1.pl.C,i64 a0.1.2.2.2.2.1.pl.D,.sl false 6 a0.1.2.2.2.2.1.kids.length ((eSol false).f a0.1.2.2.2.2.1.kids),bl a0.1.2.2.2.2.2.1.inn,i64 a0.1.2.2.2.2.2.1.pl.A,i64 a0.1.2.2.2.2.2.1.pl.B,i64 a0.1.2.2.2.2.2.1.pl.C,i64 a0.1.2.2.2.2.2.1.pl.D,.sl false 6 a0.1.2.2.2.2.2.1.kids.length ((eSol false).f a0.1.2.2.2.2.2.1.kids),bl a0.1.2.2.2.2.2.2.1.inn,i64 a0.1.2.2.2.2.2.2.1.pl.A,i64 a0.1.2.2.2.2.2.2.1.pl.B,i64 a0.1.2.2.2.2.2.2.1.pl.C,i64 a0.1.2.2.2.2.2.2.1.pl.D,.sl false 6 a0.1.2.2.2.2.2.2.1.kids.length ((eSol false).f a0.1.2.2.2.2.2.2.1.kids),bl a0.1.2.2.2.2.2.2.2.inn,i64 a0.1.2.2.2.2.2.2.2.pl.A,i64 a0.1.2.2.2.2.2.2.2.pl.B,i64 a0.1.2.2.2.2.2.2.2.pl.C,i64 a0.1.2.2.2.2.2.2.2.pl.D,.sl false 6 a0.1.2.2.2.2.2.2.2.kids.length ((eSol false).f a0.1.2.2.2.2.2.2.2.kids)]),(7,i64 7),(26,bl t26)],[(1,⟨true,0,(cT38 a0)⟩)]⟩:=by
 unfold Dimpl_DeskOk_7 at h
 refine x_frk 0 [] onil h (by kernel_rfl) (fun h=>?_) (fun h=>?_)
 ·replace h:=sj h;subst h
  exact x_end 4 [] [] onil onil 
 ·obtain⟨v16,y16,h⟩:=bm h
  replace h:=sj h;subst h
  exact x_end 21 [(3,.call [] [] (i64 v16) [])] [] (ocons (Timpl_Desk_held (Y:=Y) n a0 [] _ y16) onil) onil 
def Dimpl_DeskOk_8(n:Nat)(a0:Dsk):Option Bool :=
 (Dimpl_Desk_held n a0).bind fun v17=>some (decide (v17≤900))
theorem Timpl_DeskOk_8{Y}(n:Nat)(a0:Dsk)(r:Bool)(h:Dimpl_DeskOk_8 n a0=some r):Wk Tryz.prog H Y 37 [.code (cp [1,0,1,0] (bodyOf Tryz.f37)),.blk 0,.code (cp [1,1] (bodyOf Tryz.f37))] (FinX Tryz.prog Tryz.f37 [] (bl r) []) ⟨[(1,.ptr 1 0),(6,.agg [bl a0.1.1.inn,i64 a0.1.1.pl.A,i64 a0.1.1.pl.B,i64 a0.1.1.pl.C,i64 a0.1.1.pl.D,.sl false 6 a0.1.1.kids.length ((eSol false).f a0.1.1.kids),bl a0.1.2.1.inn,i64 a0.1.2.1.pl.A,i64 a0.1.2.1.pl.B,i64 a0.1.2.1.pl.C,i64 a0.1.2.1.pl.D,.sl false 6 a0.1.2.1.kids.length ((eSol false).f a0.1.2.1.kids),bl a0.1.2.2.1.inn,i64 a0.1.2.2.1.pl.A,i64 a0.1.2.2.1.pl.B,i64 a0.1.2.2.1.pl.C,i64 a0.1.2.2.1.pl.D,.sl false 6 a0.1.2.2.1.kids.length ((eSol false).f a0.1.2.2.1.kids),bl a0.1.2.2.2.1.inn,i64 a0.1.2.2.2.1.pl.A,i64 a0.1.2.2.2.1.pl.B,i64 a0.1.2.2.2.1.pl.C,i64 a0.1.2.2.2.1.pl.D,.sl false 6 a0.1.2.2.2.1.kids.length ((eSol false).f a0.1.2.2.2.1.kids),bl a0.1.2.2.2.2.1.inn,i64 a0.1.2.2.2.2.1.pl.A,i64 a0.1.2.2.2.2.1.pl.B,i64 a0.1.2.2.2.2.1.pl.C,i64 a0.1.2.2.2.2.1.pl.D,.sl false 6 a0.1.2.2.2.2.1.kids.length ((eSol false).f a0.1.2.2.2.2.1.kids),bl a0.1.2.2.2.2.2.1.inn,i64 a0.1.2.2.2.2.2.1.pl.A,i64 a0.1.2.2.2.2.2.1.pl.B,i64 a0.1.2.2.2.2.2.1.pl.C,i64 a0.1.2.2.2.2.2.1.pl.D,.sl false 6 a0.1.2.2.2.2.2.1.kids.length ((eSol false).f a0.1.2.2.2.2.2.1.kids),bl a0.1.2.2.2.2.2.2.1.inn,i64 a0.1.2.2.2.2.2.2.1.pl.A,i64 a0.1.2.2.2.2.2.2.1.pl.B,i64 a0.1.2.2.2.2.2.2.1.pl.C,i64 a0.1.2.2.2.2.2.2.1.pl.D,.sl false 6 a0.1.2.2.2.2.2.2.1.kids.length ((eSol false).f a0.1.2.2.2.2.2.2.1.kids),bl a0.1.2.2.2.2.2.2.2.inn,i64 a0.1.2.2.2.2.2.2.2.pl.A,i64 a0.1.2.2.2.2.2.2.2.pl.B,i64 a0.1.2.2.2.2.2.2.2.pl.C,i64 a0.1.2.2.2.2.2.2.2.pl.D,.sl false 6 a0.1.2.2.2.2.2.2.2.kids.length ((eSol false).f a0.1.2.2.2.2.2.2.2.kids)]),(7,i64 8)],[(1,⟨true,0,(cT38 a0)⟩)]⟩:=by
 unfold Dimpl_DeskOk_8 at h
 obtain⟨v17,y17,h⟩:=bm h
 replace h:=sj h;subst h
 exact x_end 14 [(1,.call [] [] (i64 v17) [])] [] (ocons (Timpl_Desk_held (Y:=Y) n a0 [] _ y17) onil) onil 
def Dimpl_DeskOk_6(n:Nat)(a0:Dsk)(t26:Bool):Option Bool :=
 frk t26 (some false) ((Dimpl_SolidOk n a0.1.2.2.2.2.2.2.2).bind fun v14=>frk (!v14) (some false) (frk (!a0.2.2.2.2.2.2.2.2) ((Dimpl_SameTree n a0.1.2.2.2.2.2.2.2 (Sol.mk false (Pl.mk 0 0 0 0) [])).bind fun v15=>Dimpl_DeskOk_7 n a0 (!v15)) (Dimpl_DeskOk_8 n a0)))
theorem Timpl_DeskOk_6{Y}(n:Nat)(a0:Dsk)(t26 r:Bool)(h:Dimpl_DeskOk_6 n a0 t26=some r):Wk Tryz.prog H Y 37 [.code (cp [1,0,1,0,0,1,1,0,0,1,1] (bodyOf Tryz.f37)),.blk 1,.code (cp [1,0,1,0,0,1,1,1] (bodyOf Tryz.f37)),.lp (cp [1,0,1,0] (bodyOf Tryz.f37)),.blk 0,.code (cp [1,1] (bodyOf Tryz.f37))] (FinX Tryz.prog Tryz.f37 [] (bl r) []) ⟨[(1,.ptr 1 0),(6,.agg [bl a0.1.1.inn,i64 a0.1.1.pl.A,i64 a0.1.1.pl.B,i64 a0.1.1.pl.C,i64 a0.1.1.pl.D,.sl false 6 a0.1.1.kids.length ((eSol false).f a0.1.1.kids),bl a0.1.2.1.inn,i64 a0.1.2.1.pl.A,i64 a0.1.2.1.pl.B,i64 a0.1.2.1.pl.C,i64 a0.1.2.1.pl.D,.sl false 6 a0.1.2.1.kids.length ((eSol false).f a0.1.2.1.kids),bl a0.1.2.2.1.inn,i64 a0.1.2.2.1.pl.A,i64 a0.1.2.2.1.pl.B,i64 a0.1.2.2.1.pl.C,i64 a0.1.2.2.1.pl.D,.sl false 6 a0.1.2.2.1.kids.length ((eSol false).f a0.1.2.2.1.kids),bl a0.1.2.2.2.1.inn,i64 a0.1.2.2.2.1.pl.A,i64 a0.1.2.2.2.1.pl.B,i64 a0.1.2.2.2.1.pl.C,i64 a0.1.2.2.2.1.pl.D,.sl false 6 a0.1.2.2.2.1.kids.length ((eSol false).f a0.1.2.2.2.1.kids),bl a0.1.2.2.2.2.1.inn,i64 a0.1.2.2.2.2.1.pl.A,i64 a0.1.2.2.2.2.1.pl.B,i64 a0.1.2.2.2.2.1.pl.C,i64 a0.1.2.2.2.2.1.pl.D,.sl false 6 a0.1.2.2.2.2.1.kids.length ((eSol false).f a0.1.2.2.2.2.1.kids),bl a0.1.2.2.2.2.2.1.inn,i64 a0.1.2.2.2.2.2.1.pl.A,i64 a0.1.2.2.2.2.2.1.pl.B,i64 a0.1.2.2.2.2.2.1.pl.C,i64 a0.1.2.2.2.2.2.1.pl.D,.sl false 6 a0.1.2.2.2.2.2.1.kids.length ((eSol false).f a0.1.2.2.2.2.2.1.kids),bl a0.1.2.2.2.2.2.2.1.inn,i64 a0.1.2.2.2.2.2.2.1.pl.A,i64 a0.1.2.2.2.2.2.2.1.pl.B,i64 a0.1.2.2.2.2.2.2.1.pl.C,i64 a0.1.2.2.2.2.2.2.1.pl.D,.sl false 6 a0.1.2.2.2.2.2.2.1.kids.length ((eSol false).f a0.1.2.2.2.2.2.2.1.kids),bl a0.1.2.2.2.2.2.2.2.inn,i64 a0.1.2.2.2.2.2.2.2.pl.A,i64 a0.1.2.2.2.2.2.2.2.pl.B,i64 a0.1.2.2.2.2.2.2.2.pl.C,i64 a0.1.2.2.2.2.2.2.2.pl.D,.sl false 6 a0.1.2.2.2.2.2.2.2.kids.length ((eSol false).f a0.1.2.2.2.2.2.2.2.kids)]),(7,i64 6),(26,bl t26)],[(1,⟨true,0,(cT38 a0)⟩)]⟩:=by
 unfold Dimpl_DeskOk_6 at h
 refine x_frk 0 [] onil h (by kernel_rfl) (fun h=>?_) (fun h=>?_)
 ·replace h:=sj h;subst h
  exact x_end 4 [] [] onil onil 
 ·obtain⟨v14,y14,h⟩:=bm h
  refine x_frk 31 [(9,.call [] [] (bl v14) [])] (ocons (Timpl_SolidOk (Y:=Y) n a0.1.2.2.2.2.2.2.2 _ y14) onil) h (by kernel_rfl) (fun h=>?_) (fun h=>?_)
  ·replace h:=sj h;subst h
   exact x_end 18 [] [] onil onil 
  ·refine x_frk 6 [] onil h (by kernel_rfl) (fun h=>?_) (fun h=>?_)
   ·obtain⟨v15,y15,h⟩:=bm h
    exact x_to 7 [(2,.call [(false,6)] [] (bl v15) [])] (ocons (Timpl_SameTree (Y:=Y) n a0.1.2.2.2.2.2.2.2 (Sol.mk false (Pl.mk 0 0 0 0) []) _ y15) onil) (Timpl_DeskOk_7 n a0 (!v15) r h) 
   ·exact x_to 15 [] onil (Timpl_DeskOk_8 n a0 r h) 
def Dimpl_DeskOk_9(n:Nat)(a0:Dsk):Option Bool :=
 (Dimpl_SolidOk n a0.1.2.2.2.2.2.2.2).bind fun v18=>frk (!v18) (some false) (frk (!a0.2.2.2.2.2.2.2.2) ((Dimpl_SameTree n a0.1.2.2.2.2.2.2.2 (Sol.mk false (Pl.mk 0 0 0 0) [])).bind fun v19=>Dimpl_DeskOk_7 n a0 (!v19)) (Dimpl_DeskOk_8 n a0))
theorem Timpl_DeskOk_9{Y}(n:Nat)(a0:Dsk)(r:Bool)(h:Dimpl_DeskOk_9 n a0=some r):Wk Tryz.prog H Y 37 [.code (cp [1,0,1,0] (bodyOf Tryz.f37)),.blk 0,.code (cp [1,1] (bodyOf Tryz.f37))] (FinX Tryz.prog Tryz.f37 [] (bl r) []) ⟨[(1,.ptr 1 0),(6,.agg [bl a0.1.1.inn,i64 a0.1.1.pl.A,i64 a0.1.1.pl.B,i64 a0.1.1.pl.C,i64 a0.1.1.pl.D,.sl false 6 a0.1.1.kids.length ((eSol false).f a0.1.1.kids),bl a0.1.2.1.inn,i64 a0.1.2.1.pl.A,i64 a0.1.2.1.pl.B,i64 a0.1.2.1.pl.C,i64 a0.1.2.1.pl.D,.sl false 6 a0.1.2.1.kids.length ((eSol false).f a0.1.2.1.kids),bl a0.1.2.2.1.inn,i64 a0.1.2.2.1.pl.A,i64 a0.1.2.2.1.pl.B,i64 a0.1.2.2.1.pl.C,i64 a0.1.2.2.1.pl.D,.sl false 6 a0.1.2.2.1.kids.length ((eSol false).f a0.1.2.2.1.kids),bl a0.1.2.2.2.1.inn,i64 a0.1.2.2.2.1.pl.A,i64 a0.1.2.2.2.1.pl.B,i64 a0.1.2.2.2.1.pl.C,i64 a0.1.2.2.2.1.pl.D,.sl false 6 a0.1.2.2.2.1.kids.length ((eSol false).f a0.1.2.2.2.1.kids),bl a0.1.2.2.2.2.1.inn,i64 a0.1.2.2.2.2.1.pl.A,i64 a0.1.2.2.2.2.1.pl.B,i64 a0.1.2.2.2.2.1.pl.C,i64 a0.1.2.2.2.2.1.pl.D,.sl false 6 a0.1.2.2.2.2.1.kids.length ((eSol false).f a0.1.2.2.2.2.1.kids),bl a0.1.2.2.2.2.2.1.inn,i64 a0.1.2.2.2.2.2.1.pl.A,i64 a0.1.2.2.2.2.2.1.pl.B,i64 a0.1.2.2.2.2.2.1.pl.C,i64 a0.1.2.2.2.2.2.1.pl.D,.sl false 6 a0.1.2.2.2.2.2.1.kids.length ((eSol false).f a0.1.2.2.2.2.2.1.kids),bl a0.1.2.2.2.2.2.2.1.inn,i64 a0.1.2.2.2.2.2.2.1.pl.A,i64 a0.1.2.2.2.2.2.2.1.pl.B,i64 a0.1.2.2.2.2.2.2.1.pl.C,i64 a0.1.2.2.2.2.2.2.1.pl.D,.sl false 6 a0.1.2.2.2.2.2.2.1.kids.length ((eSol false).f a0.1.2.2.2.2.2.2.1.kids),bl a0.1.2.2.2.2.2.2.2.inn,i64 a0.1.2.2.2.2.2.2.2.pl.A,i64 a0.1.2.2.2.2.2.2.2.pl.B,i64 a0.1.2.2.2.2.2.2.2.pl.C,i64 a0.1.2.2.2.2.2.2.2.pl.D,.sl false 6 a0.1.2.2.2.2.2.2.2.kids.length ((eSol false).f a0.1.2.2.2.2.2.2.2.kids)]),(7,i64 7)],[(1,⟨true,0,(cT38 a0)⟩)]⟩:=by
 unfold Dimpl_DeskOk_9 at h
 obtain⟨v18,y18,h⟩:=bm h
 refine x_frk 24 [(7,.call [] [] (bl v18) [])] (ocons (Timpl_SolidOk (Y:=Y) n a0.1.2.2.2.2.2.2.2 _ y18) onil) h (by kernel_rfl) (fun h=>?_) (fun h=>?_)
 ·replace h:=sj h;subst h
  exact x_end 18 [] [] onil onil 
 ·refine x_frk 6 [] onil h (by kernel_rfl) (fun h=>?_) (fun h=>?_)
  ·obtain⟨v19,y19,h⟩:=bm h
   exact x_to 7 [(2,.call [(false,6)] [] (bl v19) [])] (ocons (Timpl_SameTree (Y:=Y) n a0.1.2.2.2.2.2.2.2 (Sol.mk false (Pl.mk 0 0 0 0) []) _ y19) onil) (Timpl_DeskOk_7 n a0 (!v19) r h) 
  ·exact x_to 15 [] onil (Timpl_DeskOk_8 n a0 r h) 
def Dimpl_DeskOk_5(n:Nat)(a0:Dsk)(t26:Bool):Option Bool :=
 frk t26 (some false) ((Dimpl_SolidOk n a0.1.2.2.2.2.2.2.1).bind fun v12=>frk (!v12) (some false) (frk (!a0.2.2.2.2.2.2.2.1) ((Dimpl_SameTree n a0.1.2.2.2.2.2.2.1 (Sol.mk false (Pl.mk 0 0 0 0) [])).bind fun v13=>Dimpl_DeskOk_6 n a0 (!v13)) (Dimpl_DeskOk_9 n a0)))
theorem Timpl_DeskOk_5{Y}(n:Nat)(a0:Dsk)(t26 r:Bool)(h:Dimpl_DeskOk_5 n a0 t26=some r):Wk Tryz.prog H Y 37 [.code (cp [1,0,1,0,0,1,1,0,0,1,1] (bodyOf Tryz.f37)),.blk 1,.code (cp [1,0,1,0,0,1,1,1] (bodyOf Tryz.f37)),.lp (cp [1,0,1,0] (bodyOf Tryz.f37)),.blk 0,.code (cp [1,1] (bodyOf Tryz.f37))] (FinX Tryz.prog Tryz.f37 [] (bl r) []) ⟨[(1,.ptr 1 0),(6,.agg [bl a0.1.1.inn,i64 a0.1.1.pl.A,i64 a0.1.1.pl.B,i64 a0.1.1.pl.C,i64 a0.1.1.pl.D,.sl false 6 a0.1.1.kids.length ((eSol false).f a0.1.1.kids),bl a0.1.2.1.inn,i64 a0.1.2.1.pl.A,i64 a0.1.2.1.pl.B,i64 a0.1.2.1.pl.C,i64 a0.1.2.1.pl.D,.sl false 6 a0.1.2.1.kids.length ((eSol false).f a0.1.2.1.kids),bl a0.1.2.2.1.inn,i64 a0.1.2.2.1.pl.A,i64 a0.1.2.2.1.pl.B,i64 a0.1.2.2.1.pl.C,i64 a0.1.2.2.1.pl.D,.sl false 6 a0.1.2.2.1.kids.length ((eSol false).f a0.1.2.2.1.kids),bl a0.1.2.2.2.1.inn,i64 a0.1.2.2.2.1.pl.A,i64 a0.1.2.2.2.1.pl.B,i64 a0.1.2.2.2.1.pl.C,i64 a0.1.2.2.2.1.pl.D,.sl false 6 a0.1.2.2.2.1.kids.length ((eSol false).f a0.1.2.2.2.1.kids),bl a0.1.2.2.2.2.1.inn,i64 a0.1.2.2.2.2.1.pl.A,i64 a0.1.2.2.2.2.1.pl.B,i64 a0.1.2.2.2.2.1.pl.C,i64 a0.1.2.2.2.2.1.pl.D,.sl false 6 a0.1.2.2.2.2.1.kids.length ((eSol false).f a0.1.2.2.2.2.1.kids),bl a0.1.2.2.2.2.2.1.inn,i64 a0.1.2.2.2.2.2.1.pl.A,i64 a0.1.2.2.2.2.2.1.pl.B,i64 a0.1.2.2.2.2.2.1.pl.C,i64 a0.1.2.2.2.2.2.1.pl.D,.sl false 6 a0.1.2.2.2.2.2.1.kids.length ((eSol false).f a0.1.2.2.2.2.2.1.kids),bl a0.1.2.2.2.2.2.2.1.inn,i64 a0.1.2.2.2.2.2.2.1.pl.A,i64 a0.1.2.2.2.2.2.2.1.pl.B,i64 a0.1.2.2.2.2.2.2.1.pl.C,i64 a0.1.2.2.2.2.2.2.1.pl.D,.sl false 6 a0.1.2.2.2.2.2.2.1.kids.length ((eSol false).f a0.1.2.2.2.2.2.2.1.kids),bl a0.1.2.2.2.2.2.2.2.inn,i64 a0.1.2.2.2.2.2.2.2.pl.A,i64 a0.1.2.2.2.2.2.2.2.pl.B,i64 a0.1.2.2.2.2.2.2.2.pl.C,i64 a0.1.2.2.2.2.2.2.2.pl.D,.sl false 6 a0.1.2.2.2.2.2.2.2.kids.length ((eSol false).f a0.1.2.2.2.2.2.2.2.kids)]),(7,i64 5),(26,bl t26)],[(1,⟨true,0,(cT38 a0)⟩)]⟩:=by
 unfold Dimpl_DeskOk_5 at h
 refine x_frk 0 [] onil h (by kernel_rfl) (fun h=>?_) (fun h=>?_)
 ·replace h:=sj h;subst h
  exact x_end 4 [] [] onil onil 
 ·obtain⟨v12,y12,h⟩:=bm h
  refine x_frk 31 [(9,.call [] [] (bl v12) [])] (ocons (Timpl_SolidOk (Y:=Y) n a0.1.2.2.2.2.2.2.1 _ y12) onil) h (by kernel_rfl) (fun h=>?_) (fun h=>?_)
  ·replace h:=sj h;subst h
   exact x_end 18 [] [] onil onil 
  ·refine x_frk 6 [] onil h (by kernel_rfl) (fun h=>?_) (fun h=>?_)
   ·obtain⟨v13,y13,h⟩:=bm h
    exact x_to 7 [(2,.call [(false,6)] [] (bl v13) [])] (ocons (Timpl_SameTree (Y:=Y) n a0.1.2.2.2.2.2.2.1 (Sol.mk false (Pl.mk 0 0 0 0) []) _ y13) onil) (Timpl_DeskOk_6 n a0 (!v13) r h) 
   ·exact x_to 15 [] onil (Timpl_DeskOk_9 n a0 r h) 
def Dimpl_DeskOk_10(n:Nat)(a0:Dsk):Option Bool :=
 (Dimpl_SolidOk n a0.1.2.2.2.2.2.2.1).bind fun v20=>frk (!v20) (some false) (frk (!a0.2.2.2.2.2.2.2.1) ((Dimpl_SameTree n a0.1.2.2.2.2.2.2.1 (Sol.mk false (Pl.mk 0 0 0 0) [])).bind fun v21=>Dimpl_DeskOk_6 n a0 (!v21)) (Dimpl_DeskOk_9 n a0))
theorem Timpl_DeskOk_10{Y}(n:Nat)(a0:Dsk)(r:Bool)(h:Dimpl_DeskOk_10 n a0=some r):Wk Tryz.prog H Y 37 [.code (cp [1,0,1,0] (bodyOf Tryz.f37)),.blk 0,.code (cp [1,1] (bodyOf Tryz.f37))] (FinX Tryz.prog Tryz.f37 [] (bl r) []) ⟨[(1,.ptr 1 0),(6,.agg [bl a0.1.1.inn,i64 a0.1.1.pl.A,i64 a0.1.1.pl.B,i64 a0.1.1.pl.C,i64 a0.1.1.pl.D,.sl false 6 a0.1.1.kids.length ((eSol false).f a0.1.1.kids),bl a0.1.2.1.inn,i64 a0.1.2.1.pl.A,i64 a0.1.2.1.pl.B,i64 a0.1.2.1.pl.C,i64 a0.1.2.1.pl.D,.sl false 6 a0.1.2.1.kids.length ((eSol false).f a0.1.2.1.kids),bl a0.1.2.2.1.inn,i64 a0.1.2.2.1.pl.A,i64 a0.1.2.2.1.pl.B,i64 a0.1.2.2.1.pl.C,i64 a0.1.2.2.1.pl.D,.sl false 6 a0.1.2.2.1.kids.length ((eSol false).f a0.1.2.2.1.kids),bl a0.1.2.2.2.1.inn,i64 a0.1.2.2.2.1.pl.A,i64 a0.1.2.2.2.1.pl.B,i64 a0.1.2.2.2.1.pl.C,i64 a0.1.2.2.2.1.pl.D,.sl false 6 a0.1.2.2.2.1.kids.length ((eSol false).f a0.1.2.2.2.1.kids),bl a0.1.2.2.2.2.1.inn,i64 a0.1.2.2.2.2.1.pl.A,i64 a0.1.2.2.2.2.1.pl.B,i64 a0.1.2.2.2.2.1.pl.C,i64 a0.1.2.2.2.2.1.pl.D,.sl false 6 a0.1.2.2.2.2.1.kids.length ((eSol false).f a0.1.2.2.2.2.1.kids),bl a0.1.2.2.2.2.2.1.inn,i64 a0.1.2.2.2.2.2.1.pl.A,i64 a0.1.2.2.2.2.2.1.pl.B,i64 a0.1.2.2.2.2.2.1.pl.C,i64 a0.1.2.2.2.2.2.1.pl.D,.sl false 6 a0.1.2.2.2.2.2.1.kids.length ((eSol false).f a0.1.2.2.2.2.2.1.kids),bl a0.1.2.2.2.2.2.2.1.inn,i64 a0.1.2.2.2.2.2.2.1.pl.A,i64 a0.1.2.2.2.2.2.2.1.pl.B,i64 a0.1.2.2.2.2.2.2.1.pl.C,i64 a0.1.2.2.2.2.2.2.1.pl.D,.sl false 6 a0.1.2.2.2.2.2.2.1.kids.length ((eSol false).f a0.1.2.2.2.2.2.2.1.kids),bl a0.1.2.2.2.2.2.2.2.inn,i64 a0.1.2.2.2.2.2.2.2.pl.A,i64 a0.1.2.2.2.2.2.2.2.pl.B,i64 a0.1.2.2.2.2.2.2.2.pl.C,i64 a0.1.2.2.2.2.2.2.2.pl.D,.sl false 6 a0.1.2.2.2.2.2.2.2.kids.length ((eSol false).f a0.1.2.2.2.2.2.2.2.kids)]),(7,i64 6)],[(1,⟨true,0,(cT38 a0)⟩)]⟩:=by
 unfold Dimpl_DeskOk_10 at h
 obtain⟨v20,y20,h⟩:=bm h
 refine x_frk 24 [(7,.call [] [] (bl v20) [])] (ocons (Timpl_SolidOk (Y:=Y) n a0.1.2.2.2.2.2.2.1 _ y20) onil) h (by kernel_rfl) (fun h=>?_) (fun h=>?_)
 ·replace h:=sj h;subst h
  exact x_end 18 [] [] onil onil 
 ·refine x_frk 6 [] onil h (by kernel_rfl) (fun h=>?_) (fun h=>?_)
  ·obtain⟨v21,y21,h⟩:=bm h
   exact x_to 7 [(2,.call [(false,6)] [] (bl v21) [])] (ocons (Timpl_SameTree (Y:=Y) n a0.1.2.2.2.2.2.2.1 (Sol.mk false (Pl.mk 0 0 0 0) []) _ y21) onil) (Timpl_DeskOk_6 n a0 (!v21) r h) 
  ·exact x_to 15 [] onil (Timpl_DeskOk_9 n a0 r h) 
def Dimpl_DeskOk_4(n:Nat)(a0:Dsk)(t26:Bool):Option Bool :=
 frk t26 (some false) ((Dimpl_SolidOk n a0.1.2.2.2.2.2.1).bind fun v10=>frk (!v10) (some false) (frk (!a0.2.2.2.2.2.2.1) ((Dimpl_SameTree n a0.1.2.2.2.2.2.1 (Sol.mk false (Pl.mk 0 0 0 0) [])).bind fun v11=>Dimpl_DeskOk_5 n a0 (!v11)) (Dimpl_DeskOk_10 n a0)))
theorem Timpl_DeskOk_4{Y}(n:Nat)(a0:Dsk)(t26 r:Bool)(h:Dimpl_DeskOk_4 n a0 t26=some r):Wk Tryz.prog H Y 37 [.code (cp [1,0,1,0,0,1,1,0,0,1,1] (bodyOf Tryz.f37)),.blk 1,.code (cp [1,0,1,0,0,1,1,1] (bodyOf Tryz.f37)),.lp (cp [1,0,1,0] (bodyOf Tryz.f37)),.blk 0,.code (cp [1,1] (bodyOf Tryz.f37))] (FinX Tryz.prog Tryz.f37 [] (bl r) []) ⟨[(1,.ptr 1 0),(6,.agg [bl a0.1.1.inn,i64 a0.1.1.pl.A,i64 a0.1.1.pl.B,i64 a0.1.1.pl.C,i64 a0.1.1.pl.D,.sl false 6 a0.1.1.kids.length ((eSol false).f a0.1.1.kids),bl a0.1.2.1.inn,i64 a0.1.2.1.pl.A,i64 a0.1.2.1.pl.B,i64 a0.1.2.1.pl.C,i64 a0.1.2.1.pl.D,.sl false 6 a0.1.2.1.kids.length ((eSol false).f a0.1.2.1.kids),bl a0.1.2.2.1.inn,i64 a0.1.2.2.1.pl.A,i64 a0.1.2.2.1.pl.B,i64 a0.1.2.2.1.pl.C,i64 a0.1.2.2.1.pl.D,.sl false 6 a0.1.2.2.1.kids.length ((eSol false).f a0.1.2.2.1.kids),bl a0.1.2.2.2.1.inn,i64 a0.1.2.2.2.1.pl.A,i64 a0.1.2.2.2.1.pl.B,i64 a0.1.2.2.2.1.pl.C,i64 a0.1.2.2.2.1.pl.D,.sl false 6 a0.1.2.2.2.1.kids.length ((eSol false).f a0.1.2.2.2.1.kids),bl a0.1.2.2.2.2.1.inn,i64 a0.1.2.2.2.2.1.pl.A,i64 a0.1.2.2.2.2.1.pl.B,i64 a0.1.2.2.2.2.1.pl.C,i64 a0.1.2.2.2.2.1.pl.D,.sl false 6 a0.1.2.2.2.2.1.kids.length ((eSol false).f a0.1.2.2.2.2.1.kids),bl a0.1.2.2.2.2.2.1.inn,i64 a0.1.2.2.2.2.2.1.pl.A,i64 a0.1.2.2.2.2.2.1.pl.B,i64 a0.1.2.2.2.2.2.1.pl.C,i64 a0.1.2.2.2.2.2.1.pl.D,.sl false 6 a0.1.2.2.2.2.2.1.kids.length ((eSol false).f a0.1.2.2.2.2.2.1.kids),bl a0.1.2.2.2.2.2.2.1.inn,i64 a0.1.2.2.2.2.2.2.1.pl.A,i64 a0.1.2.2.2.2.2.2.1.pl.B,i64 a0.1.2.2.2.2.2.2.1.pl.C,i64 a0.1.2.2.2.2.2.2.1.pl.D,.sl false 6 a0.1.2.2.2.2.2.2.1.kids.length ((eSol false).f a0.1.2.2.2.2.2.2.1.kids),bl a0.1.2.2.2.2.2.2.2.inn,i64 a0.1.2.2.2.2.2.2.2.pl.A,i64 a0.1.2.2.2.2.2.2.2.pl.B,i64 a0.1.2.2.2.2.2.2.2.pl.C,i64 a0.1.2.2.2.2.2.2.2.pl.D,.sl false 6 a0.1.2.2.2.2.2.2.2.kids.length ((eSol false).f a0.1.2.2.2.2.2.2.2.kids)]),(7,i64 4),(26,bl t26)],[(1,⟨true,0,(cT38 a0)⟩)]⟩:=by
 unfold Dimpl_DeskOk_4 at h
 refine x_frk 0 [] onil h (by kernel_rfl) (fun h=>?_) (fun h=>?_)
 ·replace h:=sj h;subst h
  exact x_end 4 [] [] onil onil 
 ·obtain⟨v10,y10,h⟩:=bm h
  refine x_frk 31 [(9,.call [] [] (bl v10) [])] (ocons (Timpl_SolidOk (Y:=Y) n a0.1.2.2.2.2.2.1 _ y10) onil) h (by kernel_rfl) (fun h=>?_) (fun h=>?_)
  ·replace h:=sj h;subst h
   exact x_end 18 [] [] onil onil 
  ·refine x_frk 6 [] onil h (by kernel_rfl) (fun h=>?_) (fun h=>?_)
   ·obtain⟨v11,y11,h⟩:=bm h
    exact x_to 7 [(2,.call [(false,6)] [] (bl v11) [])] (ocons (Timpl_SameTree (Y:=Y) n a0.1.2.2.2.2.2.1 (Sol.mk false (Pl.mk 0 0 0 0) []) _ y11) onil) (Timpl_DeskOk_5 n a0 (!v11) r h) 
   ·exact x_to 15 [] onil (Timpl_DeskOk_10 n a0 r h) 
def Dimpl_DeskOk_11(n:Nat)(a0:Dsk):Option Bool :=
 (Dimpl_SolidOk n a0.1.2.2.2.2.2.1).bind fun v22=>frk (!v22) (some false) (frk (!a0.2.2.2.2.2.2.1) ((Dimpl_SameTree n a0.1.2.2.2.2.2.1 (Sol.mk false (Pl.mk 0 0 0 0) [])).bind fun v23=>Dimpl_DeskOk_5 n a0 (!v23)) (Dimpl_DeskOk_10 n a0))
theorem Timpl_DeskOk_11{Y}(n:Nat)(a0:Dsk)(r:Bool)(h:Dimpl_DeskOk_11 n a0=some r):Wk Tryz.prog H Y 37 [.code (cp [1,0,1,0] (bodyOf Tryz.f37)),.blk 0,.code (cp [1,1] (bodyOf Tryz.f37))] (FinX Tryz.prog Tryz.f37 [] (bl r) []) ⟨[(1,.ptr 1 0),(6,.agg [bl a0.1.1.inn,i64 a0.1.1.pl.A,i64 a0.1.1.pl.B,i64 a0.1.1.pl.C,i64 a0.1.1.pl.D,.sl false 6 a0.1.1.kids.length ((eSol false).f a0.1.1.kids),bl a0.1.2.1.inn,i64 a0.1.2.1.pl.A,i64 a0.1.2.1.pl.B,i64 a0.1.2.1.pl.C,i64 a0.1.2.1.pl.D,.sl false 6 a0.1.2.1.kids.length ((eSol false).f a0.1.2.1.kids),bl a0.1.2.2.1.inn,i64 a0.1.2.2.1.pl.A,i64 a0.1.2.2.1.pl.B,i64 a0.1.2.2.1.pl.C,i64 a0.1.2.2.1.pl.D,.sl false 6 a0.1.2.2.1.kids.length ((eSol false).f a0.1.2.2.1.kids),bl a0.1.2.2.2.1.inn,i64 a0.1.2.2.2.1.pl.A,i64 a0.1.2.2.2.1.pl.B,i64 a0.1.2.2.2.1.pl.C,i64 a0.1.2.2.2.1.pl.D,.sl false 6 a0.1.2.2.2.1.kids.length ((eSol false).f a0.1.2.2.2.1.kids),bl a0.1.2.2.2.2.1.inn,i64 a0.1.2.2.2.2.1.pl.A,i64 a0.1.2.2.2.2.1.pl.B,i64 a0.1.2.2.2.2.1.pl.C,i64 a0.1.2.2.2.2.1.pl.D,.sl false 6 a0.1.2.2.2.2.1.kids.length ((eSol false).f a0.1.2.2.2.2.1.kids),bl a0.1.2.2.2.2.2.1.inn,i64 a0.1.2.2.2.2.2.1.pl.A,i64 a0.1.2.2.2.2.2.1.pl.B,i64 a0.1.2.2.2.2.2.1.pl.C,i64 a0.1.2.2.2.2.2.1.pl.D,.sl false 6 a0.1.2.2.2.2.2.1.kids.length ((eSol false).f a0.1.2.2.2.2.2.1.kids),bl a0.1.2.2.2.2.2.2.1.inn,i64 a0.1.2.2.2.2.2.2.1.pl.A,i64 a0.1.2.2.2.2.2.2.1.pl.B,i64 a0.1.2.2.2.2.2.2.1.pl.C,i64 a0.1.2.2.2.2.2.2.1.pl.D,.sl false 6 a0.1.2.2.2.2.2.2.1.kids.length ((eSol false).f a0.1.2.2.2.2.2.2.1.kids),bl a0.1.2.2.2.2.2.2.2.inn,i64 a0.1.2.2.2.2.2.2.2.pl.A,i64 a0.1.2.2.2.2.2.2.2.pl.B,i64 a0.1.2.2.2.2.2.2.2.pl.C,i64 a0.1.2.2.2.2.2.2.2.pl.D,.sl false 6 a0.1.2.2.2.2.2.2.2.kids.length ((eSol false).f a0.1.2.2.2.2.2.2.2.kids)]),(7,i64 5)],[(1,⟨true,0,(cT38 a0)⟩)]⟩:=by
 unfold Dimpl_DeskOk_11 at h
 obtain⟨v22,y22,h⟩:=bm h
 refine x_frk 24 [(7,.call [] [] (bl v22) [])] (ocons (Timpl_SolidOk (Y:=Y) n a0.1.2.2.2.2.2.1 _ y22) onil) h (by kernel_rfl) (fun h=>?_) (fun h=>?_)
 ·replace h:=sj h;subst h
  exact x_end 18 [] [] onil onil 
 ·refine x_frk 6 [] onil h (by kernel_rfl) (fun h=>?_) (fun h=>?_)
  ·obtain⟨v23,y23,h⟩:=bm h
   exact x_to 7 [(2,.call [(false,6)] [] (bl v23) [])] (ocons (Timpl_SameTree (Y:=Y) n a0.1.2.2.2.2.2.1 (Sol.mk false (Pl.mk 0 0 0 0) []) _ y23) onil) (Timpl_DeskOk_5 n a0 (!v23) r h) 
  ·exact x_to 15 [] onil (Timpl_DeskOk_10 n a0 r h) 
def Dimpl_DeskOk_3(n:Nat)(a0:Dsk)(t26:Bool):Option Bool :=
 frk t26 (some false) ((Dimpl_SolidOk n a0.1.2.2.2.2.1).bind fun v8=>frk (!v8) (some false) (frk (!a0.2.2.2.2.2.1) ((Dimpl_SameTree n a0.1.2.2.2.2.1 (Sol.mk false (Pl.mk 0 0 0 0) [])).bind fun v9=>Dimpl_DeskOk_4 n a0 (!v9)) (Dimpl_DeskOk_11 n a0)))
theorem Timpl_DeskOk_3{Y}(n:Nat)(a0:Dsk)(t26 r:Bool)(h:Dimpl_DeskOk_3 n a0 t26=some r):Wk Tryz.prog H Y 37 [.code (cp [1,0,1,0,0,1,1,0,0,1,1] (bodyOf Tryz.f37)),.blk 1,.code (cp [1,0,1,0,0,1,1,1] (bodyOf Tryz.f37)),.lp (cp [1,0,1,0] (bodyOf Tryz.f37)),.blk 0,.code (cp [1,1] (bodyOf Tryz.f37))] (FinX Tryz.prog Tryz.f37 [] (bl r) []) ⟨[(1,.ptr 1 0),(6,.agg [bl a0.1.1.inn,i64 a0.1.1.pl.A,i64 a0.1.1.pl.B,i64 a0.1.1.pl.C,i64 a0.1.1.pl.D,.sl false 6 a0.1.1.kids.length ((eSol false).f a0.1.1.kids),bl a0.1.2.1.inn,i64 a0.1.2.1.pl.A,i64 a0.1.2.1.pl.B,i64 a0.1.2.1.pl.C,i64 a0.1.2.1.pl.D,.sl false 6 a0.1.2.1.kids.length ((eSol false).f a0.1.2.1.kids),bl a0.1.2.2.1.inn,i64 a0.1.2.2.1.pl.A,i64 a0.1.2.2.1.pl.B,i64 a0.1.2.2.1.pl.C,i64 a0.1.2.2.1.pl.D,.sl false 6 a0.1.2.2.1.kids.length ((eSol false).f a0.1.2.2.1.kids),bl a0.1.2.2.2.1.inn,i64 a0.1.2.2.2.1.pl.A,i64 a0.1.2.2.2.1.pl.B,i64 a0.1.2.2.2.1.pl.C,i64 a0.1.2.2.2.1.pl.D,.sl false 6 a0.1.2.2.2.1.kids.length ((eSol false).f a0.1.2.2.2.1.kids),bl a0.1.2.2.2.2.1.inn,i64 a0.1.2.2.2.2.1.pl.A,i64 a0.1.2.2.2.2.1.pl.B,i64 a0.1.2.2.2.2.1.pl.C,i64 a0.1.2.2.2.2.1.pl.D,.sl false 6 a0.1.2.2.2.2.1.kids.length ((eSol false).f a0.1.2.2.2.2.1.kids),bl a0.1.2.2.2.2.2.1.inn,i64 a0.1.2.2.2.2.2.1.pl.A,i64 a0.1.2.2.2.2.2.1.pl.B,i64 a0.1.2.2.2.2.2.1.pl.C,i64 a0.1.2.2.2.2.2.1.pl.D,.sl false 6 a0.1.2.2.2.2.2.1.kids.length ((eSol false).f a0.1.2.2.2.2.2.1.kids),bl a0.1.2.2.2.2.2.2.1.inn,i64 a0.1.2.2.2.2.2.2.1.pl.A,i64 a0.1.2.2.2.2.2.2.1.pl.B,i64 a0.1.2.2.2.2.2.2.1.pl.C,i64 a0.1.2.2.2.2.2.2.1.pl.D,.sl false 6 a0.1.2.2.2.2.2.2.1.kids.length ((eSol false).f a0.1.2.2.2.2.2.2.1.kids),bl a0.1.2.2.2.2.2.2.2.inn,i64 a0.1.2.2.2.2.2.2.2.pl.A,i64 a0.1.2.2.2.2.2.2.2.pl.B,i64 a0.1.2.2.2.2.2.2.2.pl.C,i64 a0.1.2.2.2.2.2.2.2.pl.D,.sl false 6 a0.1.2.2.2.2.2.2.2.kids.length ((eSol false).f a0.1.2.2.2.2.2.2.2.kids)]),(7,i64 3),(26,bl t26)],[(1,⟨true,0,(cT38 a0)⟩)]⟩:=by
 unfold Dimpl_DeskOk_3 at h
 refine x_frk 0 [] onil h (by kernel_rfl) (fun h=>?_) (fun h=>?_)
 ·replace h:=sj h;subst h
  exact x_end 4 [] [] onil onil 
 ·obtain⟨v8,y8,h⟩:=bm h
  refine x_frk 31 [(9,.call [] [] (bl v8) [])] (ocons (Timpl_SolidOk (Y:=Y) n a0.1.2.2.2.2.1 _ y8) onil) h (by kernel_rfl) (fun h=>?_) (fun h=>?_)
  ·replace h:=sj h;subst h
   exact x_end 18 [] [] onil onil 
  ·refine x_frk 6 [] onil h (by kernel_rfl) (fun h=>?_) (fun h=>?_)
   ·obtain⟨v9,y9,h⟩:=bm h
    exact x_to 7 [(2,.call [(false,6)] [] (bl v9) [])] (ocons (Timpl_SameTree (Y:=Y) n a0.1.2.2.2.2.1 (Sol.mk false (Pl.mk 0 0 0 0) []) _ y9) onil) (Timpl_DeskOk_4 n a0 (!v9) r h) 
   ·exact x_to 15 [] onil (Timpl_DeskOk_11 n a0 r h) 
def Dimpl_DeskOk_12(n:Nat)(a0:Dsk):Option Bool :=
 (Dimpl_SolidOk n a0.1.2.2.2.2.1).bind fun v24=>frk (!v24) (some false) (frk (!a0.2.2.2.2.2.1) ((Dimpl_SameTree n a0.1.2.2.2.2.1 (Sol.mk false (Pl.mk 0 0 0 0) [])).bind fun v25=>Dimpl_DeskOk_4 n a0 (!v25)) (Dimpl_DeskOk_11 n a0))
theorem Timpl_DeskOk_12{Y}(n:Nat)(a0:Dsk)(r:Bool)(h:Dimpl_DeskOk_12 n a0=some r):Wk Tryz.prog H Y 37 [.code (cp [1,0,1,0] (bodyOf Tryz.f37)),.blk 0,.code (cp [1,1] (bodyOf Tryz.f37))] (FinX Tryz.prog Tryz.f37 [] (bl r) []) ⟨[(1,.ptr 1 0),(6,.agg [bl a0.1.1.inn,i64 a0.1.1.pl.A,i64 a0.1.1.pl.B,i64 a0.1.1.pl.C,i64 a0.1.1.pl.D,.sl false 6 a0.1.1.kids.length ((eSol false).f a0.1.1.kids),bl a0.1.2.1.inn,i64 a0.1.2.1.pl.A,i64 a0.1.2.1.pl.B,i64 a0.1.2.1.pl.C,i64 a0.1.2.1.pl.D,.sl false 6 a0.1.2.1.kids.length ((eSol false).f a0.1.2.1.kids),bl a0.1.2.2.1.inn,i64 a0.1.2.2.1.pl.A,i64 a0.1.2.2.1.pl.B,i64 a0.1.2.2.1.pl.C,i64 a0.1.2.2.1.pl.D,.sl false 6 a0.1.2.2.1.kids.length ((eSol false).f a0.1.2.2.1.kids),bl a0.1.2.2.2.1.inn,i64 a0.1.2.2.2.1.pl.A,i64 a0.1.2.2.2.1.pl.B,i64 a0.1.2.2.2.1.pl.C,i64 a0.1.2.2.2.1.pl.D,.sl false 6 a0.1.2.2.2.1.kids.length ((eSol false).f a0.1.2.2.2.1.kids),bl a0.1.2.2.2.2.1.inn,i64 a0.1.2.2.2.2.1.pl.A,i64 a0.1.2.2.2.2.1.pl.B,i64 a0.1.2.2.2.2.1.pl.C,i64 a0.1.2.2.2.2.1.pl.D,.sl false 6 a0.1.2.2.2.2.1.kids.length ((eSol false).f a0.1.2.2.2.2.1.kids),bl a0.1.2.2.2.2.2.1.inn,i64 a0.1.2.2.2.2.2.1.pl.A,i64 a0.1.2.2.2.2.2.1.pl.B,i64 a0.1.2.2.2.2.2.1.pl.C,i64 a0.1.2.2.2.2.2.1.pl.D,.sl false 6 a0.1.2.2.2.2.2.1.kids.length ((eSol false).f a0.1.2.2.2.2.2.1.kids),bl a0.1.2.2.2.2.2.2.1.inn,i64 a0.1.2.2.2.2.2.2.1.pl.A,i64 a0.1.2.2.2.2.2.2.1.pl.B,i64 a0.1.2.2.2.2.2.2.1.pl.C,i64 a0.1.2.2.2.2.2.2.1.pl.D,.sl false 6 a0.1.2.2.2.2.2.2.1.kids.length ((eSol false).f a0.1.2.2.2.2.2.2.1.kids),bl a0.1.2.2.2.2.2.2.2.inn,i64 a0.1.2.2.2.2.2.2.2.pl.A,i64 a0.1.2.2.2.2.2.2.2.pl.B,i64 a0.1.2.2.2.2.2.2.2.pl.C,i64 a0.1.2.2.2.2.2.2.2.pl.D,.sl false 6 a0.1.2.2.2.2.2.2.2.kids.length ((eSol false).f a0.1.2.2.2.2.2.2.2.kids)]),(7,i64 4)],[(1,⟨true,0,(cT38 a0)⟩)]⟩:=by
 unfold Dimpl_DeskOk_12 at h
 obtain⟨v24,y24,h⟩:=bm h
 refine x_frk 24 [(7,.call [] [] (bl v24) [])] (ocons (Timpl_SolidOk (Y:=Y) n a0.1.2.2.2.2.1 _ y24) onil) h (by kernel_rfl) (fun h=>?_) (fun h=>?_)
 ·replace h:=sj h;subst h
  exact x_end 18 [] [] onil onil 
 ·refine x_frk 6 [] onil h (by kernel_rfl) (fun h=>?_) (fun h=>?_)
  ·obtain⟨v25,y25,h⟩:=bm h
   exact x_to 7 [(2,.call [(false,6)] [] (bl v25) [])] (ocons (Timpl_SameTree (Y:=Y) n a0.1.2.2.2.2.1 (Sol.mk false (Pl.mk 0 0 0 0) []) _ y25) onil) (Timpl_DeskOk_4 n a0 (!v25) r h) 
  ·exact x_to 15 [] onil (Timpl_DeskOk_11 n a0 r h) 
def Dimpl_DeskOk_2(n:Nat)(a0:Dsk)(t26:Bool):Option Bool :=
 frk t26 (some false) ((Dimpl_SolidOk n a0.1.2.2.2.1).bind fun v6=>frk (!v6) (some false) (frk (!a0.2.2.2.2.1) ((Dimpl_SameTree n a0.1.2.2.2.1 (Sol.mk false (Pl.mk 0 0 0 0) [])).bind fun v7=>Dimpl_DeskOk_3 n a0 (!v7)) (Dimpl_DeskOk_12 n a0)))
theorem Timpl_DeskOk_2{Y}(n:Nat)(a0:Dsk)(t26 r:Bool)(h:Dimpl_DeskOk_2 n a0 t26=some r):Wk Tryz.prog H Y 37 [.code (cp [1,0,1,0,0,1,1,0,0,1,1] (bodyOf Tryz.f37)),.blk 1,.code (cp [1,0,1,0,0,1,1,1] (bodyOf Tryz.f37)),.lp (cp [1,0,1,0] (bodyOf Tryz.f37)),.blk 0,.code (cp [1,1] (bodyOf Tryz.f37))] (FinX Tryz.prog Tryz.f37 [] (bl r) []) ⟨[(1,.ptr 1 0),(6,.agg [bl a0.1.1.inn,i64 a0.1.1.pl.A,i64 a0.1.1.pl.B,i64 a0.1.1.pl.C,i64 a0.1.1.pl.D,.sl false 6 a0.1.1.kids.length ((eSol false).f a0.1.1.kids),bl a0.1.2.1.inn,i64 a0.1.2.1.pl.A,i64 a0.1.2.1.pl.B,i64 a0.1.2.1.pl.C,i64 a0.1.2.1.pl.D,.sl false 6 a0.1.2.1.kids.length ((eSol false).f a0.1.2.1.kids),bl a0.1.2.2.1.inn,i64 a0.1.2.2.1.pl.A,i64 a0.1.2.2.1.pl.B,i64 a0.1.2.2.1.pl.C,i64 a0.1.2.2.1.pl.D,.sl false 6 a0.1.2.2.1.kids.length ((eSol false).f a0.1.2.2.1.kids),bl a0.1.2.2.2.1.inn,i64 a0.1.2.2.2.1.pl.A,i64 a0.1.2.2.2.1.pl.B,i64 a0.1.2.2.2.1.pl.C,i64 a0.1.2.2.2.1.pl.D,.sl false 6 a0.1.2.2.2.1.kids.length ((eSol false).f a0.1.2.2.2.1.kids),bl a0.1.2.2.2.2.1.inn,i64 a0.1.2.2.2.2.1.pl.A,i64 a0.1.2.2.2.2.1.pl.B,i64 a0.1.2.2.2.2.1.pl.C,i64 a0.1.2.2.2.2.1.pl.D,.sl false 6 a0.1.2.2.2.2.1.kids.length ((eSol false).f a0.1.2.2.2.2.1.kids),bl a0.1.2.2.2.2.2.1.inn,i64 a0.1.2.2.2.2.2.1.pl.A,i64 a0.1.2.2.2.2.2.1.pl.B,i64 a0.1.2.2.2.2.2.1.pl.C,i64 a0.1.2.2.2.2.2.1.pl.D,.sl false 6 a0.1.2.2.2.2.2.1.kids.length ((eSol false).f a0.1.2.2.2.2.2.1.kids),bl a0.1.2.2.2.2.2.2.1.inn,i64 a0.1.2.2.2.2.2.2.1.pl.A,i64 a0.1.2.2.2.2.2.2.1.pl.B,i64 a0.1.2.2.2.2.2.2.1.pl.C,i64 a0.1.2.2.2.2.2.2.1.pl.D,.sl false 6 a0.1.2.2.2.2.2.2.1.kids.length ((eSol false).f a0.1.2.2.2.2.2.2.1.kids),bl a0.1.2.2.2.2.2.2.2.inn,i64 a0.1.2.2.2.2.2.2.2.pl.A,i64 a0.1.2.2.2.2.2.2.2.pl.B,i64 a0.1.2.2.2.2.2.2.2.pl.C,i64 a0.1.2.2.2.2.2.2.2.pl.D,.sl false 6 a0.1.2.2.2.2.2.2.2.kids.length ((eSol false).f a0.1.2.2.2.2.2.2.2.kids)]),(7,i64 2),(26,bl t26)],[(1,⟨true,0,(cT38 a0)⟩)]⟩:=by
 unfold Dimpl_DeskOk_2 at h
 refine x_frk 0 [] onil h (by kernel_rfl) (fun h=>?_) (fun h=>?_)
 ·replace h:=sj h;subst h
  exact x_end 4 [] [] onil onil 
 ·obtain⟨v6,y6,h⟩:=bm h
  refine x_frk 31 [(9,.call [] [] (bl v6) [])] (ocons (Timpl_SolidOk (Y:=Y) n a0.1.2.2.2.1 _ y6) onil) h (by kernel_rfl) (fun h=>?_) (fun h=>?_)
  ·replace h:=sj h;subst h
   exact x_end 18 [] [] onil onil 
  ·refine x_frk 6 [] onil h (by kernel_rfl) (fun h=>?_) (fun h=>?_)
   ·obtain⟨v7,y7,h⟩:=bm h
    exact x_to 7 [(2,.call [(false,6)] [] (bl v7) [])] (ocons (Timpl_SameTree (Y:=Y) n a0.1.2.2.2.1 (Sol.mk false (Pl.mk 0 0 0 0) []) _ y7) onil) (Timpl_DeskOk_3 n a0 (!v7) r h) 
   ·exact x_to 15 [] onil (Timpl_DeskOk_12 n a0 r h) 
def Dimpl_DeskOk_13(n:Nat)(a0:Dsk):Option Bool :=
 (Dimpl_SolidOk n a0.1.2.2.2.1).bind fun v26=>frk (!v26) (some false) (frk (!a0.2.2.2.2.1) ((Dimpl_SameTree n a0.1.2.2.2.1 (Sol.mk false (Pl.mk 0 0 0 0) [])).bind fun v27=>Dimpl_DeskOk_3 n a0 (!v27)) (Dimpl_DeskOk_12 n a0))
theorem Timpl_DeskOk_13{Y}(n:Nat)(a0:Dsk)(r:Bool)(h:Dimpl_DeskOk_13 n a0=some r):Wk Tryz.prog H Y 37 [.code (cp [1,0,1,0] (bodyOf Tryz.f37)),.blk 0,.code (cp [1,1] (bodyOf Tryz.f37))] (FinX Tryz.prog Tryz.f37 [] (bl r) []) ⟨[(1,.ptr 1 0),(6,.agg [bl a0.1.1.inn,i64 a0.1.1.pl.A,i64 a0.1.1.pl.B,i64 a0.1.1.pl.C,i64 a0.1.1.pl.D,.sl false 6 a0.1.1.kids.length ((eSol false).f a0.1.1.kids),bl a0.1.2.1.inn,i64 a0.1.2.1.pl.A,i64 a0.1.2.1.pl.B,i64 a0.1.2.1.pl.C,i64 a0.1.2.1.pl.D,.sl false 6 a0.1.2.1.kids.length ((eSol false).f a0.1.2.1.kids),bl a0.1.2.2.1.inn,i64 a0.1.2.2.1.pl.A,i64 a0.1.2.2.1.pl.B,i64 a0.1.2.2.1.pl.C,i64 a0.1.2.2.1.pl.D,.sl false 6 a0.1.2.2.1.kids.length ((eSol false).f a0.1.2.2.1.kids),bl a0.1.2.2.2.1.inn,i64 a0.1.2.2.2.1.pl.A,i64 a0.1.2.2.2.1.pl.B,i64 a0.1.2.2.2.1.pl.C,i64 a0.1.2.2.2.1.pl.D,.sl false 6 a0.1.2.2.2.1.kids.length ((eSol false).f a0.1.2.2.2.1.kids),bl a0.1.2.2.2.2.1.inn,i64 a0.1.2.2.2.2.1.pl.A,i64 a0.1.2.2.2.2.1.pl.B,i64 a0.1.2.2.2.2.1.pl.C,i64 a0.1.2.2.2.2.1.pl.D,.sl false 6 a0.1.2.2.2.2.1.kids.length ((eSol false).f a0.1.2.2.2.2.1.kids),bl a0.1.2.2.2.2.2.1.inn,i64 a0.1.2.2.2.2.2.1.pl.A,i64 a0.1.2.2.2.2.2.1.pl.B,i64 a0.1.2.2.2.2.2.1.pl.C,i64 a0.1.2.2.2.2.2.1.pl.D,.sl false 6 a0.1.2.2.2.2.2.1.kids.length ((eSol false).f a0.1.2.2.2.2.2.1.kids),bl a0.1.2.2.2.2.2.2.1.inn,i64 a0.1.2.2.2.2.2.2.1.pl.A,i64 a0.1.2.2.2.2.2.2.1.pl.B,i64 a0.1.2.2.2.2.2.2.1.pl.C,i64 a0.1.2.2.2.2.2.2.1.pl.D,.sl false 6 a0.1.2.2.2.2.2.2.1.kids.length ((eSol false).f a0.1.2.2.2.2.2.2.1.kids),bl a0.1.2.2.2.2.2.2.2.inn,i64 a0.1.2.2.2.2.2.2.2.pl.A,i64 a0.1.2.2.2.2.2.2.2.pl.B,i64 a0.1.2.2.2.2.2.2.2.pl.C,i64 a0.1.2.2.2.2.2.2.2.pl.D,.sl false 6 a0.1.2.2.2.2.2.2.2.kids.length ((eSol false).f a0.1.2.2.2.2.2.2.2.kids)]),(7,i64 3)],[(1,⟨true,0,(cT38 a0)⟩)]⟩:=by
 unfold Dimpl_DeskOk_13 at h
 obtain⟨v26,y26,h⟩:=bm h
 refine x_frk 24 [(7,.call [] [] (bl v26) [])] (ocons (Timpl_SolidOk (Y:=Y) n a0.1.2.2.2.1 _ y26) onil) h (by kernel_rfl) (fun h=>?_) (fun h=>?_)
 ·replace h:=sj h;subst h
  exact x_end 18 [] [] onil onil 
 ·refine x_frk 6 [] onil h (by kernel_rfl) (fun h=>?_) (fun h=>?_)
  ·obtain⟨v27,y27,h⟩:=bm h
   exact x_to 7 [(2,.call [(false,6)] [] (bl v27) [])] (ocons (Timpl_SameTree (Y:=Y) n a0.1.2.2.2.1 (Sol.mk false (Pl.mk 0 0 0 0) []) _ y27) onil) (Timpl_DeskOk_3 n a0 (!v27) r h) 
  ·exact x_to 15 [] onil (Timpl_DeskOk_12 n a0 r h) 
def Dimpl_DeskOk_1(n:Nat)(a0:Dsk)(t26:Bool):Option Bool :=
 frk t26 (some false) ((Dimpl_SolidOk n a0.1.2.2.1).bind fun v4=>frk (!v4) (some false) (frk (!a0.2.2.2.1) ((Dimpl_SameTree n a0.1.2.2.1 (Sol.mk false (Pl.mk 0 0 0 0) [])).bind fun v5=>Dimpl_DeskOk_2 n a0 (!v5)) (Dimpl_DeskOk_13 n a0)))
theorem Timpl_DeskOk_1{Y}(n:Nat)(a0:Dsk)(t26 r:Bool)(h:Dimpl_DeskOk_1 n a0 t26=some r):Wk Tryz.prog H Y 37 [.code (cp [1,0,1,0,0,1,1,0,0,1,1] (bodyOf Tryz.f37)),.blk 1,.code (cp [1,0,1,0,0,1,1,1] (bodyOf Tryz.f37)),.lp (cp [1,0,1,0] (bodyOf Tryz.f37)),.blk 0,.code (cp [1,1] (bodyOf Tryz.f37))] (FinX Tryz.prog Tryz.f37 [] (bl r) []) ⟨[(1,.ptr 1 0),(6,.agg [bl a0.1.1.inn,i64 a0.1.1.pl.A,i64 a0.1.1.pl.B,i64 a0.1.1.pl.C,i64 a0.1.1.pl.D,.sl false 6 a0.1.1.kids.length ((eSol false).f a0.1.1.kids),bl a0.1.2.1.inn,i64 a0.1.2.1.pl.A,i64 a0.1.2.1.pl.B,i64 a0.1.2.1.pl.C,i64 a0.1.2.1.pl.D,.sl false 6 a0.1.2.1.kids.length ((eSol false).f a0.1.2.1.kids),bl a0.1.2.2.1.inn,i64 a0.1.2.2.1.pl.A,i64 a0.1.2.2.1.pl.B,i64 a0.1.2.2.1.pl.C,i64 a0.1.2.2.1.pl.D,.sl false 6 a0.1.2.2.1.kids.length ((eSol false).f a0.1.2.2.1.kids),bl a0.1.2.2.2.1.inn,i64 a0.1.2.2.2.1.pl.A,i64 a0.1.2.2.2.1.pl.B,i64 a0.1.2.2.2.1.pl.C,i64 a0.1.2.2.2.1.pl.D,.sl false 6 a0.1.2.2.2.1.kids.length ((eSol false).f a0.1.2.2.2.1.kids),bl a0.1.2.2.2.2.1.inn,i64 a0.1.2.2.2.2.1.pl.A,i64 a0.1.2.2.2.2.1.pl.B,i64 a0.1.2.2.2.2.1.pl.C,i64 a0.1.2.2.2.2.1.pl.D,.sl false 6 a0.1.2.2.2.2.1.kids.length ((eSol false).f a0.1.2.2.2.2.1.kids),bl a0.1.2.2.2.2.2.1.inn,i64 a0.1.2.2.2.2.2.1.pl.A,i64 a0.1.2.2.2.2.2.1.pl.B,i64 a0.1.2.2.2.2.2.1.pl.C,i64 a0.1.2.2.2.2.2.1.pl.D,.sl false 6 a0.1.2.2.2.2.2.1.kids.length ((eSol false).f a0.1.2.2.2.2.2.1.kids),bl a0.1.2.2.2.2.2.2.1.inn,i64 a0.1.2.2.2.2.2.2.1.pl.A,i64 a0.1.2.2.2.2.2.2.1.pl.B,i64 a0.1.2.2.2.2.2.2.1.pl.C,i64 a0.1.2.2.2.2.2.2.1.pl.D,.sl false 6 a0.1.2.2.2.2.2.2.1.kids.length ((eSol false).f a0.1.2.2.2.2.2.2.1.kids),bl a0.1.2.2.2.2.2.2.2.inn,i64 a0.1.2.2.2.2.2.2.2.pl.A,i64 a0.1.2.2.2.2.2.2.2.pl.B,i64 a0.1.2.2.2.2.2.2.2.pl.C,i64 a0.1.2.2.2.2.2.2.2.pl.D,.sl false 6 a0.1.2.2.2.2.2.2.2.kids.length ((eSol false).f a0.1.2.2.2.2.2.2.2.kids)]),(7,i64 1),(26,bl t26)],[(1,⟨true,0,(cT38 a0)⟩)]⟩:=by
 unfold Dimpl_DeskOk_1 at h
 refine x_frk 0 [] onil h (by kernel_rfl) (fun h=>?_) (fun h=>?_)
 ·replace h:=sj h;subst h
  exact x_end 4 [] [] onil onil 
 ·obtain⟨v4,y4,h⟩:=bm h
  refine x_frk 31 [(9,.call [] [] (bl v4) [])] (ocons (Timpl_SolidOk (Y:=Y) n a0.1.2.2.1 _ y4) onil) h (by kernel_rfl) (fun h=>?_) (fun h=>?_)
  ·replace h:=sj h;subst h
   exact x_end 18 [] [] onil onil 
  ·refine x_frk 6 [] onil h (by kernel_rfl) (fun h=>?_) (fun h=>?_)
   ·obtain⟨v5,y5,h⟩:=bm h
    exact x_to 7 [(2,.call [(false,6)] [] (bl v5) [])] (ocons (Timpl_SameTree (Y:=Y) n a0.1.2.2.1 (Sol.mk false (Pl.mk 0 0 0 0) []) _ y5) onil) (Timpl_DeskOk_2 n a0 (!v5) r h) 
   ·exact x_to 15 [] onil (Timpl_DeskOk_13 n a0 r h) 
def Dimpl_DeskOk_14(n:Nat)(a0:Dsk):Option Bool :=
 (Dimpl_SolidOk n a0.1.2.2.1).bind fun v28=>frk (!v28) (some false) (frk (!a0.2.2.2.1) ((Dimpl_SameTree n a0.1.2.2.1 (Sol.mk false (Pl.mk 0 0 0 0) [])).bind fun v29=>Dimpl_DeskOk_2 n a0 (!v29)) (Dimpl_DeskOk_13 n a0))
theorem Timpl_DeskOk_14{Y}(n:Nat)(a0:Dsk)(r:Bool)(h:Dimpl_DeskOk_14 n a0=some r):Wk Tryz.prog H Y 37 [.code (cp [1,0,1,0] (bodyOf Tryz.f37)),.blk 0,.code (cp [1,1] (bodyOf Tryz.f37))] (FinX Tryz.prog Tryz.f37 [] (bl r) []) ⟨[(1,.ptr 1 0),(6,.agg [bl a0.1.1.inn,i64 a0.1.1.pl.A,i64 a0.1.1.pl.B,i64 a0.1.1.pl.C,i64 a0.1.1.pl.D,.sl false 6 a0.1.1.kids.length ((eSol false).f a0.1.1.kids),bl a0.1.2.1.inn,i64 a0.1.2.1.pl.A,i64 a0.1.2.1.pl.B,i64 a0.1.2.1.pl.C,i64 a0.1.2.1.pl.D,.sl false 6 a0.1.2.1.kids.length ((eSol false).f a0.1.2.1.kids),bl a0.1.2.2.1.inn,i64 a0.1.2.2.1.pl.A,i64 a0.1.2.2.1.pl.B,i64 a0.1.2.2.1.pl.C,i64 a0.1.2.2.1.pl.D,.sl false 6 a0.1.2.2.1.kids.length ((eSol false).f a0.1.2.2.1.kids),bl a0.1.2.2.2.1.inn,i64 a0.1.2.2.2.1.pl.A,i64 a0.1.2.2.2.1.pl.B,i64 a0.1.2.2.2.1.pl.C,i64 a0.1.2.2.2.1.pl.D,.sl false 6 a0.1.2.2.2.1.kids.length ((eSol false).f a0.1.2.2.2.1.kids),bl a0.1.2.2.2.2.1.inn,i64 a0.1.2.2.2.2.1.pl.A,i64 a0.1.2.2.2.2.1.pl.B,i64 a0.1.2.2.2.2.1.pl.C,i64 a0.1.2.2.2.2.1.pl.D,.sl false 6 a0.1.2.2.2.2.1.kids.length ((eSol false).f a0.1.2.2.2.2.1.kids),bl a0.1.2.2.2.2.2.1.inn,i64 a0.1.2.2.2.2.2.1.pl.A,i64 a0.1.2.2.2.2.2.1.pl.B,i64 a0.1.2.2.2.2.2.1.pl.C,i64 a0.1.2.2.2.2.2.1.pl.D,.sl false 6 a0.1.2.2.2.2.2.1.kids.length ((eSol false).f a0.1.2.2.2.2.2.1.kids),bl a0.1.2.2.2.2.2.2.1.inn,i64 a0.1.2.2.2.2.2.2.1.pl.A,i64 a0.1.2.2.2.2.2.2.1.pl.B,i64 a0.1.2.2.2.2.2.2.1.pl.C,i64 a0.1.2.2.2.2.2.2.1.pl.D,.sl false 6 a0.1.2.2.2.2.2.2.1.kids.length ((eSol false).f a0.1.2.2.2.2.2.2.1.kids),bl a0.1.2.2.2.2.2.2.2.inn,i64 a0.1.2.2.2.2.2.2.2.pl.A,i64 a0.1.2.2.2.2.2.2.2.pl.B,i64 a0.1.2.2.2.2.2.2.2.pl.C,i64 a0.1.2.2.2.2.2.2.2.pl.D,.sl false 6 a0.1.2.2.2.2.2.2.2.kids.length ((eSol false).f a0.1.2.2.2.2.2.2.2.kids)]),(7,i64 2)],[(1,⟨true,0,(cT38 a0)⟩)]⟩:=by
 unfold Dimpl_DeskOk_14 at h
 obtain⟨v28,y28,h⟩:=bm h
 refine x_frk 24 [(7,.call [] [] (bl v28) [])] (ocons (Timpl_SolidOk (Y:=Y) n a0.1.2.2.1 _ y28) onil) h (by kernel_rfl) (fun h=>?_) (fun h=>?_)
 ·replace h:=sj h;subst h
  exact x_end 18 [] [] onil onil 
 ·refine x_frk 6 [] onil h (by kernel_rfl) (fun h=>?_) (fun h=>?_)
  ·obtain⟨v29,y29,h⟩:=bm h
   exact x_to 7 [(2,.call [(false,6)] [] (bl v29) [])] (ocons (Timpl_SameTree (Y:=Y) n a0.1.2.2.1 (Sol.mk false (Pl.mk 0 0 0 0) []) _ y29) onil) (Timpl_DeskOk_2 n a0 (!v29) r h) 
  ·exact x_to 15 [] onil (Timpl_DeskOk_13 n a0 r h) 
def Dimpl_DeskOk_0(n:Nat)(a0:Dsk)(t26:Bool):Option Bool :=
 frk t26 (some false) ((Dimpl_SolidOk n a0.1.2.1).bind fun v2=>frk (!v2) (some false) (frk (!a0.2.2.1) ((Dimpl_SameTree n a0.1.2.1 (Sol.mk false (Pl.mk 0 0 0 0) [])).bind fun v3=>Dimpl_DeskOk_1 n a0 (!v3)) (Dimpl_DeskOk_14 n a0)))
theorem Timpl_DeskOk_0{Y}(n:Nat)(a0:Dsk)(t26 r:Bool)(h:Dimpl_DeskOk_0 n a0 t26=some r):Wk Tryz.prog H Y 37 [.code (cp [1,0,1,0,0,1,1,0,0,1,1] (bodyOf Tryz.f37)),.blk 1,.code (cp [1,0,1,0,0,1,1,1] (bodyOf Tryz.f37)),.lp (cp [1,0,1,0] (bodyOf Tryz.f37)),.blk 0,.code (cp [1,1] (bodyOf Tryz.f37))] (FinX Tryz.prog Tryz.f37 [] (bl r) []) ⟨[(1,.ptr 1 0),(6,.agg [bl a0.1.1.inn,i64 a0.1.1.pl.A,i64 a0.1.1.pl.B,i64 a0.1.1.pl.C,i64 a0.1.1.pl.D,.sl false 6 a0.1.1.kids.length ((eSol false).f a0.1.1.kids),bl a0.1.2.1.inn,i64 a0.1.2.1.pl.A,i64 a0.1.2.1.pl.B,i64 a0.1.2.1.pl.C,i64 a0.1.2.1.pl.D,.sl false 6 a0.1.2.1.kids.length ((eSol false).f a0.1.2.1.kids),bl a0.1.2.2.1.inn,i64 a0.1.2.2.1.pl.A,i64 a0.1.2.2.1.pl.B,i64 a0.1.2.2.1.pl.C,i64 a0.1.2.2.1.pl.D,.sl false 6 a0.1.2.2.1.kids.length ((eSol false).f a0.1.2.2.1.kids),bl a0.1.2.2.2.1.inn,i64 a0.1.2.2.2.1.pl.A,i64 a0.1.2.2.2.1.pl.B,i64 a0.1.2.2.2.1.pl.C,i64 a0.1.2.2.2.1.pl.D,.sl false 6 a0.1.2.2.2.1.kids.length ((eSol false).f a0.1.2.2.2.1.kids),bl a0.1.2.2.2.2.1.inn,i64 a0.1.2.2.2.2.1.pl.A,i64 a0.1.2.2.2.2.1.pl.B,i64 a0.1.2.2.2.2.1.pl.C,i64 a0.1.2.2.2.2.1.pl.D,.sl false 6 a0.1.2.2.2.2.1.kids.length ((eSol false).f a0.1.2.2.2.2.1.kids),bl a0.1.2.2.2.2.2.1.inn,i64 a0.1.2.2.2.2.2.1.pl.A,i64 a0.1.2.2.2.2.2.1.pl.B,i64 a0.1.2.2.2.2.2.1.pl.C,i64 a0.1.2.2.2.2.2.1.pl.D,.sl false 6 a0.1.2.2.2.2.2.1.kids.length ((eSol false).f a0.1.2.2.2.2.2.1.kids),bl a0.1.2.2.2.2.2.2.1.inn,i64 a0.1.2.2.2.2.2.2.1.pl.A,i64 a0.1.2.2.2.2.2.2.1.pl.B,i64 a0.1.2.2.2.2.2.2.1.pl.C,i64 a0.1.2.2.2.2.2.2.1.pl.D,.sl false 6 a0.1.2.2.2.2.2.2.1.kids.length ((eSol false).f a0.1.2.2.2.2.2.2.1.kids),bl a0.1.2.2.2.2.2.2.2.inn,i64 a0.1.2.2.2.2.2.2.2.pl.A,i64 a0.1.2.2.2.2.2.2.2.pl.B,i64 a0.1.2.2.2.2.2.2.2.pl.C,i64 a0.1.2.2.2.2.2.2.2.pl.D,.sl false 6 a0.1.2.2.2.2.2.2.2.kids.length ((eSol false).f a0.1.2.2.2.2.2.2.2.kids)]),(7,i64 0),(26,bl t26)],[(1,⟨true,0,(cT38 a0)⟩)]⟩:=by
 unfold Dimpl_DeskOk_0 at h
 refine x_frk 0 [] onil h (by kernel_rfl) (fun h=>?_) (fun h=>?_)
 ·replace h:=sj h;subst h
  exact x_end 4 [] [] onil onil 
 ·obtain⟨v2,y2,h⟩:=bm h
  refine x_frk 31 [(9,.call [] [] (bl v2) [])] (ocons (Timpl_SolidOk (Y:=Y) n a0.1.2.1 _ y2) onil) h (by kernel_rfl) (fun h=>?_) (fun h=>?_)
  ·replace h:=sj h;subst h
   exact x_end 18 [] [] onil onil 
  ·refine x_frk 6 [] onil h (by kernel_rfl) (fun h=>?_) (fun h=>?_)
   ·obtain⟨v3,y3,h⟩:=bm h
    exact x_to 7 [(2,.call [(false,6)] [] (bl v3) [])] (ocons (Timpl_SameTree (Y:=Y) n a0.1.2.1 (Sol.mk false (Pl.mk 0 0 0 0) []) _ y3) onil) (Timpl_DeskOk_1 n a0 (!v3) r h) 
   ·exact x_to 15 [] onil (Timpl_DeskOk_14 n a0 r h) 
def Dimpl_DeskOk_15(n:Nat)(a0:Dsk):Option Bool :=
 (Dimpl_SolidOk n a0.1.2.1).bind fun v30=>frk (!v30) (some false) (frk (!a0.2.2.1) ((Dimpl_SameTree n a0.1.2.1 (Sol.mk false (Pl.mk 0 0 0 0) [])).bind fun v31=>Dimpl_DeskOk_1 n a0 (!v31)) (Dimpl_DeskOk_14 n a0))
theorem Timpl_DeskOk_15{Y}(n:Nat)(a0:Dsk)(r:Bool)(h:Dimpl_DeskOk_15 n a0=some r):Wk Tryz.prog H Y 37 [.code (cp [1,0,1,0] (bodyOf Tryz.f37)),.blk 0,.code (cp [1,1] (bodyOf Tryz.f37))] (FinX Tryz.prog Tryz.f37 [] (bl r) []) ⟨[(1,.ptr 1 0),(6,.agg [bl a0.1.1.inn,i64 a0.1.1.pl.A,i64 a0.1.1.pl.B,i64 a0.1.1.pl.C,i64 a0.1.1.pl.D,.sl false 6 a0.1.1.kids.length ((eSol false).f a0.1.1.kids),bl a0.1.2.1.inn,i64 a0.1.2.1.pl.A,i64 a0.1.2.1.pl.B,i64 a0.1.2.1.pl.C,i64 a0.1.2.1.pl.D,.sl false 6 a0.1.2.1.kids.length ((eSol false).f a0.1.2.1.kids),bl a0.1.2.2.1.inn,i64 a0.1.2.2.1.pl.A,i64 a0.1.2.2.1.pl.B,i64 a0.1.2.2.1.pl.C,i64 a0.1.2.2.1.pl.D,.sl false 6 a0.1.2.2.1.kids.length ((eSol false).f a0.1.2.2.1.kids),bl a0.1.2.2.2.1.inn,i64 a0.1.2.2.2.1.pl.A,i64 a0.1.2.2.2.1.pl.B,i64 a0.1.2.2.2.1.pl.C,i64 a0.1.2.2.2.1.pl.D,.sl false 6 a0.1.2.2.2.1.kids.length ((eSol false).f a0.1.2.2.2.1.kids),bl a0.1.2.2.2.2.1.inn,i64 a0.1.2.2.2.2.1.pl.A,i64 a0.1.2.2.2.2.1.pl.B,i64 a0.1.2.2.2.2.1.pl.C,i64 a0.1.2.2.2.2.1.pl.D,.sl false 6 a0.1.2.2.2.2.1.kids.length ((eSol false).f a0.1.2.2.2.2.1.kids),bl a0.1.2.2.2.2.2.1.inn,i64 a0.1.2.2.2.2.2.1.pl.A,i64 a0.1.2.2.2.2.2.1.pl.B,i64 a0.1.2.2.2.2.2.1.pl.C,i64 a0.1.2.2.2.2.2.1.pl.D,.sl false 6 a0.1.2.2.2.2.2.1.kids.length ((eSol false).f a0.1.2.2.2.2.2.1.kids),bl a0.1.2.2.2.2.2.2.1.inn,i64 a0.1.2.2.2.2.2.2.1.pl.A,i64 a0.1.2.2.2.2.2.2.1.pl.B,i64 a0.1.2.2.2.2.2.2.1.pl.C,i64 a0.1.2.2.2.2.2.2.1.pl.D,.sl false 6 a0.1.2.2.2.2.2.2.1.kids.length ((eSol false).f a0.1.2.2.2.2.2.2.1.kids),bl a0.1.2.2.2.2.2.2.2.inn,i64 a0.1.2.2.2.2.2.2.2.pl.A,i64 a0.1.2.2.2.2.2.2.2.pl.B,i64 a0.1.2.2.2.2.2.2.2.pl.C,i64 a0.1.2.2.2.2.2.2.2.pl.D,.sl false 6 a0.1.2.2.2.2.2.2.2.kids.length ((eSol false).f a0.1.2.2.2.2.2.2.2.kids)]),(7,i64 1)],[(1,⟨true,0,(cT38 a0)⟩)]⟩:=by
 unfold Dimpl_DeskOk_15 at h
 obtain⟨v30,y30,h⟩:=bm h
 refine x_frk 24 [(7,.call [] [] (bl v30) [])] (ocons (Timpl_SolidOk (Y:=Y) n a0.1.2.1 _ y30) onil) h (by kernel_rfl) (fun h=>?_) (fun h=>?_)
 ·replace h:=sj h;subst h
  exact x_end 18 [] [] onil onil 
 ·refine x_frk 6 [] onil h (by kernel_rfl) (fun h=>?_) (fun h=>?_)
  ·obtain⟨v31,y31,h⟩:=bm h
   exact x_to 7 [(2,.call [(false,6)] [] (bl v31) [])] (ocons (Timpl_SameTree (Y:=Y) n a0.1.2.1 (Sol.mk false (Pl.mk 0 0 0 0) []) _ y31) onil) (Timpl_DeskOk_1 n a0 (!v31) r h) 
  ·exact x_to 15 [] onil (Timpl_DeskOk_14 n a0 r h) 
def Dimpl_DeskOk(n:Nat)(a0:Dsk):Option Bool :=
 (Dimpl_SolidOk n a0.1.1).bind fun v0=>frk (!v0) (some false) (frk (!a0.2.1) ((Dimpl_SameTree n a0.1.1 (Sol.mk false (Pl.mk 0 0 0 0) [])).bind fun v1=>Dimpl_DeskOk_0 n a0 (!v1)) (Dimpl_DeskOk_15 n a0))
theorem Timpl_DeskOk{Y}(n:Nat)(a0:Dsk)(r:Bool)(h:Dimpl_DeskOk n a0=some r):Big Tryz.prog H Y (.call 37 [.agg (cT38 a0)] (lk []) (bl r) (lk [])):=by
 unfold Dimpl_DeskOk at h
 refine x_call (fn:=Tryz.f37) (c:=bodyOf Tryz.f37) (bs0:=[]) Tryz.func37 (by kernel_rfl) (by kernel_rfl) ?_
 obtain⟨v0,y0,h⟩:=bm h
 refine x_frk 37 [(12,.call [] [] (bl v0) [])] (ocons (Timpl_SolidOk (Y:=Y) n a0.1.1 _ y0) onil) h (by kernel_rfl) (fun h=>?_) (fun h=>?_)
 ·replace h:=sj h;subst h
  exact x_end 18 [] [] onil onil 
 ·refine x_frk 6 [] onil h (by kernel_rfl) (fun h=>?_) (fun h=>?_)
  ·obtain⟨v1,y1,h⟩:=bm h
   exact x_to 7 [(2,.call [(false,6)] [] (bl v1) [])] (ocons (Timpl_SameTree (Y:=Y) n a0.1.1 (Sol.mk false (Pl.mk 0 0 0 0) []) _ y1) onil) (Timpl_DeskOk_0 n a0 (!v1) r h) 
  ·exact x_to 15 [] onil (Timpl_DeskOk_15 n a0 r h) 
def Dimpl_Leaf(a0:Bool):Option Sol :=
 some (Sol.mk a0 (Pl.mk 0 0 0 0) [])
theorem Timpl_Leaf{Y}(a0:Bool)(r:Sol)(h:Dimpl_Leaf a0=some r):Big Tryz.prog H Y (.call 126 [bl a0] (lk []) (eS r) (lk [])):=by
 unfold Dimpl_Leaf at h
 refine x_call (fn:=Tryz.f126) (c:=bodyOf Tryz.f126) (bs0:=[]) Tryz.func126 (by kernel_rfl) (by kernel_rfl) ?_
 replace h:=sj h;subst h
 exact x_end 10 [] [(true,6)] onil onil 
def Dimpl_Shifted_0(_n:Nat)(t13:Bool)(za zb zc zd zg zh zi _zk _zl _zm _zn:Int):Option (Pl×Int) :=
 frk t13 (some ((Pl.mk 0 0 0 0),1)) ((Dimpl_isCoef (w64 (zd-(w64 ((w64 ((w64 (za*zg))+(w64 (zb*zh))))+(w64 (zc*zi))))))).bind fun v2=>frk (!v2) (some ((Pl.mk 0 0 0 0),2)) (some ((Pl.mk za zb zc (w64 (zd-(w64 ((w64 ((w64 (za*zg))+(w64 (zb*zh))))+(w64 (zc*zi))))))),0)))
theorem Timpl_Shifted_0{Y}(n:Nat)(t13:Bool)(za zb zc zd zg zh zi zk zl zm zn:Int)(r:(Pl×Int))(h:Dimpl_Shifted_0 n t13 za zb zc zd zg zh zi zk zl zm zn=some r):Wk Tryz.prog H Y 134 [.code (cp [1,0,1] (bodyOf Tryz.f134)),.code (cp [1,1] (bodyOf Tryz.f134))] (FinX Tryz.prog Tryz.f134 [] (.tup [.agg [i64 r.1.A,i64 r.1.B,i64 r.1.C,i64 r.1.D],i64 r.2]) []) ⟨[(2,.ptr 2 0),(3,.ptr 3 0),(4,.ptr 4 0),(13,bl t13)],[(2,⟨true,0,[i64 za,i64 zb,i64 zc,i64 zd]⟩),(3,⟨true,0,[i64 zg,i64 zh,i64 zi]⟩),(4,⟨true,0,[i64 zk,i64 zl,i64 zm,i64 zn]⟩)]⟩:=by
 unfold Dimpl_Shifted_0 at h
 refine x_frk 0 [] onil h (by kernel_rfl) (fun h=>?_) (fun h=>?_)
 ·replace h:=sj h;subst h
  exact x_end 6 [] [] onil onil 
 ·obtain⟨v2,y2,h⟩:=bm h
  refine x_frk 34 [(24,.call [] [] (bl v2) [])] (ocons (Timpl_isCoef (Y:=Y) (w64 (zd-(w64 ((w64 ((w64 (za*zg))+(w64 (zb*zh))))+(w64 (zc*zi)))))) _ y2) onil) h (by kernel_rfl) (fun h=>?_) (fun h=>?_)
  ·replace h:=sj h;subst h
   exact x_end 6 [] [] onil onil 
  ·replace h:=sj h;subst h
   exact x_end 7 [] [] onil onil 
def Dimpl_Shifted(n:Nat)(a0:Pl)(a1:Pt):Option (Pl×Int) :=
 (Dimpl_PlaneOk n a0).bind fun v0=>frk (!v0) (some ((Pl.mk 0 0 0 0),1)) ((Dimpl_PtOk a1).bind fun v1=>Dimpl_Shifted_0 n (!v1) a0.A a0.B a0.C a0.D a1.X a1.Y a1.Z 0 0 0 0)
theorem Timpl_Shifted{Y}(n:Nat)(a0:Pl)(a1:Pt)(r:(Pl×Int))(h:Dimpl_Shifted n a0 a1=some r):Big Tryz.prog H Y (.call 134 [.agg [i64 a0.A,i64 a0.B,i64 a0.C,i64 a0.D],.agg [i64 a1.X,i64 a1.Y,i64 a1.Z]] (lk []) (.tup [.agg [i64 r.1.A,i64 r.1.B,i64 r.1.C,i64 r.1.D],i64 r.2]) (lk [])):=by
 unfold Dimpl_Shifted at h
 refine x_call (fn:=Tryz.f134) (c:=bodyOf Tryz.f134) (bs0:=[]) Tryz.func134 (by kernel_rfl) (by kernel_rfl) ?_
 obtain⟨v0,y0,h⟩:=bm h
 refine x_frk 14 [(5,.call [] [] (bl v0) [])] (ocons (Timpl_PlaneOk (Y:=Y) n a0 _ y0) onil) h (by kernel_rfl) (fun h=>?_) (fun h=>?_)
 ·replace h:=sj h;subst h
  exact x_end 12 [] [] onil onil 
 ·obtain⟨v1,y1,h⟩:=bm h
  exact x_to 5 [(1,.call [] [] (bl v1) [])] (ocons (Timpl_PtOk (Y:=Y) a1 _ y1) onil) (Timpl_Shifted_0 n (!v1) a0.A a0.B a0.C a0.D a1.X a1.Y a1.Z 0 0 0 0 r h) 
def Dimpl_ShiftSolidLit1(n:Nat)(a0:Pl)(a1:Pt):Option (Pl×Bool) :=
 (Dimpl_Shifted n a0 a1).bind fun v0=>some (v0.1,v0.2==0)
theorem Timpl_ShiftSolidLit1{Y}(n:Nat)(a0:Pl)(a1:Pt)(r:(Pl×Bool))(h:Dimpl_ShiftSolidLit1 n a0 a1=some r):Big Tryz.prog H Y (.call 133 [.agg [i64 a0.A,i64 a0.B,i64 a0.C,i64 a0.D],.cptr [i64 a1.X,i64 a1.Y,i64 a1.Z]] (lk []) (.tup [.agg [i64 r.1.A,i64 r.1.B,i64 r.1.C,i64 r.1.D],bl r.2]) (lk [])):=by
 unfold Dimpl_ShiftSolidLit1 at h
 refine x_call (fn:=Tryz.f133) (c:=bodyOf Tryz.f133) (bs0:=[]) Tryz.func133 (by kernel_rfl) (by kernel_rfl) ?_
 obtain⟨v0,y0,h⟩:=bm h
 replace h:=sj h;subst h
 exact x_end 26 [(5,.call [] [] (.tup [.agg [i64 v0.1.A,i64 v0.1.B,i64 v0.1.C,i64 v0.1.D],i64 v0.2]) [])] [] (ocons (Timpl_Shifted (Y:=Y) n a0 a1 _ y0) onil) onil 
def Dimpl_nodeo1o2(a0:Pl)(a1:Sol)(a2:Sol):Option Sol :=
 some (Sol.mk false a0 [a1,a2])
theorem Timpl_nodeo1o2{Y}(a0:Pl)(a1:Sol)(a2:Sol)(r:Sol)(h:Dimpl_nodeo1o2 a0 a1 a2=some r):Big Tryz.prog H Y (.call 128 [.agg [i64 a0.A,i64 a0.B,i64 a0.C,i64 a0.D],eS a1,eS a2] (lk []) (eS r) (lk [])):=by
 unfold Dimpl_nodeo1o2 at h
 refine x_call (fn:=Tryz.f128) (c:=bodyOf Tryz.f128) (bs0:=[]) Tryz.func128 (by kernel_rfl) (by kernel_rfl) ?_
 replace h:=sj h;subst h
 exact x_end 17 [(8,.fixb 10 ⟨true,6,(eSol true).f [a1,a2]⟩)] [] (ocons (boxSol true true [a1,a2]) onil) (ocons (len_row (L:=[a1,a2]) (eSol true)) onil) 
def Dimpl_movedfimpl_ShiftSolidLit1_b(n:Nat)(self:(Sol×Pt)→Option (Sol×Bool))(a:(Sol×Pt)):Option (Sol×Bool) :=
 match a with
 | (a0,a1)=>(Dimpl_Solid_isLeaf a0).bind fun v0=>frk v0 ((Dimpl_Leaf a0.inn).bind fun v1=>some (v1,true)) ((Dimpl_ShiftSolidLit1 n a0.pl a1).bind fun v2=>(lget a0.kids 0).bind fun v3=>(self (v3,a1)).bind fun v4=>(lget a0.kids 1).bind fun v5=>(self (v5,a1)).bind fun v6=>(Dimpl_nodeo1o2 v2.1 v4.1 v6.1).bind fun v7=>frk v2.2 (frk v4.2 (some (v7,v6.2)) (some (v7,false))) (some (v7,false)))
def Dimpl_movedfimpl_ShiftSolidLit1(n:Nat)(a0:Sol)(a1:Pt):Option (Sol×Bool):=loopN (Dimpl_movedfimpl_ShiftSolidLit1_b n) n (a0,a1)
theorem Timpl_movedfimpl_ShiftSolidLit1_b{Y}(n:Nat):∀(m:Nat) (a:(Sol×Pt)) (r:(Sol×Bool)),loopN (Dimpl_movedfimpl_ShiftSolidLit1_b n) m a=some r→∀(_:Unit),Big Tryz.prog H Y (.call 132 [eF a.1,.fnv 133 [.cptr [i64 a.2.X,i64 a.2.Y,i64 a.2.Z]]] (lk []) (.tup [eS r.1,bl r.2]) (lk [])):=by
 refine loopN_ind (fun self hs a r h=>?_)
 have hself:∀(a:(Sol×Pt)) (r:(Sol×Bool)),self a=some r→Big Tryz.prog H Y (.call 132 [eF a.1,.fnv 133 [.cptr [i64 a.2.X,i64 a.2.Y,i64 a.2.Z]]] (lk []) (.tup [eS r.1,bl r.2]) (lk [])):=fun a r h=>hs a r h ()
 intro _
 obtain⟨a0,a1⟩:=a
 unfold Dimpl_movedfimpl_ShiftSolidLit1_b at h
 refine x_call (fn:=Tryz.f132) (c:=bodyOf Tryz.f132) (bs0:=[]) Tryz.func132 (by kernel_rfl) (by kernel_rfl) ?_
 obtain⟨v0,y0,h⟩:=bm h
 refine x_frk 11 [(3,.call [] [] (bl v0) [])] (ocons (Timpl_Solid_isLeaf (Y:=Y) a0 [] _ y0) onil) h (by kernel_rfl) (fun h=>?_) (fun h=>?_)
 ·obtain⟨v1,y1,h⟩:=bm h
  replace h:=sj h;subst h
  exact x_end 8 [(2,.call [] [] (eS v1) [])] [] (ocons (Timpl_Leaf (Y:=Y) a0.inn _ y1) onil) onil 
 ·obtain⟨v2,y2,h⟩:=bm h
  obtain⟨v3,y3,h⟩:=bm h
  obtain⟨v4,y4,h⟩:=bm h
  obtain⟨v5,y5,h⟩:=bm h
  obtain⟨v6,y6,h⟩:=bm h
  obtain⟨v7,y7,h⟩:=bm h
  refine x_frk 52 [(3,.call [] [] (.tup [.agg [i64 v2.1.A,i64 v2.1.B,i64 v2.1.C,i64 v2.1.D],bl v2.2]) []),(8,.val (.cptr ((eSol false).c v3++(eSol false).f ((a0.kids).drop (Int.toNat 0+1))))),(2,.call [] [] (.tup [eS v4.1,bl v4.2]) []),(8,.val (.cptr ((eSol false).c v5++(eSol false).f ((a0.kids).drop (Int.toNat 1+1))))),(2,.call [] [] (.tup [eS v6.1,bl v6.2]) []),(9,.call [] [] (eS v7) [])] (ocons (Timpl_ShiftSolidLit1 (Y:=Y) n a0.pl a1 _ y2) (ocons (ix (eSol false) y3) (ocons (hself (v3,a1) _ y4) (ocons (ix (eSol false) y5) (ocons (hself (v5,a1) _ y6) (ocons (Timpl_nodeo1o2 (Y:=Y) v2.1 v4.1 v6.1 _ y7) onil)))))) h (by kernel_rfl) (fun h=>?_) (fun h=>?_)
  ·refine x_frk 3 [] onil h (by kernel_rfl) (fun h=>?_) (fun h=>?_)
   ·replace h:=sj h;subst h
    exact x_end 5 [] [] onil onil 
   ·replace h:=sj h;subst h
    exact x_end 5 [] [] onil onil 
  ·replace h:=sj h;subst h
   exact x_end 8 [] [] onil onil 
theorem Timpl_movedfimpl_ShiftSolidLit1{Y}(n:Nat)(a0:Sol)(a1:Pt)(r:(Sol×Bool))(h:Dimpl_movedfimpl_ShiftSolidLit1 n a0 a1=some r):Big Tryz.prog H Y (.call 132 [eF a0,.fnv 133 [.cptr [i64 a1.X,i64 a1.Y,i64 a1.Z]]] (lk []) (.tup [eS r.1,bl r.2]) (lk [])):=Timpl_movedfimpl_ShiftSolidLit1_b n n (a0,a1) r h ()
def Dimpl_ShiftSolid_0(n:Nat)(t15 za:Bool)(zb zc zd ze:Int)(zf:List Sol)(zg zh zi:Int)(_zk:Bool)(_zl _zm _zn _zal:Int):Option (Sol×Int) :=
 frk t15 (some ((Sol.mk false (Pl.mk 0 0 0 0) []),1)) ((Dimpl_movedfimpl_ShiftSolidLit1 n (Sol.mk za (Pl.mk zb zc zd ze) zf) (Pt.mk zg zh zi)).bind fun v2=>frk (!v2.2) (some ((Sol.mk false (Pl.mk 0 0 0 0) []),3)) (some (v2.1,0)))
theorem Timpl_ShiftSolid_0{Y}(n:Nat)(t15 za:Bool)(zb zc zd ze:Int)(zf:List Sol)(zg zh zi:Int)(zk:Bool)(zl zm zn zal:Int)(r:(Sol×Int))(h:Dimpl_ShiftSolid_0 n t15 za zb zc zd ze zf zg zh zi zk zl zm zn zal=some r):Wk Tryz.prog H Y 72 [.code (cp [1,0,1] (bodyOf Tryz.f72)),.code (cp [1,1] (bodyOf Tryz.f72))] (FinX Tryz.prog Tryz.f72 [] (.tup [eS r.1,i64 r.2]) []) ⟨[(2,.ptr 2 0),(3,.ptr 3 0),(4,.ptr 4 0),(15,bl t15)],[(2,⟨true,0,[bl za,i64 zb,i64 zc,i64 zd,i64 ze,.sl false 6 zf.length ((eSol false).f zf)]⟩),(3,⟨true,0,[i64 zg,i64 zh,i64 zi]⟩),(4,⟨true,0,[bl zk,i64 zl,i64 zm,i64 zn,i64 zal,.nil]⟩)]⟩:=by
 unfold Dimpl_ShiftSolid_0 at h
 refine x_frk 0 [] onil h (by kernel_rfl) (fun h=>?_) (fun h=>?_)
 ·replace h:=sj h;subst h
  exact x_end 6 [] [(true,6)] onil onil 
 ·obtain⟨v2,y2,h⟩:=bm h
  refine x_frk 19 [(2,.call [] [] (.tup [eS v2.1,bl v2.2]) [])] (ocons (Timpl_movedfimpl_ShiftSolidLit1 (Y:=Y) n (Sol.mk za (Pl.mk zb zc zd ze) zf) (Pt.mk zg zh zi) _ y2) (ocons (show hasSh (.tup [eS v2.1,bl v2.2])=false by simp[eS,hasSh,hasShL,nSh,nShI,nShB,nShP,nShT,nShN,nShPs]) onil)) h (by kernel_rfl) (fun h=>?_) (fun h=>?_)
  ·replace h:=sj h;subst h
   exact x_end 6 [] [(true,6)] onil onil 
  ·replace h:=sj h;subst h
   exact x_end 7 [] [] onil onil 
def Dimpl_ShiftSolid(n:Nat)(a0:Sol)(a1:Pt):Option (Sol×Int) :=
 (Dimpl_PtOk a1).bind fun v0=>frk (!v0) (some ((Sol.mk false (Pl.mk 0 0 0 0) []),1)) ((Dimpl_SolidOk n a0).bind fun v1=>Dimpl_ShiftSolid_0 n (!v1) a0.inn a0.pl.A a0.pl.B a0.pl.C a0.pl.D a0.kids a1.X a1.Y a1.Z false 0 0 0 0)
theorem Timpl_ShiftSolid{Y}(n:Nat)(a0:Sol)(a1:Pt)(r:(Sol×Int))(h:Dimpl_ShiftSolid n a0 a1=some r):Big Tryz.prog H Y (.call 72 [eF a0,.agg [i64 a1.X,i64 a1.Y,i64 a1.Z]] (lk []) (.tup [eS r.1,i64 r.2]) (lk [])):=by
 unfold Dimpl_ShiftSolid at h
 refine x_call (fn:=Tryz.f72) (c:=bodyOf Tryz.f72) (bs0:=[]) Tryz.func72 (by kernel_rfl) (by kernel_rfl) ?_
 obtain⟨v0,y0,h⟩:=bm h
 refine x_frk 14 [(5,.call [] [] (bl v0) [])] (ocons (Timpl_PtOk (Y:=Y) a1 _ y0) onil) h (by kernel_rfl) (fun h=>?_) (fun h=>?_)
 ·replace h:=sj h;subst h
  exact x_end 12 [] [(true,6)] onil onil 
 ·obtain⟨v1,y1,h⟩:=bm h
  exact x_to 5 [(1,.call [] [] (bl v1) [])] (ocons (Timpl_SolidOk (Y:=Y) n a0 _ y1) onil) (Timpl_ShiftSolid_0 n (!v1) a0.inn a0.pl.A a0.pl.B a0.pl.C a0.pl.D a0.kids a1.X a1.Y a1.Z false 0 0 0 0 r h) 
def Dimpl_keep_0(n:Nat)(a0:Dsk)(zv:Bool)(zw zx zai zam:Int)(zan:List Sol)(zao:Bool)(zap zaq zar zas:Int)(zat:List Sol)(zau:Bool)(zav zaw zax zay:Int)(zaz:List Sol)(zba:Bool)(zbb zbc zbd zbe:Int)(zbf:List Sol)(zbg:Bool)(zbh zbi zbj zbk:Int)(zbl:List Sol)(zbm:Bool)(zbn zbo zbp zbq:Int)(zbr:List Sol)(zbs:Bool)(zbt zbu zbv zbw:Int)(zbx:List Sol)(zby:Bool)(zbz zca zcb zcc:Int)(zcd:List Sol)(zce zcf zcg zch zci zcj zck zcl:Bool):Option (Dsk×Int) :=
 (Dimpl_Desk_held n (((Sol.mk zv (Pl.mk zw zx zai zam) zan),(Sol.mk zao (Pl.mk zap zaq zar zas) zat),(Sol.mk zau (Pl.mk zav zaw zax zay) zaz),(Sol.mk zba (Pl.mk zbb zbc zbd zbe) zbf),(Sol.mk zbg (Pl.mk zbh zbi zbj zbk) zbl),(Sol.mk zbm (Pl.mk zbn zbo zbp zbq) zbr),(Sol.mk zbs (Pl.mk zbt zbu zbv zbw) zbx),(Sol.mk zby (Pl.mk zbz zca zcb zcc) zcd)),(zce,zcf,zcg,zch,zci,zcj,zck,zcl))).bind fun v2=>frk (decide (v2>900)) ((Dimpl_copyDesk n a0).bind fun v3=>some (v3,3)) (some ((((Sol.mk zv (Pl.mk zw zx zai zam) zan),(Sol.mk zao (Pl.mk zap zaq zar zas) zat),(Sol.mk zau (Pl.mk zav zaw zax zay) zaz),(Sol.mk zba (Pl.mk zbb zbc zbd zbe) zbf),(Sol.mk zbg (Pl.mk zbh zbi zbj zbk) zbl),(Sol.mk zbm (Pl.mk zbn zbo zbp zbq) zbr),(Sol.mk zbs (Pl.mk zbt zbu zbv zbw) zbx),(Sol.mk zby (Pl.mk zbz zca zcb zcc) zcd)),(zce,zcf,zcg,zch,zci,zcj,zck,zcl)),0))
theorem Timpl_keep_0{Y}(n:Nat)(a0:Dsk)(zv:Bool)(zw zx zai zam:Int)(zan:List Sol)(zao:Bool)(zap zaq zar zas:Int)(zat:List Sol)(zau:Bool)(zav zaw zax zay:Int)(zaz:List Sol)(zba:Bool)(zbb zbc zbd zbe:Int)(zbf:List Sol)(zbg:Bool)(zbh zbi zbj zbk:Int)(zbl:List Sol)(zbm:Bool)(zbn zbo zbp zbq:Int)(zbr:List Sol)(zbs:Bool)(zbt zbu zbv zbw:Int)(zbx:List Sol)(zby:Bool)(zbz zca zcb zcc:Int)(zcd:List Sol)(zce zcf zcg zch zci zcj zck zcl:Bool)(r:(Dsk×Int))(h:Dimpl_keep_0 n a0 zv zw zx zai zam zan zao zap zaq zar zas zat zau zav zaw zax zay zaz zba zbb zbc zbd zbe zbf zbg zbh zbi zbj zbk zbl zbm zbn zbo zbp zbq zbr zbs zbt zbu zbv zbw zbx zby zbz zca zcb zcc zcd zce zcf zcg zch zci zcj zck zcl=some r):Wk Tryz.prog H Y 63 [.code (cp [1,1,1,0,0] (bodyOf Tryz.f63)),.code (cp [1,1,1,0,1] (bodyOf Tryz.f63)),.code (cp [1,1,1,1] (bodyOf Tryz.f63))] (FinX Tryz.prog Tryz.f63 [] (.tup [.agg (cT38o r.1),i64 r.2]) []) ⟨[(3,.ptr 3 0),(6,.ptr 6 0),(8,.ptr 8 0)],[(3,⟨true,0,(cT38 a0)⟩),(6,⟨true,0,[bl false,i64 0,i64 0,i64 0,i64 0,.nil,bl false,i64 0,i64 0,i64 0,i64 0,.nil,bl false,i64 0,i64 0,i64 0,i64 0,.nil,bl false,i64 0,i64 0,i64 0,i64 0,.nil,bl false,i64 0,i64 0,i64 0,i64 0,.nil,bl false,i64 0,i64 0,i64 0,i64 0,.nil,bl false,i64 0,i64 0,i64 0,i64 0,.nil,bl false,i64 0,i64 0,i64 0,i64 0,.nil,bl false,bl false,bl false,bl false,bl false,bl false,bl false,bl false]⟩),(8,⟨true,0,[bl zv,i64 zw,i64 zx,i64 zai,i64 zam,.sl true 6 zan.length ((eSol true).f zan),bl zao,i64 zap,i64 zaq,i64 zar,i64 zas,.sl true 6 zat.length ((eSol true).f zat),bl zau,i64 zav,i64 zaw,i64 zax,i64 zay,.sl true 6 zaz.length ((eSol true).f zaz),bl zba,i64 zbb,i64 zbc,i64 zbd,i64 zbe,.sl true 6 zbf.length ((eSol true).f zbf),bl zbg,i64 zbh,i64 zbi,i64 zbj,i64 zbk,.sl true 6 zbl.length ((eSol true).f zbl),bl zbm,i64 zbn,i64 zbo,i64 zbp,i64 zbq,.sl true 6 zbr.length ((eSol true).f zbr),bl zbs,i64 zbt,i64 zbu,i64 zbv,i64 zbw,.sl true 6 zbx.length ((eSol true).f zbx),bl zby,i64 zbz,i64 zca,i64 zcb,i64 zcc,.sl true 6 zcd.length ((eSol true).f zcd),bl zce,bl zcf,bl zcg,bl zch,bl zci,bl zcj,bl zck,bl zcl]⟩)]⟩:=by
 unfold Dimpl_keep_0 at h
 obtain⟨v2,y2,h⟩:=bm h
 refine x_frk 4 [(0,.call [] [(eSol false).f zan,(eSol false).f zat,(eSol false).f zaz,(eSol false).f zbf,(eSol false).f zbl,(eSol false).f zbr,(eSol false).f zbx,(eSol false).f zcd] (i64 v2) [])] (ocons (Timpl_Desk_held (Y:=Y) n (((Sol.mk zv (Pl.mk zw zx zai zam) zan),(Sol.mk zao (Pl.mk zap zaq zar zas) zat),(Sol.mk zau (Pl.mk zav zaw zax zay) zaz),(Sol.mk zba (Pl.mk zbb zbc zbd zbe) zbf),(Sol.mk zbg (Pl.mk zbh zbi zbj zbk) zbl),(Sol.mk zbm (Pl.mk zbn zbo zbp zbq) zbr),(Sol.mk zbs (Pl.mk zbt zbu zbv zbw) zbx),(Sol.mk zby (Pl.mk zbz zca zcb zcc) zcd)),(zce,zcf,zcg,zch,zci,zcj,zck,zcl)) [] _ y2) (ocons (Enc.share (eSol true) (eSol false) (sSol true) zan) (ocons (Enc.share (eSol true) (eSol false) (sSol true) zat) (ocons (Enc.share (eSol true) (eSol false) (sSol true) zaz) (ocons (Enc.share (eSol true) (eSol false) (sSol true) zbf) (ocons (Enc.share (eSol true) (eSol false) (sSol true) zbl) (ocons (Enc.share (eSol true) (eSol false) (sSol true) zbr) (ocons (Enc.share (eSol true) (eSol false) (sSol true) zbx) (ocons (Enc.share (eSol true) (eSol false) (sSol true) zcd) onil))))))))) h (by kernel_rfl) (fun h=>?_) (fun h=>?_)
 ·obtain⟨v3,y3,h⟩:=bm h
  replace h:=sj h;subst h
  exact x_end 7 [(1,.call [] [] (.agg (cT38o v3)) [])] [] (ocons (Timpl_copyDesk (Y:=Y) n a0 _ y3) onil) onil 
 ·replace h:=sj h;subst h
  exact x_end 7 [] [] onil onil 
def Dimpl_keep(n:Nat)(a0:Dsk)(a1:Int)(a2:Sol):Option (Dsk×Int) :=
 (Dimpl_copyDesk n a0).bind fun v0=>(Dimpl_copySolid n a2).bind fun v1=>frk (a1==0) (Dimpl_keep_0 n a0 v1.inn v1.pl.A v1.pl.B v1.pl.C v1.pl.D v1.kids v0.1.2.1.inn v0.1.2.1.pl.A v0.1.2.1.pl.B v0.1.2.1.pl.C v0.1.2.1.pl.D v0.1.2.1.kids v0.1.2.2.1.inn v0.1.2.2.1.pl.A v0.1.2.2.1.pl.B v0.1.2.2.1.pl.C v0.1.2.2.1.pl.D v0.1.2.2.1.kids v0.1.2.2.2.1.inn v0.1.2.2.2.1.pl.A v0.1.2.2.2.1.pl.B v0.1.2.2.2.1.pl.C v0.1.2.2.2.1.pl.D v0.1.2.2.2.1.kids v0.1.2.2.2.2.1.inn v0.1.2.2.2.2.1.pl.A v0.1.2.2.2.2.1.pl.B v0.1.2.2.2.2.1.pl.C v0.1.2.2.2.2.1.pl.D v0.1.2.2.2.2.1.kids v0.1.2.2.2.2.2.1.inn v0.1.2.2.2.2.2.1.pl.A v0.1.2.2.2.2.2.1.pl.B v0.1.2.2.2.2.2.1.pl.C v0.1.2.2.2.2.2.1.pl.D v0.1.2.2.2.2.2.1.kids v0.1.2.2.2.2.2.2.1.inn v0.1.2.2.2.2.2.2.1.pl.A v0.1.2.2.2.2.2.2.1.pl.B v0.1.2.2.2.2.2.2.1.pl.C v0.1.2.2.2.2.2.2.1.pl.D v0.1.2.2.2.2.2.2.1.kids v0.1.2.2.2.2.2.2.2.inn v0.1.2.2.2.2.2.2.2.pl.A v0.1.2.2.2.2.2.2.2.pl.B v0.1.2.2.2.2.2.2.2.pl.C v0.1.2.2.2.2.2.2.2.pl.D v0.1.2.2.2.2.2.2.2.kids true v0.2.2.1 v0.2.2.2.1 v0.2.2.2.2.1 v0.2.2.2.2.2.1 v0.2.2.2.2.2.2.1 v0.2.2.2.2.2.2.2.1 v0.2.2.2.2.2.2.2.2) (frk (a1==1) (Dimpl_keep_0 n a0 v0.1.1.inn v0.1.1.pl.A v0.1.1.pl.B v0.1.1.pl.C v0.1.1.pl.D v0.1.1.kids v1.inn v1.pl.A v1.pl.B v1.pl.C v1.pl.D v1.kids v0.1.2.2.1.inn v0.1.2.2.1.pl.A v0.1.2.2.1.pl.B v0.1.2.2.1.pl.C v0.1.2.2.1.pl.D v0.1.2.2.1.kids v0.1.2.2.2.1.inn v0.1.2.2.2.1.pl.A v0.1.2.2.2.1.pl.B v0.1.2.2.2.1.pl.C v0.1.2.2.2.1.pl.D v0.1.2.2.2.1.kids v0.1.2.2.2.2.1.inn v0.1.2.2.2.2.1.pl.A v0.1.2.2.2.2.1.pl.B v0.1.2.2.2.2.1.pl.C v0.1.2.2.2.2.1.pl.D v0.1.2.2.2.2.1.kids v0.1.2.2.2.2.2.1.inn v0.1.2.2.2.2.2.1.pl.A v0.1.2.2.2.2.2.1.pl.B v0.1.2.2.2.2.2.1.pl.C v0.1.2.2.2.2.2.1.pl.D v0.1.2.2.2.2.2.1.kids v0.1.2.2.2.2.2.2.1.inn v0.1.2.2.2.2.2.2.1.pl.A v0.1.2.2.2.2.2.2.1.pl.B v0.1.2.2.2.2.2.2.1.pl.C v0.1.2.2.2.2.2.2.1.pl.D v0.1.2.2.2.2.2.2.1.kids v0.1.2.2.2.2.2.2.2.inn v0.1.2.2.2.2.2.2.2.pl.A v0.1.2.2.2.2.2.2.2.pl.B v0.1.2.2.2.2.2.2.2.pl.C v0.1.2.2.2.2.2.2.2.pl.D v0.1.2.2.2.2.2.2.2.kids v0.2.1 true v0.2.2.2.1 v0.2.2.2.2.1 v0.2.2.2.2.2.1 v0.2.2.2.2.2.2.1 v0.2.2.2.2.2.2.2.1 v0.2.2.2.2.2.2.2.2) (frk (a1==2) (Dimpl_keep_0 n a0 v0.1.1.inn v0.1.1.pl.A v0.1.1.pl.B v0.1.1.pl.C v0.1.1.pl.D v0.1.1.kids v0.1.2.1.inn v0.1.2.1.pl.A v0.1.2.1.pl.B v0.1.2.1.pl.C v0.1.2.1.pl.D v0.1.2.1.kids v1.inn v1.pl.A v1.pl.B v1.pl.C v1.pl.D v1.kids v0.1.2.2.2.1.inn v0.1.2.2.2.1.pl.A v0.1.2.2.2.1.pl.B v0.1.2.2.2.1.pl.C v0.1.2.2.2.1.pl.D v0.1.2.2.2.1.kids v0.1.2.2.2.2.1.inn v0.1.2.2.2.2.1.pl.A v0.1.2.2.2.2.1.pl.B v0.1.2.2.2.2.1.pl.C v0.1.2.2.2.2.1.pl.D v0.1.2.2.2.2.1.kids v0.1.2.2.2.2.2.1.inn v0.1.2.2.2.2.2.1.pl.A v0.1.2.2.2.2.2.1.pl.B v0.1.2.2.2.2.2.1.pl.C v0.1.2.2.2.2.2.1.pl.D v0.1.2.2.2.2.2.1.kids v0.1.2.2.2.2.2.2.1.inn v0.1.2.2.2.2.2.2.1.pl.A v0.1.2.2.2.2.2.2.1.pl.B v0.1.2.2.2.2.2.2.1.pl.C v0.1.2.2.2.2.2.2.1.pl.D v0.1.2.2.2.2.2.2.1.kids v0.1.2.2.2.2.2.2.2.inn v0.1.2.2.2.2.2.2.2.pl.A v0.1.2.2.2.2.2.2.2.pl.B v0.1.2.2.2.2.2.2.2.pl.C v0.1.2.2.2.2.2.2.2.pl.D v0.1.2.2.2.2.2.2.2.kids v0.2.1 v0.2.2.1 true v0.2.2.2.2.1 v0.2.2.2.2.2.1 v0.2.2.2.2.2.2.1 v0.2.2.2.2.2.2.2.1 v0.2.2.2.2.2.2.2.2) (frk (a1==3) (Dimpl_keep_0 n a0 v0.1.1.inn v0.1.1.pl.A v0.1.1.pl.B v0.1.1.pl.C v0.1.1.pl.D v0.1.1.kids v0.1.2.1.inn v0.1.2.1.pl.A v0.1.2.1.pl.B v0.1.2.1.pl.C v0.1.2.1.pl.D v0.1.2.1.kids v0.1.2.2.1.inn v0.1.2.2.1.pl.A v0.1.2.2.1.pl.B v0.1.2.2.1.pl.C v0.1.2.2.1.pl.D v0.1.2.2.1.kids v1.inn v1.pl.A v1.pl.B v1.pl.C v1.pl.D v1.kids v0.1.2.2.2.2.1.inn v0.1.2.2.2.2.1.pl.A v0.1.2.2.2.2.1.pl.B v0.1.2.2.2.2.1.pl.C v0.1.2.2.2.2.1.pl.D v0.1.2.2.2.2.1.kids v0.1.2.2.2.2.2.1.inn v0.1.2.2.2.2.2.1.pl.A v0.1.2.2.2.2.2.1.pl.B v0.1.2.2.2.2.2.1.pl.C v0.1.2.2.2.2.2.1.pl.D v0.1.2.2.2.2.2.1.kids v0.1.2.2.2.2.2.2.1.inn v0.1.2.2.2.2.2.2.1.pl.A v0.1.2.2.2.2.2.2.1.pl.B v0.1.2.2.2.2.2.2.1.pl.C v0.1.2.2.2.2.2.2.1.pl.D v0.1.2.2.2.2.2.2.1.kids v0.1.2.2.2.2.2.2.2.inn v0.1.2.2.2.2.2.2.2.pl.A v0.1.2.2.2.2.2.2.2.pl.B v0.1.2.2.2.2.2.2.2.pl.C v0.1.2.2.2.2.2.2.2.pl.D v0.1.2.2.2.2.2.2.2.kids v0.2.1 v0.2.2.1 v0.2.2.2.1 true v0.2.2.2.2.2.1 v0.2.2.2.2.2.2.1 v0.2.2.2.2.2.2.2.1 v0.2.2.2.2.2.2.2.2) (frk (a1==4) (Dimpl_keep_0 n a0 v0.1.1.inn v0.1.1.pl.A v0.1.1.pl.B v0.1.1.pl.C v0.1.1.pl.D v0.1.1.kids v0.1.2.1.inn v0.1.2.1.pl.A v0.1.2.1.pl.B v0.1.2.1.pl.C v0.1.2.1.pl.D v0.1.2.1.kids v0.1.2.2.1.inn v0.1.2.2.1.pl.A v0.1.2.2.1.pl.B v0.1.2.2.1.pl.C v0.1.2.2.1.pl.D v0.1.2.2.1.kids v0.1.2.2.2.1.inn v0.1.2.2.2.1.pl.A v0.1.2.2.2.1.pl.B v0.1.2.2.2.1.pl.C v0.1.2.2.2.1.pl.D v0.1.2.2.2.1.kids v1.inn v1.pl.A v1.pl.B v1.pl.C v1.pl.D v1.kids v0.1.2.2.2.2.2.1.inn v0.1.2.2.2.2.2.1.pl.A v0.1.2.2.2.2.2.1.pl.B v0.1.2.2.2.2.2.1.pl.C v0.1.2.2.2.2.2.1.pl.D v0.1.2.2.2.2.2.1.kids v0.1.2.2.2.2.2.2.1.inn v0.1.2.2.2.2.2.2.1.pl.A v0.1.2.2.2.2.2.2.1.pl.B v0.1.2.2.2.2.2.2.1.pl.C v0.1.2.2.2.2.2.2.1.pl.D v0.1.2.2.2.2.2.2.1.kids v0.1.2.2.2.2.2.2.2.inn v0.1.2.2.2.2.2.2.2.pl.A v0.1.2.2.2.2.2.2.2.pl.B v0.1.2.2.2.2.2.2.2.pl.C v0.1.2.2.2.2.2.2.2.pl.D v0.1.2.2.2.2.2.2.2.kids v0.2.1 v0.2.2.1 v0.2.2.2.1 v0.2.2.2.2.1 true v0.2.2.2.2.2.2.1 v0.2.2.2.2.2.2.2.1 v0.2.2.2.2.2.2.2.2) (frk (a1==5) (Dimpl_keep_0 n a0 v0.1.1.inn v0.1.1.pl.A v0.1.1.pl.B v0.1.1.pl.C v0.1.1.pl.D v0.1.1.kids v0.1.2.1.inn v0.1.2.1.pl.A v0.1.2.1.pl.B v0.1.2.1.pl.C v0.1.2.1.pl.D v0.1.2.1.kids v0.1.2.2.1.inn v0.1.2.2.1.pl.A v0.1.2.2.1.pl.B v0.1.2.2.1.pl.C v0.1.2.2.1.pl.D v0.1.2.2.1.kids v0.1.2.2.2.1.inn v0.1.2.2.2.1.pl.A v0.1.2.2.2.1.pl.B v0.1.2.2.2.1.pl.C v0.1.2.2.2.1.pl.D v0.1.2.2.2.1.kids v0.1.2.2.2.2.1.inn v0.1.2.2.2.2.1.pl.A v0.1.2.2.2.2.1.pl.B v0.1.2.2.2.2.1.pl.C v0.1.2.2.2.2.1.pl.D v0.1.2.2.2.2.1.kids v1.inn v1.pl.A v1.pl.B v1.pl.C v1.pl.D v1.kids v0.1.2.2.2.2.2.2.1.inn v0.1.2.2.2.2.2.2.1.pl.A v0.1.2.2.2.2.2.2.1.pl.B v0.1.2.2.2.2.2.2.1.pl.C v0.1.2.2.2.2.2.2.1.pl.D v0.1.2.2.2.2.2.2.1.kids v0.1.2.2.2.2.2.2.2.inn v0.1.2.2.2.2.2.2.2.pl.A v0.1.2.2.2.2.2.2.2.pl.B v0.1.2.2.2.2.2.2.2.pl.C v0.1.2.2.2.2.2.2.2.pl.D v0.1.2.2.2.2.2.2.2.kids v0.2.1 v0.2.2.1 v0.2.2.2.1 v0.2.2.2.2.1 v0.2.2.2.2.2.1 true v0.2.2.2.2.2.2.2.1 v0.2.2.2.2.2.2.2.2) (frk (a1==6) (Dimpl_keep_0 n a0 v0.1.1.inn v0.1.1.pl.A v0.1.1.pl.B v0.1.1.pl.C v0.1.1.pl.D v0.1.1.kids v0.1.2.1.inn v0.1.2.1.pl.A v0.1.2.1.pl.B v0.1.2.1.pl.C v0.1.2.1.pl.D v0.1.2.1.kids v0.1.2.2.1.inn v0.1.2.2.1.pl.A v0.1.2.2.1.pl.B v0.1.2.2.1.pl.C v0.1.2.2.1.pl.D v0.1.2.2.1.kids v0.1.2.2.2.1.inn v0.1.2.2.2.1.pl.A v0.1.2.2.2.1.pl.B v0.1.2.2.2.1.pl.C v0.1.2.2.2.1.pl.D v0.1.2.2.2.1.kids v0.1.2.2.2.2.1.inn v0.1.2.2.2.2.1.pl.A v0.1.2.2.2.2.1.pl.B v0.1.2.2.2.2.1.pl.C v0.1.2.2.2.2.1.pl.D v0.1.2.2.2.2.1.kids v0.1.2.2.2.2.2.1.inn v0.1.2.2.2.2.2.1.pl.A v0.1.2.2.2.2.2.1.pl.B v0.1.2.2.2.2.2.1.pl.C v0.1.2.2.2.2.2.1.pl.D v0.1.2.2.2.2.2.1.kids v1.inn v1.pl.A v1.pl.B v1.pl.C v1.pl.D v1.kids v0.1.2.2.2.2.2.2.2.inn v0.1.2.2.2.2.2.2.2.pl.A v0.1.2.2.2.2.2.2.2.pl.B v0.1.2.2.2.2.2.2.2.pl.C v0.1.2.2.2.2.2.2.2.pl.D v0.1.2.2.2.2.2.2.2.kids v0.2.1 v0.2.2.1 v0.2.2.2.1 v0.2.2.2.2.1 v0.2.2.2.2.2.1 v0.2.2.2.2.2.2.1 true v0.2.2.2.2.2.2.2.2) (frk (a1==7) (Dimpl_keep_0 n a0 v0.1.1.inn v0.1.1.pl.A v0.1.1.pl.B v0.1.1.pl.C v0.1.1.pl.D v0.1.1.kids v0.1.2.1.inn v0.1.2.1.pl.A v0.1.2.1.pl.B v0.1.2.1.pl.C v0.1.2.1.pl.D v0.1.2.1.kids v0.1.2.2.1.inn v0.1.2.2.1.pl.A v0.1.2.2.1.pl.B v0.1.2.2.1.pl.C v0.1.2.2.1.pl.D v0.1.2.2.1.kids v0.1.2.2.2.1.inn v0.1.2.2.2.1.pl.A v0.1.2.2.2.1.pl.B v0.1.2.2.2.1.pl.C v0.1.2.2.2.1.pl.D v0.1.2.2.2.1.kids v0.1.2.2.2.2.1.inn v0.1.2.2.2.2.1.pl.A v0.1.2.2.2.2.1.pl.B v0.1.2.2.2.2.1.pl.C v0.1.2.2.2.2.1.pl.D v0.1.2.2.2.2.1.kids v0.1.2.2.2.2.2.1.inn v0.1.2.2.2.2.2.1.pl.A v0.1.2.2.2.2.2.1.pl.B v0.1.2.2.2.2.2.1.pl.C v0.1.2.2.2.2.2.1.pl.D v0.1.2.2.2.2.2.1.kids v0.1.2.2.2.2.2.2.1.inn v0.1.2.2.2.2.2.2.1.pl.A v0.1.2.2.2.2.2.2.1.pl.B v0.1.2.2.2.2.2.2.1.pl.C v0.1.2.2.2.2.2.2.1.pl.D v0.1.2.2.2.2.2.2.1.kids v1.inn v1.pl.A v1.pl.B v1.pl.C v1.pl.D v1.kids v0.2.1 v0.2.2.1 v0.2.2.2.1 v0.2.2.2.2.1 v0.2.2.2.2.2.1 v0.2.2.2.2.2.2.1 v0.2.2.2.2.2.2.2.1 true) (none))))))))
theorem Timpl_keep{Y}(n:Nat)(a0:Dsk)(a1:Int)(a2:Sol)(r:(Dsk×Int))(h:Dimpl_keep n a0 a1 a2=some r):Big Tryz.prog H Y (.call 63 [.agg (cT38 a0),i64 a1,eF a2] (lk []) (.tup [.agg (cT38o r.1),i64 r.2]) (lk [])):=by
 unfold Dimpl_keep at h
 refine x_call (fn:=Tryz.f63) (c:=bodyOf Tryz.f63) (bs0:=[]) Tryz.func63 (by kernel_rfl) (by kernel_rfl) ?_
 obtain⟨v0,y0,h⟩:=bm h
 obtain⟨v1,y1,h⟩:=bm h
 refine x_pt 21 [(5,.call [] [] (.agg (cT38o v0)) []),(5,.call [] [] (eS v1) [])] (ocons (Timpl_copyDesk (Y:=Y) n a0 _ y0) (ocons (Timpl_copySolid (Y:=Y) n a2 _ y1) onil)) (by kernel_rfl) ?_
 rcases frk_eq h with ⟨hc,hk25⟩ | h
 ·subst hc
  replace h:=hk25
  exact x_to 8 [] onil (Timpl_keep_0 n a0 v1.inn v1.pl.A v1.pl.B v1.pl.C v1.pl.D v1.kids v0.1.2.1.inn v0.1.2.1.pl.A v0.1.2.1.pl.B v0.1.2.1.pl.C v0.1.2.1.pl.D v0.1.2.1.kids v0.1.2.2.1.inn v0.1.2.2.1.pl.A v0.1.2.2.1.pl.B v0.1.2.2.1.pl.C v0.1.2.2.1.pl.D v0.1.2.2.1.kids v0.1.2.2.2.1.inn v0.1.2.2.2.1.pl.A v0.1.2.2.2.1.pl.B v0.1.2.2.2.1.pl.C v0.1.2.2.2.1.pl.D v0.1.2.2.2.1.kids v0.1.2.2.2.2.1.inn v0.1.2.2.2.2.1.pl.A v0.1.2.2.2.2.1.pl.B v0.1.2.2.2.2.1.pl.C v0.1.2.2.2.2.1.pl.D v0.1.2.2.2.2.1.kids v0.1.2.2.2.2.2.1.inn v0.1.2.2.2.2.2.1.pl.A v0.1.2.2.2.2.2.1.pl.B v0.1.2.2.2.2.2.1.pl.C v0.1.2.2.2.2.2.1.pl.D v0.1.2.2.2.2.2.1.kids v0.1.2.2.2.2.2.2.1.inn v0.1.2.2.2.2.2.2.1.pl.A v0.1.2.2.2.2.2.2.1.pl.B v0.1.2.2.2.2.2.2.1.pl.C v0.1.2.2.2.2.2.2.1.pl.D v0.1.2.2.2.2.2.2.1.kids v0.1.2.2.2.2.2.2.2.inn v0.1.2.2.2.2.2.2.2.pl.A v0.1.2.2.2.2.2.2.2.pl.B v0.1.2.2.2.2.2.2.2.pl.C v0.1.2.2.2.2.2.2.2.pl.D v0.1.2.2.2.2.2.2.2.kids true v0.2.2.1 v0.2.2.2.1 v0.2.2.2.2.1 v0.2.2.2.2.2.1 v0.2.2.2.2.2.2.1 v0.2.2.2.2.2.2.2.1 v0.2.2.2.2.2.2.2.2 r h) 
 rcases frk_eq h with ⟨hc,hk26⟩ | h
 ·subst hc
  replace h:=hk26
  exact x_to 8 [] onil (Timpl_keep_0 n a0 v0.1.1.inn v0.1.1.pl.A v0.1.1.pl.B v0.1.1.pl.C v0.1.1.pl.D v0.1.1.kids v1.inn v1.pl.A v1.pl.B v1.pl.C v1.pl.D v1.kids v0.1.2.2.1.inn v0.1.2.2.1.pl.A v0.1.2.2.1.pl.B v0.1.2.2.1.pl.C v0.1.2.2.1.pl.D v0.1.2.2.1.kids v0.1.2.2.2.1.inn v0.1.2.2.2.1.pl.A v0.1.2.2.2.1.pl.B v0.1.2.2.2.1.pl.C v0.1.2.2.2.1.pl.D v0.1.2.2.2.1.kids v0.1.2.2.2.2.1.inn v0.1.2.2.2.2.1.pl.A v0.1.2.2.2.2.1.pl.B v0.1.2.2.2.2.1.pl.C v0.1.2.2.2.2.1.pl.D v0.1.2.2.2.2.1.kids v0.1.2.2.2.2.2.1.inn v0.1.2.2.2.2.2.1.pl.A v0.1.2.2.2.2.2.1.pl.B v0.1.2.2.2.2.2.1.pl.C v0.1.2.2.2.2.2.1.pl.D v0.1.2.2.2.2.2.1.kids v0.1.2.2.2.2.2.2.1.inn v0.1.2.2.2.2.2.2.1.pl.A v0.1.2.2.2.2.2.2.1.pl.B v0.1.2.2.2.2.2.2.1.pl.C v0.1.2.2.2.2.2.2.1.pl.D v0.1.2.2.2.2.2.2.1.kids v0.1.2.2.2.2.2.2.2.inn v0.1.2.2.2.2.2.2.2.pl.A v0.1.2.2.2.2.2.2.2.pl.B v0.1.2.2.2.2.2.2.2.pl.C v0.1.2.2.2.2.2.2.2.pl.D v0.1.2.2.2.2.2.2.2.kids v0.2.1 true v0.2.2.2.1 v0.2.2.2.2.1 v0.2.2.2.2.2.1 v0.2.2.2.2.2.2.1 v0.2.2.2.2.2.2.2.1 v0.2.2.2.2.2.2.2.2 r h) 
 rcases frk_eq h with ⟨hc,hk27⟩ | h
 ·subst hc
  replace h:=hk27
  exact x_to 8 [] onil (Timpl_keep_0 n a0 v0.1.1.inn v0.1.1.pl.A v0.1.1.pl.B v0.1.1.pl.C v0.1.1.pl.D v0.1.1.kids v0.1.2.1.inn v0.1.2.1.pl.A v0.1.2.1.pl.B v0.1.2.1.pl.C v0.1.2.1.pl.D v0.1.2.1.kids v1.inn v1.pl.A v1.pl.B v1.pl.C v1.pl.D v1.kids v0.1.2.2.2.1.inn v0.1.2.2.2.1.pl.A v0.1.2.2.2.1.pl.B v0.1.2.2.2.1.pl.C v0.1.2.2.2.1.pl.D v0.1.2.2.2.1.kids v0.1.2.2.2.2.1.inn v0.1.2.2.2.2.1.pl.A v0.1.2.2.2.2.1.pl.B v0.1.2.2.2.2.1.pl.C v0.1.2.2.2.2.1.pl.D v0.1.2.2.2.2.1.kids v0.1.2.2.2.2.2.1.inn v0.1.2.2.2.2.2.1.pl.A v0.1.2.2.2.2.2.1.pl.B v0.1.2.2.2.2.2.1.pl.C v0.1.2.2.2.2.2.1.pl.D v0.1.2.2.2.2.2.1.kids v0.1.2.2.2.2.2.2.1.inn v0.1.2.2.2.2.2.2.1.pl.A v0.1.2.2.2.2.2.2.1.pl.B v0.1.2.2.2.2.2.2.1.pl.C v0.1.2.2.2.2.2.2.1.pl.D v0.1.2.2.2.2.2.2.1.kids v0.1.2.2.2.2.2.2.2.inn v0.1.2.2.2.2.2.2.2.pl.A v0.1.2.2.2.2.2.2.2.pl.B v0.1.2.2.2.2.2.2.2.pl.C v0.1.2.2.2.2.2.2.2.pl.D v0.1.2.2.2.2.2.2.2.kids v0.2.1 v0.2.2.1 true v0.2.2.2.2.1 v0.2.2.2.2.2.1 v0.2.2.2.2.2.2.1 v0.2.2.2.2.2.2.2.1 v0.2.2.2.2.2.2.2.2 r h) 
 rcases frk_eq h with ⟨hc,hk28⟩ | h
 ·subst hc
  replace h:=hk28
  exact x_to 8 [] onil (Timpl_keep_0 n a0 v0.1.1.inn v0.1.1.pl.A v0.1.1.pl.B v0.1.1.pl.C v0.1.1.pl.D v0.1.1.kids v0.1.2.1.inn v0.1.2.1.pl.A v0.1.2.1.pl.B v0.1.2.1.pl.C v0.1.2.1.pl.D v0.1.2.1.kids v0.1.2.2.1.inn v0.1.2.2.1.pl.A v0.1.2.2.1.pl.B v0.1.2.2.1.pl.C v0.1.2.2.1.pl.D v0.1.2.2.1.kids v1.inn v1.pl.A v1.pl.B v1.pl.C v1.pl.D v1.kids v0.1.2.2.2.2.1.inn v0.1.2.2.2.2.1.pl.A v0.1.2.2.2.2.1.pl.B v0.1.2.2.2.2.1.pl.C v0.1.2.2.2.2.1.pl.D v0.1.2.2.2.2.1.kids v0.1.2.2.2.2.2.1.inn v0.1.2.2.2.2.2.1.pl.A v0.1.2.2.2.2.2.1.pl.B v0.1.2.2.2.2.2.1.pl.C v0.1.2.2.2.2.2.1.pl.D v0.1.2.2.2.2.2.1.kids v0.1.2.2.2.2.2.2.1.inn v0.1.2.2.2.2.2.2.1.pl.A v0.1.2.2.2.2.2.2.1.pl.B v0.1.2.2.2.2.2.2.1.pl.C v0.1.2.2.2.2.2.2.1.pl.D v0.1.2.2.2.2.2.2.1.kids v0.1.2.2.2.2.2.2.2.inn v0.1.2.2.2.2.2.2.2.pl.A v0.1.2.2.2.2.2.2.2.pl.B v0.1.2.2.2.2.2.2.2.pl.C v0.1.2.2.2.2.2.2.2.pl.D v0.1.2.2.2.2.2.2.2.kids v0.2.1 v0.2.2.1 v0.2.2.2.1 true v0.2.2.2.2.2.1 v0.2.2.2.2.2.2.1 v0.2.2.2.2.2.2.2.1 v0.2.2.2.2.2.2.2.2 r h) 
 rcases frk_eq h with ⟨hc,hk29⟩ | h
 ·subst hc
  replace h:=hk29
  exact x_to 8 [] onil (Timpl_keep_0 n a0 v0.1.1.inn v0.1.1.pl.A v0.1.1.pl.B v0.1.1.pl.C v0.1.1.pl.D v0.1.1.kids v0.1.2.1.inn v0.1.2.1.pl.A v0.1.2.1.pl.B v0.1.2.1.pl.C v0.1.2.1.pl.D v0.1.2.1.kids v0.1.2.2.1.inn v0.1.2.2.1.pl.A v0.1.2.2.1.pl.B v0.1.2.2.1.pl.C v0.1.2.2.1.pl.D v0.1.2.2.1.kids v0.1.2.2.2.1.inn v0.1.2.2.2.1.pl.A v0.1.2.2.2.1.pl.B v0.1.2.2.2.1.pl.C v0.1.2.2.2.1.pl.D v0.1.2.2.2.1.kids v1.inn v1.pl.A v1.pl.B v1.pl.C v1.pl.D v1.kids v0.1.2.2.2.2.2.1.inn v0.1.2.2.2.2.2.1.pl.A v0.1.2.2.2.2.2.1.pl.B v0.1.2.2.2.2.2.1.pl.C v0.1.2.2.2.2.2.1.pl.D v0.1.2.2.2.2.2.1.kids v0.1.2.2.2.2.2.2.1.inn v0.1.2.2.2.2.2.2.1.pl.A v0.1.2.2.2.2.2.2.1.pl.B v0.1.2.2.2.2.2.2.1.pl.C v0.1.2.2.2.2.2.2.1.pl.D v0.1.2.2.2.2.2.2.1.kids v0.1.2.2.2.2.2.2.2.inn v0.1.2.2.2.2.2.2.2.pl.A v0.1.2.2.2.2.2.2.2.pl.B v0.1.2.2.2.2.2.2.2.pl.C v0.1.2.2.2.2.2.2.2.pl.D v0.1.2.2.2.2.2.2.2.kids v0.2.1 v0.2.2.1 v0.2.2.2.1 v0.2.2.2.2.1 true v0.2.2.2.2.2.2.1 v0.2.2.2.2.2.2.2.1 v0.2.2.2.2.2.2.2.2 r h) 
 rcases frk_eq h with ⟨hc,hk30⟩ | h
 ·subst hc
  replace h:=hk30
  exact x_to 8 [] onil (Timpl_keep_0 n a0 v0.1.1.inn v0.1.1.pl.A v0.1.1.pl.B v0.1.1.pl.C v0.1.1.pl.D v0.1.1.kids v0.1.2.1.inn v0.1.2.1.pl.A v0.1.2.1.pl.B v0.1.2.1.pl.C v0.1.2.1.pl.D v0.1.2.1.kids v0.1.2.2.1.inn v0.1.2.2.1.pl.A v0.1.2.2.1.pl.B v0.1.2.2.1.pl.C v0.1.2.2.1.pl.D v0.1.2.2.1.kids v0.1.2.2.2.1.inn v0.1.2.2.2.1.pl.A v0.1.2.2.2.1.pl.B v0.1.2.2.2.1.pl.C v0.1.2.2.2.1.pl.D v0.1.2.2.2.1.kids v0.1.2.2.2.2.1.inn v0.1.2.2.2.2.1.pl.A v0.1.2.2.2.2.1.pl.B v0.1.2.2.2.2.1.pl.C v0.1.2.2.2.2.1.pl.D v0.1.2.2.2.2.1.kids v1.inn v1.pl.A v1.pl.B v1.pl.C v1.pl.D v1.kids v0.1.2.2.2.2.2.2.1.inn v0.1.2.2.2.2.2.2.1.pl.A v0.1.2.2.2.2.2.2.1.pl.B v0.1.2.2.2.2.2.2.1.pl.C v0.1.2.2.2.2.2.2.1.pl.D v0.1.2.2.2.2.2.2.1.kids v0.1.2.2.2.2.2.2.2.inn v0.1.2.2.2.2.2.2.2.pl.A v0.1.2.2.2.2.2.2.2.pl.B v0.1.2.2.2.2.2.2.2.pl.C v0.1.2.2.2.2.2.2.2.pl.D v0.1.2.2.2.2.2.2.2.kids v0.2.1 v0.2.2.1 v0.2.2.2.1 v0.2.2.2.2.1 v0.2.2.2.2.2.1 true v0.2.2.2.2.2.2.2.1 v0.2.2.2.2.2.2.2.2 r h) 
 rcases frk_eq h with ⟨hc,hk31⟩ | h
 ·subst hc
  replace h:=hk31
  exact x_to 8 [] onil (Timpl_keep_0 n a0 v0.1.1.inn v0.1.1.pl.A v0.1.1.pl.B v0.1.1.pl.C v0.1.1.pl.D v0.1.1.kids v0.1.2.1.inn v0.1.2.1.pl.A v0.1.2.1.pl.B v0.1.2.1.pl.C v0.1.2.1.pl.D v0.1.2.1.kids v0.1.2.2.1.inn v0.1.2.2.1.pl.A v0.1.2.2.1.pl.B v0.1.2.2.1.pl.C v0.1.2.2.1.pl.D v0.1.2.2.1.kids v0.1.2.2.2.1.inn v0.1.2.2.2.1.pl.A v0.1.2.2.2.1.pl.B v0.1.2.2.2.1.pl.C v0.1.2.2.2.1.pl.D v0.1.2.2.2.1.kids v0.1.2.2.2.2.1.inn v0.1.2.2.2.2.1.pl.A v0.1.2.2.2.2.1.pl.B v0.1.2.2.2.2.1.pl.C v0.1.2.2.2.2.1.pl.D v0.1.2.2.2.2.1.kids v0.1.2.2.2.2.2.1.inn v0.1.2.2.2.2.2.1.pl.A v0.1.2.2.2.2.2.1.pl.B v0.1.2.2.2.2.2.1.pl.C v0.1.2.2.2.2.2.1.pl.D v0.1.2.2.2.2.2.1.kids v1.inn v1.pl.A v1.pl.B v1.pl.C v1.pl.D v1.kids v0.1.2.2.2.2.2.2.2.inn v0.1.2.2.2.2.2.2.2.pl.A v0.1.2.2.2.2.2.2.2.pl.B v0.1.2.2.2.2.2.2.2.pl.C v0.1.2.2.2.2.2.2.2.pl.D v0.1.2.2.2.2.2.2.2.kids v0.2.1 v0.2.2.1 v0.2.2.2.1 v0.2.2.2.2.1 v0.2.2.2.2.2.1 v0.2.2.2.2.2.2.1 true v0.2.2.2.2.2.2.2.2 r h) 
 rcases frk_eq h with ⟨hc,hk32⟩ | h
 ·subst hc
  replace h:=hk32
  exact x_to 8 [] onil (Timpl_keep_0 n a0 v0.1.1.inn v0.1.1.pl.A v0.1.1.pl.B v0.1.1.pl.C v0.1.1.pl.D v0.1.1.kids v0.1.2.1.inn v0.1.2.1.pl.A v0.1.2.1.pl.B v0.1.2.1.pl.C v0.1.2.1.pl.D v0.1.2.1.kids v0.1.2.2.1.inn v0.1.2.2.1.pl.A v0.1.2.2.1.pl.B v0.1.2.2.1.pl.C v0.1.2.2.1.pl.D v0.1.2.2.1.kids v0.1.2.2.2.1.inn v0.1.2.2.2.1.pl.A v0.1.2.2.2.1.pl.B v0.1.2.2.2.1.pl.C v0.1.2.2.2.1.pl.D v0.1.2.2.2.1.kids v0.1.2.2.2.2.1.inn v0.1.2.2.2.2.1.pl.A v0.1.2.2.2.2.1.pl.B v0.1.2.2.2.2.1.pl.C v0.1.2.2.2.2.1.pl.D v0.1.2.2.2.2.1.kids v0.1.2.2.2.2.2.1.inn v0.1.2.2.2.2.2.1.pl.A v0.1.2.2.2.2.2.1.pl.B v0.1.2.2.2.2.2.1.pl.C v0.1.2.2.2.2.2.1.pl.D v0.1.2.2.2.2.2.1.kids v0.1.2.2.2.2.2.2.1.inn v0.1.2.2.2.2.2.2.1.pl.A v0.1.2.2.2.2.2.2.1.pl.B v0.1.2.2.2.2.2.2.1.pl.C v0.1.2.2.2.2.2.2.1.pl.D v0.1.2.2.2.2.2.2.1.kids v1.inn v1.pl.A v1.pl.B v1.pl.C v1.pl.D v1.kids v0.2.1 v0.2.2.1 v0.2.2.2.1 v0.2.2.2.2.1 v0.2.2.2.2.2.1 v0.2.2.2.2.2.2.1 v0.2.2.2.2.2.2.2.1 true r h) 
 exact absurd h (by simp)
end Evl.T
