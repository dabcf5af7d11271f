
/- Walks. No condition. -/
import Derived.Test.YtaaljnljnkdiaaaGreatWx
namespace Evl.T
open Go Evl Go.Proofs
set_option maxRecDepth 100000
def Dimpl_merger_take_b(n:Nat)(self1:((Int×Int×Bool)×Bool×Sol×(List Pl))→Option (Sol×(Int×Int×Bool)))(a:((Int×Int×Bool)×Bool×Sol×(List Pl))):Option (Sol×(Int×Int×Bool)) :=
 match a with
 | (a0,a1,a2,a3)=>frk a0.2.2 (some ((Sol.mk false (Pl.mk 0 0 0 0) []),a0)) ((Dimpl_Solid_isLeaf a2).bind fun v0=>frk v0 ((Dimpl_merger_leaf a0 a1 a2.inn).bind fun v1=>some v1) ((Dimpl_flip a2.pl).bind fun v2=>(Dimpl_room n a3 v2).bind fun v3=>frk (!v3) ((lget a2.kids 0).bind fun v4=>(self1 (a0,a1,v4,a3)).bind fun v5=>some v5) ((Dimpl_room n a3 a2.pl).bind fun v6=>frk (!v6) ((lget a2.kids 1).bind fun v7=>(self1 (a0,a1,v7,a3)).bind fun v8=>some v8) (frk (decide ((a3.length:Int)≥24)) (some ((Sol.mk false (Pl.mk 0 0 0 0) []),(a0.1,a0.2.1,true))) ((lget a2.kids 0).bind fun v9=>(Dimpl_with a3 a2.pl).bind fun v10=>(self1 (a0,a1,v9,v10)).bind fun v11=>(lget a2.kids 1).bind fun v12=>(Dimpl_with a3 v2).bind fun v13=>(self1 (v11.2,a1,v12,v13)).bind fun v14=>(Dimpl_merger_joino2o3 v14.2 a2.pl v11.1 v14.1).bind fun v15=>some v15)))))
def Dimpl_merger_take(n:Nat)(a0:(Int×Int×Bool))(a1:Bool)(a2:Sol)(a3:(List Pl)):Option (Sol×(Int×Int×Bool)):=loopN (Dimpl_merger_take_b n) n (a0,a1,a2,a3)
theorem Timpl_merger_take_b{Y}(n:Nat):∀(m:Nat) (a:((Int×Int×Bool)×Bool×Sol×(List Pl))) (r:(Sol×(Int×Int×Bool))),loopN (Dimpl_merger_take_b n) m a=some r→∀(_:Unit),Big Tryz.prog H Y (.call 184 [.ptr 1000 0,bl a.2.1,eF a.2.2.1,.sl false 4 a.2.2.2.length ((ePl).f a.2.2.2)] (lk [(1000,⟨true,0,[i64 a.1.1,i64 a.1.2.1,bl a.1.2.2]⟩)]) (eS r.1) (lk [(1000,⟨true,0,[i64 r.2.1,i64 r.2.2.1,bl r.2.2.2]⟩)])):=by
 refine loopN_ind (fun self1 hs a r h=>?_)
 have hself1:∀(a:((Int×Int×Bool)×Bool×Sol×(List Pl))) (r:(Sol×(Int×Int×Bool))),self1 a=some r→Big Tryz.prog H Y (.call 184 [.ptr 1000 0,bl a.2.1,eF a.2.2.1,.sl false 4 a.2.2.2.length ((ePl).f a.2.2.2)] (lk [(1000,⟨true,0,[i64 a.1.1,i64 a.1.2.1,bl a.1.2.2]⟩)]) (eS r.1) (lk [(1000,⟨true,0,[i64 r.2.1,i64 r.2.2.1,bl r.2.2.2]⟩)])):=fun a r h=>hs a r h ()
 intro _
 obtain⟨a0,a1,a2,a3⟩:=a
 unfold Dimpl_merger_take_b at h
 refine x_call (fn:=Tryz.f184) (c:=bodyOf Tryz.f184) (bs0:=[(1000,⟨true,0,[.bad,.bad,.bad]⟩)]) Tryz.func184 (by kernel_rfl) (by kernel_rfl) ?_
 refine x_frk 13 [] onil h (by kernel_rfl) (fun h=>?_) (fun h=>?_)
 ·replace h:=sj h;subst h
  exact x_end 5 [] [(true,6)] onil onil 
 ·obtain⟨v0,y0,h⟩:=bm h
  refine x_frk 6 [(0,.call [] [] (bl v0) [])] (ocons (Timpl_Solid_isLeaf (Y:=Y) a2 [] _ y0) onil) h (by kernel_rfl) (fun h=>?_) (fun h=>?_)
  ·obtain⟨v1,y1,h⟩:=bm h
   replace h:=sj h;subst h
   exact x_end 9 [(4,.call [] [] (eS v1.1) [(1000,⟨true,0,[i64 v1.2.1,i64 v1.2.2.1,bl v1.2.2.2]⟩)])] [] (ocons (Timpl_merger_leaf (Y:=Y) a0 a1 a2.inn _ y1) onil) onil 
  ·obtain⟨v2,y2,h⟩:=bm h
   obtain⟨v3,y3,h⟩:=bm h
   refine x_frk 19 [(2,.call [] [] (.agg [i64 v2.A,i64 v2.B,i64 v2.C,i64 v2.D]) []),(4,.call [] [] (bl v3) [])] (ocons (Timpl_flip (Y:=Y) a2.pl _ y2) (ocons (Timpl_room (Y:=Y) n a3 v2 _ y3) onil)) h (by kernel_rfl) (fun h=>?_) (fun h=>?_)
   ·obtain⟨v4,y4,h⟩:=bm h
    obtain⟨v5,y5,h⟩:=bm h
    replace h:=sj h;subst h
    exact x_end 12 [(4,.val (.cptr ((eSol false).c v4++(eSol false).f ((a2.kids).drop (Int.toNat 0+1))))),(2,.call [] [] (eS v5.1) [(1000,⟨true,0,[i64 v5.2.1,i64 v5.2.2.1,bl v5.2.2.2]⟩)])] [] (ocons (ix (eSol false) y4) (ocons (hself1 (a0,a1,v4,a3) _ y5) onil)) onil 
   ·obtain⟨v6,y6,h⟩:=bm h
    refine x_frk 9 [(3,.call [] [] (bl v6) [])] (ocons (Timpl_room (Y:=Y) n a3 a2.pl _ y6) onil) h (by kernel_rfl) (fun h=>?_) (fun h=>?_)
    ·obtain⟨v7,y7,h⟩:=bm h
     obtain⟨v8,y8,h⟩:=bm h
     replace h:=sj h;subst h
     exact x_end 12 [(4,.val (.cptr ((eSol false).c v7++(eSol false).f ((a2.kids).drop (Int.toNat 1+1))))),(2,.call [] [] (eS v8.1) [(1000,⟨true,0,[i64 v8.2.1,i64 v8.2.2.1,bl v8.2.2.2]⟩)])] [] (ocons (ix (eSol false) y7) (ocons (hself1 (a0,a1,v7,a3) _ y8) onil)) onil 
    ·refine x_frk 7 [] onil h (by kernel_rfl) (fun h=>?_) (fun h=>?_)
     ·replace h:=sj h;subst h
      exact x_end 12 [] [(true,6)] onil onil 
     ·obtain⟨v9,y9,h⟩:=bm h
      obtain⟨v10,y10,h⟩:=bm h
      obtain⟨v11,y11,h⟩:=bm h
      obtain⟨v12,y12,h⟩:=bm h
      obtain⟨v13,y13,h⟩:=bm h
      obtain⟨v14,y14,h⟩:=bm h
      obtain⟨v15,y15,h⟩:=bm h
      replace h:=sj h;subst h
      exact x_end 43 [(4,.val (.cptr ((eSol false).c v9++(eSol false).f ((a2.kids).drop (Int.toNat 0+1))))),(4,.call [] [] (.sl false 4 v10.length ((ePl).f v10)) []),(0,.call [] [] (eS v11.1) [(1000,⟨true,0,[i64 v11.2.1,i64 v11.2.2.1,bl v11.2.2.2]⟩)]),(6,.val (.cptr ((eSol false).c v12++(eSol false).f ((a2.kids).drop (Int.toNat 1+1))))),(3,.call [] [] (.sl false 4 v13.length ((ePl).f v13)) []),(0,.call [] [] (eS v14.1) [(1000,⟨true,0,[i64 v14.2.1,i64 v14.2.2.1,bl v14.2.2.2]⟩)]),(7,.call [] [] (eS v15.1) [(1000,⟨true,0,[i64 v15.2.1,i64 v15.2.2.1,bl v15.2.2.2]⟩)])] [] (ocons (ix (eSol false) y9) (ocons (shSl (L:=v10) ePl ePl sPl (Timpl_with (Y:=Y) a3 a2.pl _ y10)) (ocons (hself1 (a0,a1,v9,v10) _ y11) (ocons (ix (eSol false) y12) (ocons (shSl (L:=v13) ePl ePl sPl (Timpl_with (Y:=Y) a3 v2 _ y13)) (ocons (hself1 (v11.2,a1,v12,v13) _ y14) (ocons (Timpl_merger_joino2o3 (Y:=Y) v14.2 a2.pl v11.1 v14.1 _ y15) onil))))))) onil 
theorem Timpl_merger_take{Y}(n:Nat)(a0:(Int×Int×Bool))(a1:Bool)(a2:Sol)(a3:(List Pl))(r:(Sol×(Int×Int×Bool)))(h:Dimpl_merger_take n a0 a1 a2 a3=some r):Big Tryz.prog H Y (.call 184 [.ptr 1000 0,bl a1,eF a2,.sl false 4 a3.length ((ePl).f a3)] (lk [(1000,⟨true,0,[i64 a0.1,i64 a0.2.1,bl a0.2.2]⟩)]) (eS r.1) (lk [(1000,⟨true,0,[i64 r.2.1,i64 r.2.2.1,bl r.2.2.2]⟩)])):=Timpl_merger_take_b n n (a0,a1,a2,a3) r h ()
def Dimpl_merger_put_b(n:Nat)(self:((Int×Int×Bool)×Sol×Sol×(List Pl))→Option (Sol×(Int×Int×Bool)))(a:((Int×Int×Bool)×Sol×Sol×(List Pl))):Option (Sol×(Int×Int×Bool)) :=
 match a with
 | (a0,a1,a2,a3)=>frk a0.2.2 (some ((Sol.mk false (Pl.mk 0 0 0 0) []),a0)) ((Dimpl_Solid_isLeaf a1).bind fun v0=>frk v0 ((Dimpl_merger_take n a0 a1.inn a2 a3).bind fun v1=>some v1) ((lget a1.kids 0).bind fun v2=>(Dimpl_with a3 a1.pl).bind fun v3=>(self (a0,v2,a2,v3)).bind fun v4=>(lget a1.kids 1).bind fun v5=>(Dimpl_flip a1.pl).bind fun v6=>(Dimpl_with a3 v6).bind fun v7=>(self (v4.2,v5,a2,v7)).bind fun v8=>(Dimpl_merger_joino2o3 v8.2 a1.pl v4.1 v8.1).bind fun v9=>some v9))
def Dimpl_merger_put(n:Nat)(a0:(Int×Int×Bool))(a1:Sol)(a2:Sol)(a3:(List Pl)):Option (Sol×(Int×Int×Bool)):=loopN (Dimpl_merger_put_b n) n (a0,a1,a2,a3)
theorem Timpl_merger_put_b{Y}(n:Nat):∀(m:Nat) (a:((Int×Int×Bool)×Sol×Sol×(List Pl))) (r:(Sol×(Int×Int×Bool))),loopN (Dimpl_merger_put_b n) m a=some r→∀(_:Unit),Big Tryz.prog H Y (.call 125 [.ptr 1000 0,eF a.2.1,eF a.2.2.1,.sl false 4 a.2.2.2.length ((ePl).f a.2.2.2)] (lk [(1000,⟨true,0,[i64 a.1.1,i64 a.1.2.1,bl a.1.2.2]⟩)]) (eS r.1) (lk [(1000,⟨true,0,[i64 r.2.1,i64 r.2.2.1,bl r.2.2.2]⟩)])):=by
 refine loopN_ind (fun self hs a r h=>?_)
 have hself:∀(a:((Int×Int×Bool)×Sol×Sol×(List Pl))) (r:(Sol×(Int×Int×Bool))),self a=some r→Big Tryz.prog H Y (.call 125 [.ptr 1000 0,eF a.2.1,eF a.2.2.1,.sl false 4 a.2.2.2.length ((ePl).f a.2.2.2)] (lk [(1000,⟨true,0,[i64 a.1.1,i64 a.1.2.1,bl a.1.2.2]⟩)]) (eS r.1) (lk [(1000,⟨true,0,[i64 r.2.1,i64 r.2.2.1,bl r.2.2.2]⟩)])):=fun a r h=>hs a r h ()
 intro _
 obtain⟨a0,a1,a2,a3⟩:=a
 unfold Dimpl_merger_put_b at h
 refine x_call (fn:=Tryz.f125) (c:=bodyOf Tryz.f125) (bs0:=[(1000,⟨true,0,[.bad,.bad,.bad]⟩)]) Tryz.func125 (by kernel_rfl) (by kernel_rfl) ?_
 refine x_frk 14 [] onil h (by kernel_rfl) (fun h=>?_) (fun h=>?_)
 ·replace h:=sj h;subst h
  exact x_end 5 [] [(true,6)] onil onil 
 ·obtain⟨v0,y0,h⟩:=bm h
  refine x_frk 6 [(0,.call [] [] (bl v0) [])] (ocons (Timpl_Solid_isLeaf (Y:=Y) a1 [] _ y0) onil) h (by kernel_rfl) (fun h=>?_) (fun h=>?_)
  ·obtain⟨v1,y1,h⟩:=bm h
   replace h:=sj h;subst h
   exact x_end 10 [(5,.call [] [] (eS v1.1) [(1000,⟨true,0,[i64 v1.2.1,i64 v1.2.2.1,bl v1.2.2.2]⟩)])] [] (ocons (Timpl_merger_take (Y:=Y) n a0 a1.inn a2 a3 _ y1) onil) onil 
  ·obtain⟨v2,y2,h⟩:=bm h
   obtain⟨v3,y3,h⟩:=bm h
   obtain⟨v4,y4,h⟩:=bm h
   obtain⟨v5,y5,h⟩:=bm h
   obtain⟨v6,y6,h⟩:=bm h
   obtain⟨v7,y7,h⟩:=bm h
   obtain⟨v8,y8,h⟩:=bm h
   obtain⟨v9,y9,h⟩:=bm h
   replace h:=sj h;subst h
   exact x_end 44 [(3,.val (.cptr ((eSol false).c v2++(eSol false).f ((a1.kids).drop (Int.toNat 0+1))))),(5,.call [] [] (.sl false 4 v3.length ((ePl).f v3)) []),(0,.call [] [] (eS v4.1) [(1000,⟨true,0,[i64 v4.2.1,i64 v4.2.2.1,bl v4.2.2.2]⟩)]),(5,.val (.cptr ((eSol false).c v5++(eSol false).f ((a1.kids).drop (Int.toNat 1+1))))),(5,.call [] [] (.agg [i64 v6.A,i64 v6.B,i64 v6.C,i64 v6.D]) []),(0,.call [] [] (.sl false 4 v7.length ((ePl).f v7)) []),(0,.call [] [] (eS v8.1) [(1000,⟨true,0,[i64 v8.2.1,i64 v8.2.2.1,bl v8.2.2.2]⟩)]),(7,.call [] [] (eS v9.1) [(1000,⟨true,0,[i64 v9.2.1,i64 v9.2.2.1,bl v9.2.2.2]⟩)])] [] (ocons (ix (eSol false) y2) (ocons (shSl (L:=v3) ePl ePl sPl (Timpl_with (Y:=Y) a3 a1.pl _ y3)) (ocons (hself (a0,v2,a2,v3) _ y4) (ocons (ix (eSol false) y5) (ocons (Timpl_flip (Y:=Y) a1.pl _ y6) (ocons (shSl (L:=v7) ePl ePl sPl (Timpl_with (Y:=Y) a3 v6 _ y7)) (ocons (hself (v4.2,v5,a2,v7) _ y8) (ocons (Timpl_merger_joino2o3 (Y:=Y) v8.2 a1.pl v4.1 v8.1 _ y9) onil)))))))) onil 
theorem Timpl_merger_put{Y}(n:Nat)(a0:(Int×Int×Bool))(a1:Sol)(a2:Sol)(a3:(List Pl))(r:(Sol×(Int×Int×Bool)))(h:Dimpl_merger_put n a0 a1 a2 a3=some r):Big Tryz.prog H Y (.call 125 [.ptr 1000 0,eF a1,eF a2,.sl false 4 a3.length ((ePl).f a3)] (lk [(1000,⟨true,0,[i64 a0.1,i64 a0.2.1,bl a0.2.2]⟩)]) (eS r.1) (lk [(1000,⟨true,0,[i64 r.2.1,i64 r.2.2.1,bl r.2.2.2]⟩)])):=Timpl_merger_put_b n n (a0,a1,a2,a3) r h ()
def Dimpl_put(n:Nat)(a0:Sol)(a1:Sol)(a2:Int):Option (Sol×Bool) :=
 (Dimpl_merger_put n (a2,0,false) a0 a1 []).bind fun v0=>frk v0.2.2.2 ((Dimpl_Leaf false).bind fun v1=>some (v1,false)) (some (v0.1,true))
theorem Timpl_put{Y}(n:Nat)(a0:Sol)(a1:Sol)(a2:Int)(r:(Sol×Bool))(h:Dimpl_put n a0 a1 a2=some r):Big Tryz.prog H Y (.call 62 [eF a0,eF a1,i64 a2] (lk []) (.tup [eS r.1,bl r.2]) (lk [])):=by
 unfold Dimpl_put at h
 refine x_call (fn:=Tryz.f62) (c:=bodyOf Tryz.f62) (bs0:=[]) Tryz.func62 (by kernel_rfl) (by kernel_rfl) ?_
 obtain⟨v0,y0,h⟩:=bm h
 refine x_frk 28 [(10,.call [(false,4)] [] (eS v0.1) [(1000,⟨true,0,[i64 v0.2.1,i64 v0.2.2.1,bl v0.2.2.2]⟩)])] (ocons (Timpl_merger_put (Y:=Y) n (a2,0,false) a0 a1 [] _ y0) onil) h (by kernel_rfl) (fun h=>?_) (fun h=>?_)
 ·obtain⟨v1,y1,h⟩:=bm h
  replace h:=sj h;subst h
  exact x_end 6 [(0,.call [] [] (eS v1) [])] [] (ocons (Timpl_Leaf (Y:=Y) false _ y1) onil) onil 
 ·replace h:=sj h;subst h
  exact x_end 7 [] [] onil onil 
def Dimpl_tidy_b(n:Nat)(self:Sol→Option Sol)(a:Sol):Option Sol :=
 match a with
 | a0=>(Dimpl_Solid_isLeaf a0).bind fun v0=>frk v0 ((Dimpl_Leaf a0.inn).bind fun v1=>some v1) ((lget a0.kids 0).bind fun v2=>(self v2).bind fun v3=>(lget a0.kids 1).bind fun v4=>(self v4).bind fun v5=>(Dimpl_SameTree n v3 v5).bind fun v6=>frk v6 (some v3) ((Dimpl_nodeo1o2 a0.pl v3 v5).bind fun v7=>some v7))
def Dimpl_tidy(n:Nat)(a0:Sol):Option Sol:=loopN (Dimpl_tidy_b n) n a0
theorem Timpl_tidy_b{Y}(n:Nat):∀(m:Nat) (a:Sol) (r:Sol),loopN (Dimpl_tidy_b n) m a=some r→∀(_:Unit),Big Tryz.prog H Y (.call 64 [eF a] (lk []) (eS r) (lk [])):=by
 refine loopN_ind (fun self hs a r h=>?_)
 have hself:∀(a:Sol) (r:Sol),self a=some r→Big Tryz.prog H Y (.call 64 [eF a] (lk []) (eS r) (lk [])):=fun a r h=>hs a r h ()
 intro _
 obtain⟨a0,rfl⟩:∃x,x=a:=⟨a,rfl⟩
 unfold Dimpl_tidy_b at h
 refine x_call (fn:=Tryz.f64) (c:=bodyOf Tryz.f64) (bs0:=[]) Tryz.func64 (by kernel_rfl) (by kernel_rfl) ?_
 obtain⟨v0,y0,h⟩:=bm h
 refine x_frk 10 [(2,.call [] [] (bl v0) [])] (ocons (Timpl_Solid_isLeaf (Y:=Y) a0 [] _ y0) onil) h (by kernel_rfl) (fun h=>?_) (fun h=>?_)
 ·obtain⟨v1,y1,h⟩:=bm h
  replace h:=sj h;subst h
  exact x_end 7 [(2,.call [] [] (eS v1) [])] [] (ocons (Timpl_Leaf (Y:=Y) a0.inn _ y1) onil) onil 
 ·obtain⟨v2,y2,h⟩:=bm h
  obtain⟨v3,y3,h⟩:=bm h
  obtain⟨v4,y4,h⟩:=bm h
  obtain⟨v5,y5,h⟩:=bm h
  obtain⟨v6,y6,h⟩:=bm h
  refine x_frk 25 [(2,.val (.cptr ((eSol false).c v2++(eSol false).f ((a0.kids).drop (Int.toNat 0+1))))),(1,.call [] [] (eS v3) []),(2,.val (.cptr ((eSol false).c v4++(eSol false).f ((a0.kids).drop (Int.toNat 1+1))))),(1,.call [] [] (eS v5) []),(4,.rows [(eSol false).f v3.kids]),(0,.rows [(eSol false).f v5.kids]),(0,.call [] [] (bl v6) [])] (ocons (ix (eSol false) y2) (ocons (hself v2 _ y3) (ocons (ix (eSol false) y4) (ocons (hself v4 _ y5) (ocons (Enc.share (eSol true) (eSol false) (sSol true) v3.kids) (ocons (Enc.share (eSol true) (eSol false) (sSol true) v5.kids) (ocons (Timpl_SameTree (Y:=Y) n v3 v5 _ y6) onil))))))) h (by kernel_rfl) (fun h=>?_) (fun h=>?_)
  ·replace h:=sj h;subst h
   exact x_end 5 [] [] onil onil 
  ·obtain⟨v7,y7,h⟩:=bm h
   replace h:=sj h;subst h
   exact x_end 10 [(4,.call [] [] (eS v7) [])] [] (ocons (Timpl_nodeo1o2 (Y:=Y) a0.pl v3 v5 _ y7) onil) onil 
theorem Timpl_tidy{Y}(n:Nat)(a0:Sol)(r:Sol)(h:Dimpl_tidy n a0=some r):Big Tryz.prog H Y (.call 64 [eF a0] (lk []) (eS r) (lk [])):=Timpl_tidy_b n n a0 r h ()
def Dimpl_keep_0(n:Nat)(a0:Dsk)(zv:Bool)(zw zx zar zas:Int)(zba:List Sol)(zbb:Bool)(zbc zbd zbe zbf:Int)(zbg:List Sol)(zbh:Bool)(zbi zbj zbk zbl:Int)(zbm:List Sol)(zbn:Bool)(zbo zbp zbq zbr:Int)(zbs:List Sol)(zbt:Bool)(zbu zbv zbw zbx:Int)(zby:List Sol)(zbz:Bool)(zca zcb zcc zcd:Int)(zce:List Sol)(zcf:Bool)(zcg zch zci zcj:Int)(zck:List Sol)(zcl:Bool)(zcm zcn zco zcp:Int)(zcq:List Sol)(zcr zcs zct zcu zcv zcw zcx zcy:Bool):Option (Dsk×Int) :=
 (Dimpl_Desk_held n (((Sol.mk zv (Pl.mk zw zx zar zas) zba),(Sol.mk zbb (Pl.mk zbc zbd zbe zbf) zbg),(Sol.mk zbh (Pl.mk zbi zbj zbk zbl) zbm),(Sol.mk zbn (Pl.mk zbo zbp zbq zbr) zbs),(Sol.mk zbt (Pl.mk zbu zbv zbw zbx) zby),(Sol.mk zbz (Pl.mk zca zcb zcc zcd) zce),(Sol.mk zcf (Pl.mk zcg zch zci zcj) zck),(Sol.mk zcl (Pl.mk zcm zcn zco zcp) zcq)),(zcr,zcs,zct,zcu,zcv,zcw,zcx,zcy))).bind fun v2=>frk (decide (v2>900)) ((Dimpl_copyDesk n a0).bind fun v3=>some (v3,3)) (some ((((Sol.mk zv (Pl.mk zw zx zar zas) zba),(Sol.mk zbb (Pl.mk zbc zbd zbe zbf) zbg),(Sol.mk zbh (Pl.mk zbi zbj zbk zbl) zbm),(Sol.mk zbn (Pl.mk zbo zbp zbq zbr) zbs),(Sol.mk zbt (Pl.mk zbu zbv zbw zbx) zby),(Sol.mk zbz (Pl.mk zca zcb zcc zcd) zce),(Sol.mk zcf (Pl.mk zcg zch zci zcj) zck),(Sol.mk zcl (Pl.mk zcm zcn zco zcp) zcq)),(zcr,zcs,zct,zcu,zcv,zcw,zcx,zcy)),0))
theorem Timpl_keep_0{Y}(n:Nat)(a0:Dsk)(zv:Bool)(zw zx zar zas:Int)(zba:List Sol)(zbb:Bool)(zbc zbd zbe zbf:Int)(zbg:List Sol)(zbh:Bool)(zbi zbj zbk zbl:Int)(zbm:List Sol)(zbn:Bool)(zbo zbp zbq zbr:Int)(zbs:List Sol)(zbt:Bool)(zbu zbv zbw zbx:Int)(zby:List Sol)(zbz:Bool)(zca zcb zcc zcd:Int)(zce:List Sol)(zcf:Bool)(zcg zch zci zcj:Int)(zck:List Sol)(zcl:Bool)(zcm zcn zco zcp:Int)(zcq:List Sol)(zcr zcs zct zcu zcv zcw zcx zcy:Bool)(r:(Dsk×Int))(h:Dimpl_keep_0 n a0 zv zw zx zar zas zba zbb zbc zbd zbe zbf zbg zbh zbi zbj zbk zbl zbm zbn zbo zbp zbq zbr zbs zbt zbu zbv zbw zbx zby zbz zca zcb zcc zcd zce zcf zcg zch zci zcj zck zcl zcm zcn zco zcp zcq zcr zcs zct zcu zcv zcw zcx zcy=some r):Wk Tryz.prog H Y 63 [.code (cp [1,1,1,0,0] (bodyOf Tryz.f63)),.code (cp [1,1,1,0,1] (bodyOf Tryz.f63)),.code (cp [1,1,1,1] (bodyOf Tryz.f63))] (FinX Tryz.prog Tryz.f63 [] (.tup [.agg (cT38o r.1),i64 r.2]) []) ⟨[(3,.ptr 3 0),(6,.ptr 6 0),(8,.ptr 8 0)],[(3,⟨true,0,(cT38 a0)⟩),(6,⟨true,0,[bl false,i64 0,i64 0,i64 0,i64 0,.nil,bl false,i64 0,i64 0,i64 0,i64 0,.nil,bl false,i64 0,i64 0,i64 0,i64 0,.nil,bl false,i64 0,i64 0,i64 0,i64 0,.nil,bl false,i64 0,i64 0,i64 0,i64 0,.nil,bl false,i64 0,i64 0,i64 0,i64 0,.nil,bl false,i64 0,i64 0,i64 0,i64 0,.nil,bl false,i64 0,i64 0,i64 0,i64 0,.nil,bl false,bl false,bl false,bl false,bl false,bl false,bl false,bl false]⟩),(8,⟨true,0,[bl zv,i64 zw,i64 zx,i64 zar,i64 zas,.sl true 6 zba.length ((eSol true).f zba),bl zbb,i64 zbc,i64 zbd,i64 zbe,i64 zbf,.sl true 6 zbg.length ((eSol true).f zbg),bl zbh,i64 zbi,i64 zbj,i64 zbk,i64 zbl,.sl true 6 zbm.length ((eSol true).f zbm),bl zbn,i64 zbo,i64 zbp,i64 zbq,i64 zbr,.sl true 6 zbs.length ((eSol true).f zbs),bl zbt,i64 zbu,i64 zbv,i64 zbw,i64 zbx,.sl true 6 zby.length ((eSol true).f zby),bl zbz,i64 zca,i64 zcb,i64 zcc,i64 zcd,.sl true 6 zce.length ((eSol true).f zce),bl zcf,i64 zcg,i64 zch,i64 zci,i64 zcj,.sl true 6 zck.length ((eSol true).f zck),bl zcl,i64 zcm,i64 zcn,i64 zco,i64 zcp,.sl true 6 zcq.length ((eSol true).f zcq),bl zcr,bl zcs,bl zct,bl zcu,bl zcv,bl zcw,bl zcx,bl zcy]⟩)]⟩:=by
 unfold Dimpl_keep_0 at h
 obtain⟨v2,y2,h⟩:=bm h
 refine x_frk 4 [(0,.call [] [(eSol false).f zba,(eSol false).f zbg,(eSol false).f zbm,(eSol false).f zbs,(eSol false).f zby,(eSol false).f zce,(eSol false).f zck,(eSol false).f zcq] (i64 v2) [])] (ocons (Timpl_Desk_held (Y:=Y) n (((Sol.mk zv (Pl.mk zw zx zar zas) zba),(Sol.mk zbb (Pl.mk zbc zbd zbe zbf) zbg),(Sol.mk zbh (Pl.mk zbi zbj zbk zbl) zbm),(Sol.mk zbn (Pl.mk zbo zbp zbq zbr) zbs),(Sol.mk zbt (Pl.mk zbu zbv zbw zbx) zby),(Sol.mk zbz (Pl.mk zca zcb zcc zcd) zce),(Sol.mk zcf (Pl.mk zcg zch zci zcj) zck),(Sol.mk zcl (Pl.mk zcm zcn zco zcp) zcq)),(zcr,zcs,zct,zcu,zcv,zcw,zcx,zcy)) [] _ y2) (ocons (Enc.share (eSol true) (eSol false) (sSol true) zba) (ocons (Enc.share (eSol true) (eSol false) (sSol true) zbg) (ocons (Enc.share (eSol true) (eSol false) (sSol true) zbm) (ocons (Enc.share (eSol true) (eSol false) (sSol true) zbs) (ocons (Enc.share (eSol true) (eSol false) (sSol true) zby) (ocons (Enc.share (eSol true) (eSol false) (sSol true) zce) (ocons (Enc.share (eSol true) (eSol false) (sSol true) zck) (ocons (Enc.share (eSol true) (eSol false) (sSol true) zcq) onil))))))))) h (by kernel_rfl) (fun h=>?_) (fun h=>?_)
 ·obtain⟨v3,y3,h⟩:=bm h
  replace h:=sj h;subst h
  exact x_end 7 [(1,.call [] [] (.agg (cT38o v3)) [])] [] (ocons (Timpl_copyDesk (Y:=Y) n a0 _ y3) onil) onil 
 ·replace h:=sj h;subst h
  exact x_end 7 [] [] onil onil 
def Dimpl_keep(n:Nat)(a0:Dsk)(a1:Int)(a2:Sol):Option (Dsk×Int) :=
 (Dimpl_copyDesk n a0).bind fun v0=>(Dimpl_copySolid n a2).bind fun v1=>frk (a1==0) (Dimpl_keep_0 n a0 v1.inn v1.pl.A v1.pl.B v1.pl.C v1.pl.D v1.kids v0.1.2.1.inn v0.1.2.1.pl.A v0.1.2.1.pl.B v0.1.2.1.pl.C v0.1.2.1.pl.D v0.1.2.1.kids v0.1.2.2.1.inn v0.1.2.2.1.pl.A v0.1.2.2.1.pl.B v0.1.2.2.1.pl.C v0.1.2.2.1.pl.D v0.1.2.2.1.kids v0.1.2.2.2.1.inn v0.1.2.2.2.1.pl.A v0.1.2.2.2.1.pl.B v0.1.2.2.2.1.pl.C v0.1.2.2.2.1.pl.D v0.1.2.2.2.1.kids v0.1.2.2.2.2.1.inn v0.1.2.2.2.2.1.pl.A v0.1.2.2.2.2.1.pl.B v0.1.2.2.2.2.1.pl.C v0.1.2.2.2.2.1.pl.D v0.1.2.2.2.2.1.kids v0.1.2.2.2.2.2.1.inn v0.1.2.2.2.2.2.1.pl.A v0.1.2.2.2.2.2.1.pl.B v0.1.2.2.2.2.2.1.pl.C v0.1.2.2.2.2.2.1.pl.D v0.1.2.2.2.2.2.1.kids v0.1.2.2.2.2.2.2.1.inn v0.1.2.2.2.2.2.2.1.pl.A v0.1.2.2.2.2.2.2.1.pl.B v0.1.2.2.2.2.2.2.1.pl.C v0.1.2.2.2.2.2.2.1.pl.D v0.1.2.2.2.2.2.2.1.kids v0.1.2.2.2.2.2.2.2.inn v0.1.2.2.2.2.2.2.2.pl.A v0.1.2.2.2.2.2.2.2.pl.B v0.1.2.2.2.2.2.2.2.pl.C v0.1.2.2.2.2.2.2.2.pl.D v0.1.2.2.2.2.2.2.2.kids true v0.2.2.1 v0.2.2.2.1 v0.2.2.2.2.1 v0.2.2.2.2.2.1 v0.2.2.2.2.2.2.1 v0.2.2.2.2.2.2.2.1 v0.2.2.2.2.2.2.2.2) (frk (a1==1) (Dimpl_keep_0 n a0 v0.1.1.inn v0.1.1.pl.A v0.1.1.pl.B v0.1.1.pl.C v0.1.1.pl.D v0.1.1.kids v1.inn v1.pl.A v1.pl.B v1.pl.C v1.pl.D v1.kids v0.1.2.2.1.inn v0.1.2.2.1.pl.A v0.1.2.2.1.pl.B v0.1.2.2.1.pl.C v0.1.2.2.1.pl.D v0.1.2.2.1.kids v0.1.2.2.2.1.inn v0.1.2.2.2.1.pl.A v0.1.2.2.2.1.pl.B v0.1.2.2.2.1.pl.C v0.1.2.2.2.1.pl.D v0.1.2.2.2.1.kids v0.1.2.2.2.2.1.inn v0.1.2.2.2.2.1.pl.A v0.1.2.2.2.2.1.pl.B v0.1.2.2.2.2.1.pl.C v0.1.2.2.2.2.1.pl.D v0.1.2.2.2.2.1.kids v0.1.2.2.2.2.2.1.inn v0.1.2.2.2.2.2.1.pl.A v0.1.2.2.2.2.2.1.pl.B v0.1.2.2.2.2.2.1.pl.C v0.1.2.2.2.2.2.1.pl.D v0.1.2.2.2.2.2.1.kids v0.1.2.2.2.2.2.2.1.inn v0.1.2.2.2.2.2.2.1.pl.A v0.1.2.2.2.2.2.2.1.pl.B v0.1.2.2.2.2.2.2.1.pl.C v0.1.2.2.2.2.2.2.1.pl.D v0.1.2.2.2.2.2.2.1.kids v0.1.2.2.2.2.2.2.2.inn v0.1.2.2.2.2.2.2.2.pl.A v0.1.2.2.2.2.2.2.2.pl.B v0.1.2.2.2.2.2.2.2.pl.C v0.1.2.2.2.2.2.2.2.pl.D v0.1.2.2.2.2.2.2.2.kids v0.2.1 true v0.2.2.2.1 v0.2.2.2.2.1 v0.2.2.2.2.2.1 v0.2.2.2.2.2.2.1 v0.2.2.2.2.2.2.2.1 v0.2.2.2.2.2.2.2.2) (frk (a1==2) (Dimpl_keep_0 n a0 v0.1.1.inn v0.1.1.pl.A v0.1.1.pl.B v0.1.1.pl.C v0.1.1.pl.D v0.1.1.kids v0.1.2.1.inn v0.1.2.1.pl.A v0.1.2.1.pl.B v0.1.2.1.pl.C v0.1.2.1.pl.D v0.1.2.1.kids v1.inn v1.pl.A v1.pl.B v1.pl.C v1.pl.D v1.kids v0.1.2.2.2.1.inn v0.1.2.2.2.1.pl.A v0.1.2.2.2.1.pl.B v0.1.2.2.2.1.pl.C v0.1.2.2.2.1.pl.D v0.1.2.2.2.1.kids v0.1.2.2.2.2.1.inn v0.1.2.2.2.2.1.pl.A v0.1.2.2.2.2.1.pl.B v0.1.2.2.2.2.1.pl.C v0.1.2.2.2.2.1.pl.D v0.1.2.2.2.2.1.kids v0.1.2.2.2.2.2.1.inn v0.1.2.2.2.2.2.1.pl.A v0.1.2.2.2.2.2.1.pl.B v0.1.2.2.2.2.2.1.pl.C v0.1.2.2.2.2.2.1.pl.D v0.1.2.2.2.2.2.1.kids v0.1.2.2.2.2.2.2.1.inn v0.1.2.2.2.2.2.2.1.pl.A v0.1.2.2.2.2.2.2.1.pl.B v0.1.2.2.2.2.2.2.1.pl.C v0.1.2.2.2.2.2.2.1.pl.D v0.1.2.2.2.2.2.2.1.kids v0.1.2.2.2.2.2.2.2.inn v0.1.2.2.2.2.2.2.2.pl.A v0.1.2.2.2.2.2.2.2.pl.B v0.1.2.2.2.2.2.2.2.pl.C v0.1.2.2.2.2.2.2.2.pl.D v0.1.2.2.2.2.2.2.2.kids v0.2.1 v0.2.2.1 true v0.2.2.2.2.1 v0.2.2.2.2.2.1 v0.2.2.2.2.2.2.1 v0.2.2.2.2.2.2.2.1 v0.2.2.2.2.2.2.2.2) (frk (a1==3) (Dimpl_keep_0 n a0 v0.1.1.inn v0.1.1.pl.A v0.1.1.pl.B v0.1.1.pl.C v0.1.1.pl.D v0.1.1.kids v0.1.2.1.inn v0.1.2.1.pl.A v0.1.2.1.pl.B v0.1.2.1.pl.C v0.1.2.1.pl.D v0.1.2.1.kids v0.1.2.2.1.inn v0.1.2.2.1.pl.A v0.1.2.2.1.pl.B v0.1.2.2.1.pl.C v0.1.2.2.1.pl.D v0.1.2.2.1.kids v1.inn v1.pl.A v1.pl.B v1.pl.C v1.pl.D v1.kids v0.1.2.2.2.2.1.inn v0.1.2.2.2.2.1.pl.A v0.1.2.2.2.2.1.pl.B v0.1.2.2.2.2.1.pl.C v0.1.2.2.2.2.1.pl.D v0.1.2.2.2.2.1.kids v0.1.2.2.2.2.2.1.inn v0.1.2.2.2.2.2.1.pl.A v0.1.2.2.2.2.2.1.pl.B v0.1.2.2.2.2.2.1.pl.C v0.1.2.2.2.2.2.1.pl.D v0.1.2.2.2.2.2.1.kids v0.1.2.2.2.2.2.2.1.inn v0.1.2.2.2.2.2.2.1.pl.A v0.1.2.2.2.2.2.2.1.pl.B v0.1.2.2.2.2.2.2.1.pl.C v0.1.2.2.2.2.2.2.1.pl.D v0.1.2.2.2.2.2.2.1.kids v0.1.2.2.2.2.2.2.2.inn v0.1.2.2.2.2.2.2.2.pl.A v0.1.2.2.2.2.2.2.2.pl.B v0.1.2.2.2.2.2.2.2.pl.C v0.1.2.2.2.2.2.2.2.pl.D v0.1.2.2.2.2.2.2.2.kids v0.2.1 v0.2.2.1 v0.2.2.2.1 true v0.2.2.2.2.2.1 v0.2.2.2.2.2.2.1 v0.2.2.2.2.2.2.2.1 v0.2.2.2.2.2.2.2.2) (frk (a1==4) (Dimpl_keep_0 n a0 v0.1.1.inn v0.1.1.pl.A v0.1.1.pl.B v0.1.1.pl.C v0.1.1.pl.D v0.1.1.kids v0.1.2.1.inn v0.1.2.1.pl.A v0.1.2.1.pl.B v0.1.2.1.pl.C v0.1.2.1.pl.D v0.1.2.1.kids v0.1.2.2.1.inn v0.1.2.2.1.pl.A v0.1.2.2.1.pl.B v0.1.2.2.1.pl.C v0.1.2.2.1.pl.D v0.1.2.2.1.kids v0.1.2.2.2.1.inn v0.1.2.2.2.1.pl.A v0.1.2.2.2.1.pl.B v0.1.2.2.2.1.pl.C v0.1.2.2.2.1.pl.D v0.1.2.2.2.1.kids v1.inn v1.pl.A v1.pl.B v1.pl.C v1.pl.D v1.kids v0.1.2.2.2.2.2.1.inn v0.1.2.2.2.2.2.1.pl.A v0.1.2.2.2.2.2.1.pl.B v0.1.2.2.2.2.2.1.pl.C v0.1.2.2.2.2.2.1.pl.D v0.1.2.2.2.2.2.1.kids v0.1.2.2.2.2.2.2.1.inn v0.1.2.2.2.2.2.2.1.pl.A v0.1.2.2.2.2.2.2.1.pl.B v0.1.2.2.2.2.2.2.1.pl.C v0.1.2.2.2.2.2.2.1.pl.D v0.1.2.2.2.2.2.2.1.kids v0.1.2.2.2.2.2.2.2.inn v0.1.2.2.2.2.2.2.2.pl.A v0.1.2.2.2.2.2.2.2.pl.B v0.1.2.2.2.2.2.2.2.pl.C v0.1.2.2.2.2.2.2.2.pl.D v0.1.2.2.2.2.2.2.2.kids v0.2.1 v0.2.2.1 v0.2.2.2.1 v0.2.2.2.2.1 true v0.2.2.2.2.2.2.1 v0.2.2.2.2.2.2.2.1 v0.2.2.2.2.2.2.2.2) (frk (a1==5) (Dimpl_keep_0 n a0 v0.1.1.inn v0.1.1.pl.A v0.1.1.pl.B v0.1.1.pl.C v0.1.1.pl.D v0.1.1.kids v0.1.2.1.inn v0.1.2.1.pl.A v0.1.2.1.pl.B v0.1.2.1.pl.C v0.1.2.1.pl.D v0.1.2.1.kids v0.1.2.2.1.inn v0.1.2.2.1.pl.A v0.1.2.2.1.pl.B v0.1.2.2.1.pl.C v0.1.2.2.1.pl.D v0.1.2.2.1.kids v0.1.2.2.2.1.inn v0.1.2.2.2.1.pl.A v0.1.2.2.2.1.pl.B v0.1.2.2.2.1.pl.C v0.1.2.2.2.1.pl.D v0.1.2.2.2.1.kids v0.1.2.2.2.2.1.inn v0.1.2.2.2.2.1.pl.A v0.1.2.2.2.2.1.pl.B v0.1.2.2.2.2.1.pl.C v0.1.2.2.2.2.1.pl.D v0.1.2.2.2.2.1.kids v1.inn v1.pl.A v1.pl.B v1.pl.C v1.pl.D v1.kids v0.1.2.2.2.2.2.2.1.inn v0.1.2.2.2.2.2.2.1.pl.A v0.1.2.2.2.2.2.2.1.pl.B v0.1.2.2.2.2.2.2.1.pl.C v0.1.2.2.2.2.2.2.1.pl.D v0.1.2.2.2.2.2.2.1.kids v0.1.2.2.2.2.2.2.2.inn v0.1.2.2.2.2.2.2.2.pl.A v0.1.2.2.2.2.2.2.2.pl.B v0.1.2.2.2.2.2.2.2.pl.C v0.1.2.2.2.2.2.2.2.pl.D v0.1.2.2.2.2.2.2.2.kids v0.2.1 v0.2.2.1 v0.2.2.2.1 v0.2.2.2.2.1 v0.2.2.2.2.2.1 true v0.2.2.2.2.2.2.2.1 v0.2.2.2.2.2.2.2.2) (frk (a1==6) (Dimpl_keep_0 n a0 v0.1.1.inn v0.1.1.pl.A v0.1.1.pl.B v0.1.1.pl.C v0.1.1.pl.D v0.1.1.kids v0.1.2.1.inn v0.1.2.1.pl.A v0.1.2.1.pl.B v0.1.2.1.pl.C v0.1.2.1.pl.D v0.1.2.1.kids v0.1.2.2.1.inn v0.1.2.2.1.pl.A v0.1.2.2.1.pl.B v0.1.2.2.1.pl.C v0.1.2.2.1.pl.D v0.1.2.2.1.kids v0.1.2.2.2.1.inn v0.1.2.2.2.1.pl.A v0.1.2.2.2.1.pl.B v0.1.2.2.2.1.pl.C v0.1.2.2.2.1.pl.D v0.1.2.2.2.1.kids v0.1.2.2.2.2.1.inn v0.1.2.2.2.2.1.pl.A v0.1.2.2.2.2.1.pl.B v0.1.2.2.2.2.1.pl.C v0.1.2.2.2.2.1.pl.D v0.1.2.2.2.2.1.kids v0.1.2.2.2.2.2.1.inn v0.1.2.2.2.2.2.1.pl.A v0.1.2.2.2.2.2.1.pl.B v0.1.2.2.2.2.2.1.pl.C v0.1.2.2.2.2.2.1.pl.D v0.1.2.2.2.2.2.1.kids v1.inn v1.pl.A v1.pl.B v1.pl.C v1.pl.D v1.kids v0.1.2.2.2.2.2.2.2.inn v0.1.2.2.2.2.2.2.2.pl.A v0.1.2.2.2.2.2.2.2.pl.B v0.1.2.2.2.2.2.2.2.pl.C v0.1.2.2.2.2.2.2.2.pl.D v0.1.2.2.2.2.2.2.2.kids v0.2.1 v0.2.2.1 v0.2.2.2.1 v0.2.2.2.2.1 v0.2.2.2.2.2.1 v0.2.2.2.2.2.2.1 true v0.2.2.2.2.2.2.2.2) (frk (a1==7) (Dimpl_keep_0 n a0 v0.1.1.inn v0.1.1.pl.A v0.1.1.pl.B v0.1.1.pl.C v0.1.1.pl.D v0.1.1.kids v0.1.2.1.inn v0.1.2.1.pl.A v0.1.2.1.pl.B v0.1.2.1.pl.C v0.1.2.1.pl.D v0.1.2.1.kids v0.1.2.2.1.inn v0.1.2.2.1.pl.A v0.1.2.2.1.pl.B v0.1.2.2.1.pl.C v0.1.2.2.1.pl.D v0.1.2.2.1.kids v0.1.2.2.2.1.inn v0.1.2.2.2.1.pl.A v0.1.2.2.2.1.pl.B v0.1.2.2.2.1.pl.C v0.1.2.2.2.1.pl.D v0.1.2.2.2.1.kids v0.1.2.2.2.2.1.inn v0.1.2.2.2.2.1.pl.A v0.1.2.2.2.2.1.pl.B v0.1.2.2.2.2.1.pl.C v0.1.2.2.2.2.1.pl.D v0.1.2.2.2.2.1.kids v0.1.2.2.2.2.2.1.inn v0.1.2.2.2.2.2.1.pl.A v0.1.2.2.2.2.2.1.pl.B v0.1.2.2.2.2.2.1.pl.C v0.1.2.2.2.2.2.1.pl.D v0.1.2.2.2.2.2.1.kids v0.1.2.2.2.2.2.2.1.inn v0.1.2.2.2.2.2.2.1.pl.A v0.1.2.2.2.2.2.2.1.pl.B v0.1.2.2.2.2.2.2.1.pl.C v0.1.2.2.2.2.2.2.1.pl.D v0.1.2.2.2.2.2.2.1.kids v1.inn v1.pl.A v1.pl.B v1.pl.C v1.pl.D v1.kids v0.2.1 v0.2.2.1 v0.2.2.2.1 v0.2.2.2.2.1 v0.2.2.2.2.2.1 v0.2.2.2.2.2.2.1 v0.2.2.2.2.2.2.2.1 true) (none))))))))
theorem Timpl_keep{Y}(n:Nat)(a0:Dsk)(a1:Int)(a2:Sol)(r:(Dsk×Int))(h:Dimpl_keep n a0 a1 a2=some r):Big Tryz.prog H Y (.call 63 [.agg (cT38 a0),i64 a1,eF a2] (lk []) (.tup [.agg (cT38o r.1),i64 r.2]) (lk [])):=by
 unfold Dimpl_keep at h
 refine x_call (fn:=Tryz.f63) (c:=bodyOf Tryz.f63) (bs0:=[]) Tryz.func63 (by kernel_rfl) (by kernel_rfl) ?_
 obtain⟨v0,y0,h⟩:=bm h
 obtain⟨v1,y1,h⟩:=bm h
 refine x_pt 21 [(5,.call [] [] (.agg (cT38o v0)) []),(5,.call [] [] (eS v1) [])] (ocons (Timpl_copyDesk (Y:=Y) n a0 _ y0) (ocons (Timpl_copySolid (Y:=Y) n a2 _ y1) onil)) (by kernel_rfl) ?_
 rcases frk_eq h with ⟨hc,hk153⟩ | h
 ·subst hc
  replace h:=hk153
  exact x_to 8 [] onil (Timpl_keep_0 n a0 v1.inn v1.pl.A v1.pl.B v1.pl.C v1.pl.D v1.kids v0.1.2.1.inn v0.1.2.1.pl.A v0.1.2.1.pl.B v0.1.2.1.pl.C v0.1.2.1.pl.D v0.1.2.1.kids v0.1.2.2.1.inn v0.1.2.2.1.pl.A v0.1.2.2.1.pl.B v0.1.2.2.1.pl.C v0.1.2.2.1.pl.D v0.1.2.2.1.kids v0.1.2.2.2.1.inn v0.1.2.2.2.1.pl.A v0.1.2.2.2.1.pl.B v0.1.2.2.2.1.pl.C v0.1.2.2.2.1.pl.D v0.1.2.2.2.1.kids v0.1.2.2.2.2.1.inn v0.1.2.2.2.2.1.pl.A v0.1.2.2.2.2.1.pl.B v0.1.2.2.2.2.1.pl.C v0.1.2.2.2.2.1.pl.D v0.1.2.2.2.2.1.kids v0.1.2.2.2.2.2.1.inn v0.1.2.2.2.2.2.1.pl.A v0.1.2.2.2.2.2.1.pl.B v0.1.2.2.2.2.2.1.pl.C v0.1.2.2.2.2.2.1.pl.D v0.1.2.2.2.2.2.1.kids v0.1.2.2.2.2.2.2.1.inn v0.1.2.2.2.2.2.2.1.pl.A v0.1.2.2.2.2.2.2.1.pl.B v0.1.2.2.2.2.2.2.1.pl.C v0.1.2.2.2.2.2.2.1.pl.D v0.1.2.2.2.2.2.2.1.kids v0.1.2.2.2.2.2.2.2.inn v0.1.2.2.2.2.2.2.2.pl.A v0.1.2.2.2.2.2.2.2.pl.B v0.1.2.2.2.2.2.2.2.pl.C v0.1.2.2.2.2.2.2.2.pl.D v0.1.2.2.2.2.2.2.2.kids true v0.2.2.1 v0.2.2.2.1 v0.2.2.2.2.1 v0.2.2.2.2.2.1 v0.2.2.2.2.2.2.1 v0.2.2.2.2.2.2.2.1 v0.2.2.2.2.2.2.2.2 r h) 
 rcases frk_eq h with ⟨hc,hk154⟩ | h
 ·subst hc
  replace h:=hk154
  exact x_to 8 [] onil (Timpl_keep_0 n a0 v0.1.1.inn v0.1.1.pl.A v0.1.1.pl.B v0.1.1.pl.C v0.1.1.pl.D v0.1.1.kids v1.inn v1.pl.A v1.pl.B v1.pl.C v1.pl.D v1.kids v0.1.2.2.1.inn v0.1.2.2.1.pl.A v0.1.2.2.1.pl.B v0.1.2.2.1.pl.C v0.1.2.2.1.pl.D v0.1.2.2.1.kids v0.1.2.2.2.1.inn v0.1.2.2.2.1.pl.A v0.1.2.2.2.1.pl.B v0.1.2.2.2.1.pl.C v0.1.2.2.2.1.pl.D v0.1.2.2.2.1.kids v0.1.2.2.2.2.1.inn v0.1.2.2.2.2.1.pl.A v0.1.2.2.2.2.1.pl.B v0.1.2.2.2.2.1.pl.C v0.1.2.2.2.2.1.pl.D v0.1.2.2.2.2.1.kids v0.1.2.2.2.2.2.1.inn v0.1.2.2.2.2.2.1.pl.A v0.1.2.2.2.2.2.1.pl.B v0.1.2.2.2.2.2.1.pl.C v0.1.2.2.2.2.2.1.pl.D v0.1.2.2.2.2.2.1.kids v0.1.2.2.2.2.2.2.1.inn v0.1.2.2.2.2.2.2.1.pl.A v0.1.2.2.2.2.2.2.1.pl.B v0.1.2.2.2.2.2.2.1.pl.C v0.1.2.2.2.2.2.2.1.pl.D v0.1.2.2.2.2.2.2.1.kids v0.1.2.2.2.2.2.2.2.inn v0.1.2.2.2.2.2.2.2.pl.A v0.1.2.2.2.2.2.2.2.pl.B v0.1.2.2.2.2.2.2.2.pl.C v0.1.2.2.2.2.2.2.2.pl.D v0.1.2.2.2.2.2.2.2.kids v0.2.1 true v0.2.2.2.1 v0.2.2.2.2.1 v0.2.2.2.2.2.1 v0.2.2.2.2.2.2.1 v0.2.2.2.2.2.2.2.1 v0.2.2.2.2.2.2.2.2 r h) 
 rcases frk_eq h with ⟨hc,hk155⟩ | h
 ·subst hc
  replace h:=hk155
  exact x_to 8 [] onil (Timpl_keep_0 n a0 v0.1.1.inn v0.1.1.pl.A v0.1.1.pl.B v0.1.1.pl.C v0.1.1.pl.D v0.1.1.kids v0.1.2.1.inn v0.1.2.1.pl.A v0.1.2.1.pl.B v0.1.2.1.pl.C v0.1.2.1.pl.D v0.1.2.1.kids v1.inn v1.pl.A v1.pl.B v1.pl.C v1.pl.D v1.kids v0.1.2.2.2.1.inn v0.1.2.2.2.1.pl.A v0.1.2.2.2.1.pl.B v0.1.2.2.2.1.pl.C v0.1.2.2.2.1.pl.D v0.1.2.2.2.1.kids v0.1.2.2.2.2.1.inn v0.1.2.2.2.2.1.pl.A v0.1.2.2.2.2.1.pl.B v0.1.2.2.2.2.1.pl.C v0.1.2.2.2.2.1.pl.D v0.1.2.2.2.2.1.kids v0.1.2.2.2.2.2.1.inn v0.1.2.2.2.2.2.1.pl.A v0.1.2.2.2.2.2.1.pl.B v0.1.2.2.2.2.2.1.pl.C v0.1.2.2.2.2.2.1.pl.D v0.1.2.2.2.2.2.1.kids v0.1.2.2.2.2.2.2.1.inn v0.1.2.2.2.2.2.2.1.pl.A v0.1.2.2.2.2.2.2.1.pl.B v0.1.2.2.2.2.2.2.1.pl.C v0.1.2.2.2.2.2.2.1.pl.D v0.1.2.2.2.2.2.2.1.kids v0.1.2.2.2.2.2.2.2.inn v0.1.2.2.2.2.2.2.2.pl.A v0.1.2.2.2.2.2.2.2.pl.B v0.1.2.2.2.2.2.2.2.pl.C v0.1.2.2.2.2.2.2.2.pl.D v0.1.2.2.2.2.2.2.2.kids v0.2.1 v0.2.2.1 true v0.2.2.2.2.1 v0.2.2.2.2.2.1 v0.2.2.2.2.2.2.1 v0.2.2.2.2.2.2.2.1 v0.2.2.2.2.2.2.2.2 r h) 
 rcases frk_eq h with ⟨hc,hk156⟩ | h
 ·subst hc
  replace h:=hk156
  exact x_to 8 [] onil (Timpl_keep_0 n a0 v0.1.1.inn v0.1.1.pl.A v0.1.1.pl.B v0.1.1.pl.C v0.1.1.pl.D v0.1.1.kids v0.1.2.1.inn v0.1.2.1.pl.A v0.1.2.1.pl.B v0.1.2.1.pl.C v0.1.2.1.pl.D v0.1.2.1.kids v0.1.2.2.1.inn v0.1.2.2.1.pl.A v0.1.2.2.1.pl.B v0.1.2.2.1.pl.C v0.1.2.2.1.pl.D v0.1.2.2.1.kids v1.inn v1.pl.A v1.pl.B v1.pl.C v1.pl.D v1.kids v0.1.2.2.2.2.1.inn v0.1.2.2.2.2.1.pl.A v0.1.2.2.2.2.1.pl.B v0.1.2.2.2.2.1.pl.C v0.1.2.2.2.2.1.pl.D v0.1.2.2.2.2.1.kids v0.1.2.2.2.2.2.1.inn v0.1.2.2.2.2.2.1.pl.A v0.1.2.2.2.2.2.1.pl.B v0.1.2.2.2.2.2.1.pl.C v0.1.2.2.2.2.2.1.pl.D v0.1.2.2.2.2.2.1.kids v0.1.2.2.2.2.2.2.1.inn v0.1.2.2.2.2.2.2.1.pl.A v0.1.2.2.2.2.2.2.1.pl.B v0.1.2.2.2.2.2.2.1.pl.C v0.1.2.2.2.2.2.2.1.pl.D v0.1.2.2.2.2.2.2.1.kids v0.1.2.2.2.2.2.2.2.inn v0.1.2.2.2.2.2.2.2.pl.A v0.1.2.2.2.2.2.2.2.pl.B v0.1.2.2.2.2.2.2.2.pl.C v0.1.2.2.2.2.2.2.2.pl.D v0.1.2.2.2.2.2.2.2.kids v0.2.1 v0.2.2.1 v0.2.2.2.1 true v0.2.2.2.2.2.1 v0.2.2.2.2.2.2.1 v0.2.2.2.2.2.2.2.1 v0.2.2.2.2.2.2.2.2 r h) 
 rcases frk_eq h with ⟨hc,hk157⟩ | h
 ·subst hc
  replace h:=hk157
  exact x_to 8 [] onil (Timpl_keep_0 n a0 v0.1.1.inn v0.1.1.pl.A v0.1.1.pl.B v0.1.1.pl.C v0.1.1.pl.D v0.1.1.kids v0.1.2.1.inn v0.1.2.1.pl.A v0.1.2.1.pl.B v0.1.2.1.pl.C v0.1.2.1.pl.D v0.1.2.1.kids v0.1.2.2.1.inn v0.1.2.2.1.pl.A v0.1.2.2.1.pl.B v0.1.2.2.1.pl.C v0.1.2.2.1.pl.D v0.1.2.2.1.kids v0.1.2.2.2.1.inn v0.1.2.2.2.1.pl.A v0.1.2.2.2.1.pl.B v0.1.2.2.2.1.pl.C v0.1.2.2.2.1.pl.D v0.1.2.2.2.1.kids v1.inn v1.pl.A v1.pl.B v1.pl.C v1.pl.D v1.kids v0.1.2.2.2.2.2.1.inn v0.1.2.2.2.2.2.1.pl.A v0.1.2.2.2.2.2.1.pl.B v0.1.2.2.2.2.2.1.pl.C v0.1.2.2.2.2.2.1.pl.D v0.1.2.2.2.2.2.1.kids v0.1.2.2.2.2.2.2.1.inn v0.1.2.2.2.2.2.2.1.pl.A v0.1.2.2.2.2.2.2.1.pl.B v0.1.2.2.2.2.2.2.1.pl.C v0.1.2.2.2.2.2.2.1.pl.D v0.1.2.2.2.2.2.2.1.kids v0.1.2.2.2.2.2.2.2.inn v0.1.2.2.2.2.2.2.2.pl.A v0.1.2.2.2.2.2.2.2.pl.B v0.1.2.2.2.2.2.2.2.pl.C v0.1.2.2.2.2.2.2.2.pl.D v0.1.2.2.2.2.2.2.2.kids v0.2.1 v0.2.2.1 v0.2.2.2.1 v0.2.2.2.2.1 true v0.2.2.2.2.2.2.1 v0.2.2.2.2.2.2.2.1 v0.2.2.2.2.2.2.2.2 r h) 
 rcases frk_eq h with ⟨hc,hk158⟩ | h
 ·subst hc
  replace h:=hk158
  exact x_to 8 [] onil (Timpl_keep_0 n a0 v0.1.1.inn v0.1.1.pl.A v0.1.1.pl.B v0.1.1.pl.C v0.1.1.pl.D v0.1.1.kids v0.1.2.1.inn v0.1.2.1.pl.A v0.1.2.1.pl.B v0.1.2.1.pl.C v0.1.2.1.pl.D v0.1.2.1.kids v0.1.2.2.1.inn v0.1.2.2.1.pl.A v0.1.2.2.1.pl.B v0.1.2.2.1.pl.C v0.1.2.2.1.pl.D v0.1.2.2.1.kids v0.1.2.2.2.1.inn v0.1.2.2.2.1.pl.A v0.1.2.2.2.1.pl.B v0.1.2.2.2.1.pl.C v0.1.2.2.2.1.pl.D v0.1.2.2.2.1.kids v0.1.2.2.2.2.1.inn v0.1.2.2.2.2.1.pl.A v0.1.2.2.2.2.1.pl.B v0.1.2.2.2.2.1.pl.C v0.1.2.2.2.2.1.pl.D v0.1.2.2.2.2.1.kids v1.inn v1.pl.A v1.pl.B v1.pl.C v1.pl.D v1.kids v0.1.2.2.2.2.2.2.1.inn v0.1.2.2.2.2.2.2.1.pl.A v0.1.2.2.2.2.2.2.1.pl.B v0.1.2.2.2.2.2.2.1.pl.C v0.1.2.2.2.2.2.2.1.pl.D v0.1.2.2.2.2.2.2.1.kids v0.1.2.2.2.2.2.2.2.inn v0.1.2.2.2.2.2.2.2.pl.A v0.1.2.2.2.2.2.2.2.pl.B v0.1.2.2.2.2.2.2.2.pl.C v0.1.2.2.2.2.2.2.2.pl.D v0.1.2.2.2.2.2.2.2.kids v0.2.1 v0.2.2.1 v0.2.2.2.1 v0.2.2.2.2.1 v0.2.2.2.2.2.1 true v0.2.2.2.2.2.2.2.1 v0.2.2.2.2.2.2.2.2 r h) 
 rcases frk_eq h with ⟨hc,hk159⟩ | h
 ·subst hc
  replace h:=hk159
  exact x_to 8 [] onil (Timpl_keep_0 n a0 v0.1.1.inn v0.1.1.pl.A v0.1.1.pl.B v0.1.1.pl.C v0.1.1.pl.D v0.1.1.kids v0.1.2.1.inn v0.1.2.1.pl.A v0.1.2.1.pl.B v0.1.2.1.pl.C v0.1.2.1.pl.D v0.1.2.1.kids v0.1.2.2.1.inn v0.1.2.2.1.pl.A v0.1.2.2.1.pl.B v0.1.2.2.1.pl.C v0.1.2.2.1.pl.D v0.1.2.2.1.kids v0.1.2.2.2.1.inn v0.1.2.2.2.1.pl.A v0.1.2.2.2.1.pl.B v0.1.2.2.2.1.pl.C v0.1.2.2.2.1.pl.D v0.1.2.2.2.1.kids v0.1.2.2.2.2.1.inn v0.1.2.2.2.2.1.pl.A v0.1.2.2.2.2.1.pl.B v0.1.2.2.2.2.1.pl.C v0.1.2.2.2.2.1.pl.D v0.1.2.2.2.2.1.kids v0.1.2.2.2.2.2.1.inn v0.1.2.2.2.2.2.1.pl.A v0.1.2.2.2.2.2.1.pl.B v0.1.2.2.2.2.2.1.pl.C v0.1.2.2.2.2.2.1.pl.D v0.1.2.2.2.2.2.1.kids v1.inn v1.pl.A v1.pl.B v1.pl.C v1.pl.D v1.kids v0.1.2.2.2.2.2.2.2.inn v0.1.2.2.2.2.2.2.2.pl.A v0.1.2.2.2.2.2.2.2.pl.B v0.1.2.2.2.2.2.2.2.pl.C v0.1.2.2.2.2.2.2.2.pl.D v0.1.2.2.2.2.2.2.2.kids v0.2.1 v0.2.2.1 v0.2.2.2.1 v0.2.2.2.2.1 v0.2.2.2.2.2.1 v0.2.2.2.2.2.2.1 true v0.2.2.2.2.2.2.2.2 r h) 
 rcases frk_eq h with ⟨hc,hk160⟩ | h
 ·subst hc
  replace h:=hk160
  exact x_to 8 [] onil (Timpl_keep_0 n a0 v0.1.1.inn v0.1.1.pl.A v0.1.1.pl.B v0.1.1.pl.C v0.1.1.pl.D v0.1.1.kids v0.1.2.1.inn v0.1.2.1.pl.A v0.1.2.1.pl.B v0.1.2.1.pl.C v0.1.2.1.pl.D v0.1.2.1.kids v0.1.2.2.1.inn v0.1.2.2.1.pl.A v0.1.2.2.1.pl.B v0.1.2.2.1.pl.C v0.1.2.2.1.pl.D v0.1.2.2.1.kids v0.1.2.2.2.1.inn v0.1.2.2.2.1.pl.A v0.1.2.2.2.1.pl.B v0.1.2.2.2.1.pl.C v0.1.2.2.2.1.pl.D v0.1.2.2.2.1.kids v0.1.2.2.2.2.1.inn v0.1.2.2.2.2.1.pl.A v0.1.2.2.2.2.1.pl.B v0.1.2.2.2.2.1.pl.C v0.1.2.2.2.2.1.pl.D v0.1.2.2.2.2.1.kids v0.1.2.2.2.2.2.1.inn v0.1.2.2.2.2.2.1.pl.A v0.1.2.2.2.2.2.1.pl.B v0.1.2.2.2.2.2.1.pl.C v0.1.2.2.2.2.2.1.pl.D v0.1.2.2.2.2.2.1.kids v0.1.2.2.2.2.2.2.1.inn v0.1.2.2.2.2.2.2.1.pl.A v0.1.2.2.2.2.2.2.1.pl.B v0.1.2.2.2.2.2.2.1.pl.C v0.1.2.2.2.2.2.2.1.pl.D v0.1.2.2.2.2.2.2.1.kids v1.inn v1.pl.A v1.pl.B v1.pl.C v1.pl.D v1.kids v0.2.1 v0.2.2.1 v0.2.2.2.1 v0.2.2.2.2.1 v0.2.2.2.2.2.1 v0.2.2.2.2.2.2.1 v0.2.2.2.2.2.2.2.1 true r h) 
 exact absurd h (by simp)
def Dimpl_Mix_0(n:Nat)(a0:Dsk):Option (Dsk×Int) :=
 (Dimpl_copyDesk n a0).bind fun v1=>some (v1,1)
theorem Timpl_Mix_0{Y}(n:Nat)(a0:Dsk)(r:(Dsk×Int))(h:Dimpl_Mix_0 n a0=some r):Wk Tryz.prog H Y 12 [.code (cp [1,0,0,1,0,0] (bodyOf Tryz.f12)),.code (cp [1,0,0,1,0,1] (bodyOf Tryz.f12)),.blk 0,.code (cp [1,1] (bodyOf Tryz.f12))] (FinX Tryz.prog Tryz.f12 [] (.tup [.agg (cT38o r.1),i64 r.2]) []) ⟨[(5,.ptr 5 0),(10,.ptr 10 0)],[(5,⟨true,0,(cT38 a0)⟩),(10,⟨true,0,[bl false,i64 0,i64 0,i64 0,i64 0,.nil,bl false,i64 0,i64 0,i64 0,i64 0,.nil,bl false,i64 0,i64 0,i64 0,i64 0,.nil,bl false,i64 0,i64 0,i64 0,i64 0,.nil,bl false,i64 0,i64 0,i64 0,i64 0,.nil,bl false,i64 0,i64 0,i64 0,i64 0,.nil,bl false,i64 0,i64 0,i64 0,i64 0,.nil,bl false,i64 0,i64 0,i64 0,i64 0,.nil,bl false,bl false,bl false,bl false,bl false,bl false,bl false,bl false]⟩)]⟩:=by
 unfold Dimpl_Mix_0 at h
 obtain⟨v1,y1,h⟩:=bm h
 replace h:=sj h;subst h
 exact x_end 6 [(1,.call [] [] (.agg (cT38o v1)) [])] [] (ocons (Timpl_copyDesk (Y:=Y) n a0 _ y1) onil) onil 
def Dimpl_Mix_2(n:Nat)(a0:Dsk):Option (Dsk×Int) :=
 (Dimpl_copyDesk n a0).bind fun v7=>some (v7,2)
theorem Timpl_Mix_2{Y}(n:Nat)(a0:Dsk)(r:(Dsk×Int))(h:Dimpl_Mix_2 n a0=some r):Wk Tryz.prog H Y 12 [.code (cp [1,0,0,1,1,1,0,0] (bodyOf Tryz.f12)),.code (cp [1,0,0,1,1,1,0,1] (bodyOf Tryz.f12)),.blk 0,.code (cp [1,1] (bodyOf Tryz.f12))] (FinX Tryz.prog Tryz.f12 [] (.tup [.agg (cT38o r.1),i64 r.2]) []) ⟨[(5,.ptr 5 0),(10,.ptr 10 0)],[(5,⟨true,0,(cT38 a0)⟩),(10,⟨true,0,[bl false,i64 0,i64 0,i64 0,i64 0,.nil,bl false,i64 0,i64 0,i64 0,i64 0,.nil,bl false,i64 0,i64 0,i64 0,i64 0,.nil,bl false,i64 0,i64 0,i64 0,i64 0,.nil,bl false,i64 0,i64 0,i64 0,i64 0,.nil,bl false,i64 0,i64 0,i64 0,i64 0,.nil,bl false,i64 0,i64 0,i64 0,i64 0,.nil,bl false,i64 0,i64 0,i64 0,i64 0,.nil,bl false,bl false,bl false,bl false,bl false,bl false,bl false,bl false]⟩)]⟩:=by
 unfold Dimpl_Mix_2 at h
 obtain⟨v7,y7,h⟩:=bm h
 replace h:=sj h;subst h
 exact x_end 6 [(1,.call [] [] (.agg (cT38o v7)) [])] [] (ocons (Timpl_copyDesk (Y:=Y) n a0 _ y7) onil) onil 
def Dimpl_Mix_4(n:Nat)(t1:Int)(t69:Bool)(a0:Dsk)(zcz:Bool)(zda zdb zdc zdd:Int)(zde:List Sol):Option (Dsk×Int) :=
 frk t69 ((Dimpl_copyDesk n a0).bind fun v10=>some (v10,3)) ((Dimpl_tidy n (Sol.mk zcz (Pl.mk zda zdb zdc zdd) zde)).bind fun v11=>(Dimpl_keep n a0 t1 v11).bind fun v12=>some v12)
theorem Timpl_Mix_4{Y}(n:Nat)(t1:Int)(t69:Bool)(a0:Dsk)(zcz:Bool)(zda zdb zdc zdd:Int)(zde:List Sol)(r:(Dsk×Int))(h:Dimpl_Mix_4 n t1 t69 a0 zcz zda zdb zdc zdd zde=some r):Wk Tryz.prog H Y 12 [.code (cp [1,1,1,0,1] (bodyOf Tryz.f12)),.code (cp [1,1,1,1] (bodyOf Tryz.f12))] (FinX Tryz.prog Tryz.f12 [] (.tup [.agg (cT38o r.1),i64 r.2]) []) ⟨[(1,i64 t1),(5,.ptr 5 0),(10,.ptr 10 0),(12,.ptr 12 0),(69,bl t69)],[(5,⟨true,0,(cT38 a0)⟩),(10,⟨true,0,[bl false,i64 0,i64 0,i64 0,i64 0,.nil,bl false,i64 0,i64 0,i64 0,i64 0,.nil,bl false,i64 0,i64 0,i64 0,i64 0,.nil,bl false,i64 0,i64 0,i64 0,i64 0,.nil,bl false,i64 0,i64 0,i64 0,i64 0,.nil,bl false,i64 0,i64 0,i64 0,i64 0,.nil,bl false,i64 0,i64 0,i64 0,i64 0,.nil,bl false,i64 0,i64 0,i64 0,i64 0,.nil,bl false,bl false,bl false,bl false,bl false,bl false,bl false,bl false]⟩),(12,⟨true,0,[bl zcz,i64 zda,i64 zdb,i64 zdc,i64 zdd,.sl true 6 zde.length ((eSol true).f zde)]⟩)]⟩:=by
 unfold Dimpl_Mix_4 at h
 refine x_frk 0 [] onil h (by kernel_rfl) (fun h=>?_) (fun h=>?_)
 ·obtain⟨v10,y10,h⟩:=bm h
  replace h:=sj h;subst h
  exact x_end 7 [(1,.call [] [] (.agg (cT38o v10)) [])] [] (ocons (Timpl_copyDesk (Y:=Y) n a0 _ y10) onil) onil 
 ·obtain⟨v11,y11,h⟩:=bm h
  obtain⟨v12,y12,h⟩:=bm h
  replace h:=sj h;subst h
  exact x_end 13 [(2,.rows [(eSol false).f zde]),(0,.call [] [] (eS v11) []),(0,.call [] [(eSol false).f v11.kids] (.tup [.agg (cT38o v12.1),i64 v12.2]) [])] [] (ocons (Enc.share (eSol true) (eSol false) (sSol true) zde) (ocons (Timpl_tidy (Y:=Y) n (Sol.mk zcz (Pl.mk zda zdb zdc zdd) zde) _ y11) (ocons (Timpl_keep (Y:=Y) n a0 t1 v11 _ y12) (ocons (Enc.share (eSol true) (eSol false) (sSol true) v11.kids) onil)))) onil 
def Dimpl_Mix_3(n:Nat)(t1 t2 t3 t4:Int)(t40:Bool)(a0:Dsk):Option (Dsk×Int) :=
 frk t40 ((Dimpl_copyDesk n a0).bind fun v8=>some (v8,2)) (frk (t2==0) (frk (t3==0) ((Dimpl_put n a0.1.1 a0.1.1 t4).bind fun v9=>Dimpl_Mix_4 n t1 (!v9.2) a0 v9.1.inn v9.1.pl.A v9.1.pl.B v9.1.pl.C v9.1.pl.D v9.1.kids) (frk (t3==1) ((Dimpl_put n a0.1.1 a0.1.2.1 t4).bind fun v13=>Dimpl_Mix_4 n t1 (!v13.2) a0 v13.1.inn v13.1.pl.A v13.1.pl.B v13.1.pl.C v13.1.pl.D v13.1.kids) (frk (t3==2) ((Dimpl_put n a0.1.1 a0.1.2.2.1 t4).bind fun v14=>Dimpl_Mix_4 n t1 (!v14.2) a0 v14.1.inn v14.1.pl.A v14.1.pl.B v14.1.pl.C v14.1.pl.D v14.1.kids) (frk (t3==3) ((Dimpl_put n a0.1.1 a0.1.2.2.2.1 t4).bind fun v15=>Dimpl_Mix_4 n t1 (!v15.2) a0 v15.1.inn v15.1.pl.A v15.1.pl.B v15.1.pl.C v15.1.pl.D v15.1.kids) (frk (t3==4) ((Dimpl_put n a0.1.1 a0.1.2.2.2.2.1 t4).bind fun v16=>Dimpl_Mix_4 n t1 (!v16.2) a0 v16.1.inn v16.1.pl.A v16.1.pl.B v16.1.pl.C v16.1.pl.D v16.1.kids) (frk (t3==5) ((Dimpl_put n a0.1.1 a0.1.2.2.2.2.2.1 t4).bind fun v17=>Dimpl_Mix_4 n t1 (!v17.2) a0 v17.1.inn v17.1.pl.A v17.1.pl.B v17.1.pl.C v17.1.pl.D v17.1.kids) (frk (t3==6) ((Dimpl_put n a0.1.1 a0.1.2.2.2.2.2.2.1 t4).bind fun v18=>Dimpl_Mix_4 n t1 (!v18.2) a0 v18.1.inn v18.1.pl.A v18.1.pl.B v18.1.pl.C v18.1.pl.D v18.1.kids) (frk (t3==7) ((Dimpl_put n a0.1.1 a0.1.2.2.2.2.2.2.2 t4).bind fun v19=>Dimpl_Mix_4 n t1 (!v19.2) a0 v19.1.inn v19.1.pl.A v19.1.pl.B v19.1.pl.C v19.1.pl.D v19.1.kids) (none))))))))) (frk (t2==1) (frk (t3==0) ((Dimpl_put n a0.1.2.1 a0.1.1 t4).bind fun v20=>Dimpl_Mix_4 n t1 (!v20.2) a0 v20.1.inn v20.1.pl.A v20.1.pl.B v20.1.pl.C v20.1.pl.D v20.1.kids) (frk (t3==1) ((Dimpl_put n a0.1.2.1 a0.1.2.1 t4).bind fun v21=>Dimpl_Mix_4 n t1 (!v21.2) a0 v21.1.inn v21.1.pl.A v21.1.pl.B v21.1.pl.C v21.1.pl.D v21.1.kids) (frk (t3==2) ((Dimpl_put n a0.1.2.1 a0.1.2.2.1 t4).bind fun v22=>Dimpl_Mix_4 n t1 (!v22.2) a0 v22.1.inn v22.1.pl.A v22.1.pl.B v22.1.pl.C v22.1.pl.D v22.1.kids) (frk (t3==3) ((Dimpl_put n a0.1.2.1 a0.1.2.2.2.1 t4).bind fun v23=>Dimpl_Mix_4 n t1 (!v23.2) a0 v23.1.inn v23.1.pl.A v23.1.pl.B v23.1.pl.C v23.1.pl.D v23.1.kids) (frk (t3==4) ((Dimpl_put n a0.1.2.1 a0.1.2.2.2.2.1 t4).bind fun v24=>Dimpl_Mix_4 n t1 (!v24.2) a0 v24.1.inn v24.1.pl.A v24.1.pl.B v24.1.pl.C v24.1.pl.D v24.1.kids) (frk (t3==5) ((Dimpl_put n a0.1.2.1 a0.1.2.2.2.2.2.1 t4).bind fun v25=>Dimpl_Mix_4 n t1 (!v25.2) a0 v25.1.inn v25.1.pl.A v25.1.pl.B v25.1.pl.C v25.1.pl.D v25.1.kids) (frk (t3==6) ((Dimpl_put n a0.1.2.1 a0.1.2.2.2.2.2.2.1 t4).bind fun v26=>Dimpl_Mix_4 n t1 (!v26.2) a0 v26.1.inn v26.1.pl.A v26.1.pl.B v26.1.pl.C v26.1.pl.D v26.1.kids) (frk (t3==7) ((Dimpl_put n a0.1.2.1 a0.1.2.2.2.2.2.2.2 t4).bind fun v27=>Dimpl_Mix_4 n t1 (!v27.2) a0 v27.1.inn v27.1.pl.A v27.1.pl.B v27.1.pl.C v27.1.pl.D v27.1.kids) (none))))))))) (frk (t2==2) (frk (t3==0) ((Dimpl_put n a0.1.2.2.1 a0.1.1 t4).bind fun v28=>Dimpl_Mix_4 n t1 (!v28.2) a0 v28.1.inn v28.1.pl.A v28.1.pl.B v28.1.pl.C v28.1.pl.D v28.1.kids) (frk (t3==1) ((Dimpl_put n a0.1.2.2.1 a0.1.2.1 t4).bind fun v29=>Dimpl_Mix_4 n t1 (!v29.2) a0 v29.1.inn v29.1.pl.A v29.1.pl.B v29.1.pl.C v29.1.pl.D v29.1.kids) (frk (t3==2) ((Dimpl_put n a0.1.2.2.1 a0.1.2.2.1 t4).bind fun v30=>Dimpl_Mix_4 n t1 (!v30.2) a0 v30.1.inn v30.1.pl.A v30.1.pl.B v30.1.pl.C v30.1.pl.D v30.1.kids) (frk (t3==3) ((Dimpl_put n a0.1.2.2.1 a0.1.2.2.2.1 t4).bind fun v31=>Dimpl_Mix_4 n t1 (!v31.2) a0 v31.1.inn v31.1.pl.A v31.1.pl.B v31.1.pl.C v31.1.pl.D v31.1.kids) (frk (t3==4) ((Dimpl_put n a0.1.2.2.1 a0.1.2.2.2.2.1 t4).bind fun v32=>Dimpl_Mix_4 n t1 (!v32.2) a0 v32.1.inn v32.1.pl.A v32.1.pl.B v32.1.pl.C v32.1.pl.D v32.1.kids) (frk (t3==5) ((Dimpl_put n a0.1.2.2.1 a0.1.2.2.2.2.2.1 t4).bind fun v33=>Dimpl_Mix_4 n t1 (!v33.2) a0 v33.1.inn v33.1.pl.A v33.1.pl.B v33.1.pl.C v33.1.pl.D v33.1.kids) (frk (t3==6) ((Dimpl_put n a0.1.2.2.1 a0.1.2.2.2.2.2.2.1 t4).bind fun v34=>Dimpl_Mix_4 n t1 (!v34.2) a0 v34.1.inn v34.1.pl.A v34.1.pl.B v34.1.pl.C v34.1.pl.D v34.1.kids) (frk (t3==7) ((Dimpl_put n a0.1.2.2.1 a0.1.2.2.2.2.2.2.2 t4).bind fun v35=>Dimpl_Mix_4 n t1 (!v35.2) a0 v35.1.inn v35.1.pl.A v35.1.pl.B v35.1.pl.C v35.1.pl.D v35.1.kids) (none))))))))) (frk (t2==3) (frk (t3==0) ((Dimpl_put n a0.1.2.2.2.1 a0.1.1 t4).bind fun v36=>Dimpl_Mix_4 n t1 (!v36.2) a0 v36.1.inn v36.1.pl.A v36.1.pl.B v36.1.pl.C v36.1.pl.D v36.1.kids) (frk (t3==1) ((Dimpl_put n a0.1.2.2.2.1 a0.1.2.1 t4).bind fun v37=>Dimpl_Mix_4 n t1 (!v37.2) a0 v37.1.inn v37.1.pl.A v37.1.pl.B v37.1.pl.C v37.1.pl.D v37.1.kids) (frk (t3==2) ((Dimpl_put n a0.1.2.2.2.1 a0.1.2.2.1 t4).bind fun v38=>Dimpl_Mix_4 n t1 (!v38.2) a0 v38.1.inn v38.1.pl.A v38.1.pl.B v38.1.pl.C v38.1.pl.D v38.1.kids) (frk (t3==3) ((Dimpl_put n a0.1.2.2.2.1 a0.1.2.2.2.1 t4).bind fun v39=>Dimpl_Mix_4 n t1 (!v39.2) a0 v39.1.inn v39.1.pl.A v39.1.pl.B v39.1.pl.C v39.1.pl.D v39.1.kids) (frk (t3==4) ((Dimpl_put n a0.1.2.2.2.1 a0.1.2.2.2.2.1 t4).bind fun v40=>Dimpl_Mix_4 n t1 (!v40.2) a0 v40.1.inn v40.1.pl.A v40.1.pl.B v40.1.pl.C v40.1.pl.D v40.1.kids) (frk (t3==5) ((Dimpl_put n a0.1.2.2.2.1 a0.1.2.2.2.2.2.1 t4).bind fun v41=>Dimpl_Mix_4 n t1 (!v41.2) a0 v41.1.inn v41.1.pl.A v41.1.pl.B v41.1.pl.C v41.1.pl.D v41.1.kids) (frk (t3==6) ((Dimpl_put n a0.1.2.2.2.1 a0.1.2.2.2.2.2.2.1 t4).bind fun v42=>Dimpl_Mix_4 n t1 (!v42.2) a0 v42.1.inn v42.1.pl.A v42.1.pl.B v42.1.pl.C v42.1.pl.D v42.1.kids) (frk (t3==7) ((Dimpl_put n a0.1.2.2.2.1 a0.1.2.2.2.2.2.2.2 t4).bind fun v43=>Dimpl_Mix_4 n t1 (!v43.2) a0 v43.1.inn v43.1.pl.A v43.1.pl.B v43.1.pl.C v43.1.pl.D v43.1.kids) (none))))))))) (frk (t2==4) (frk (t3==0) ((Dimpl_put n a0.1.2.2.2.2.1 a0.1.1 t4).bind fun v44=>Dimpl_Mix_4 n t1 (!v44.2) a0 v44.1.inn v44.1.pl.A v44.1.pl.B v44.1.pl.C v44.1.pl.D v44.1.kids) (frk (t3==1) ((Dimpl_put n a0.1.2.2.2.2.1 a0.1.2.1 t4).bind fun v45=>Dimpl_Mix_4 n t1 (!v45.2) a0 v45.1.inn v45.1.pl.A v45.1.pl.B v45.1.pl.C v45.1.pl.D v45.1.kids) (frk (t3==2) ((Dimpl_put n a0.1.2.2.2.2.1 a0.1.2.2.1 t4).bind fun v46=>Dimpl_Mix_4 n t1 (!v46.2) a0 v46.1.inn v46.1.pl.A v46.1.pl.B v46.1.pl.C v46.1.pl.D v46.1.kids) (frk (t3==3) ((Dimpl_put n a0.1.2.2.2.2.1 a0.1.2.2.2.1 t4).bind fun v47=>Dimpl_Mix_4 n t1 (!v47.2) a0 v47.1.inn v47.1.pl.A v47.1.pl.B v47.1.pl.C v47.1.pl.D v47.1.kids) (frk (t3==4) ((Dimpl_put n a0.1.2.2.2.2.1 a0.1.2.2.2.2.1 t4).bind fun v48=>Dimpl_Mix_4 n t1 (!v48.2) a0 v48.1.inn v48.1.pl.A v48.1.pl.B v48.1.pl.C v48.1.pl.D v48.1.kids) (frk (t3==5) ((Dimpl_put n a0.1.2.2.2.2.1 a0.1.2.2.2.2.2.1 t4).bind fun v49=>Dimpl_Mix_4 n t1 (!v49.2) a0 v49.1.inn v49.1.pl.A v49.1.pl.B v49.1.pl.C v49.1.pl.D v49.1.kids) (frk (t3==6) ((Dimpl_put n a0.1.2.2.2.2.1 a0.1.2.2.2.2.2.2.1 t4).bind fun v50=>Dimpl_Mix_4 n t1 (!v50.2) a0 v50.1.inn v50.1.pl.A v50.1.pl.B v50.1.pl.C v50.1.pl.D v50.1.kids) (frk (t3==7) ((Dimpl_put n a0.1.2.2.2.2.1 a0.1.2.2.2.2.2.2.2 t4).bind fun v51=>Dimpl_Mix_4 n t1 (!v51.2) a0 v51.1.inn v51.1.pl.A v51.1.pl.B v51.1.pl.C v51.1.pl.D v51.1.kids) (none))))))))) (frk (t2==5) (frk (t3==0) ((Dimpl_put n a0.1.2.2.2.2.2.1 a0.1.1 t4).bind fun v52=>Dimpl_Mix_4 n t1 (!v52.2) a0 v52.1.inn v52.1.pl.A v52.1.pl.B v52.1.pl.C v52.1.pl.D v52.1.kids) (frk (t3==1) ((Dimpl_put n a0.1.2.2.2.2.2.1 a0.1.2.1 t4).bind fun v53=>Dimpl_Mix_4 n t1 (!v53.2) a0 v53.1.inn v53.1.pl.A v53.1.pl.B v53.1.pl.C v53.1.pl.D v53.1.kids) (frk (t3==2) ((Dimpl_put n a0.1.2.2.2.2.2.1 a0.1.2.2.1 t4).bind fun v54=>Dimpl_Mix_4 n t1 (!v54.2) a0 v54.1.inn v54.1.pl.A v54.1.pl.B v54.1.pl.C v54.1.pl.D v54.1.kids) (frk (t3==3) ((Dimpl_put n a0.1.2.2.2.2.2.1 a0.1.2.2.2.1 t4).bind fun v55=>Dimpl_Mix_4 n t1 (!v55.2) a0 v55.1.inn v55.1.pl.A v55.1.pl.B v55.1.pl.C v55.1.pl.D v55.1.kids) (frk (t3==4) ((Dimpl_put n a0.1.2.2.2.2.2.1 a0.1.2.2.2.2.1 t4).bind fun v56=>Dimpl_Mix_4 n t1 (!v56.2) a0 v56.1.inn v56.1.pl.A v56.1.pl.B v56.1.pl.C v56.1.pl.D v56.1.kids) (frk (t3==5) ((Dimpl_put n a0.1.2.2.2.2.2.1 a0.1.2.2.2.2.2.1 t4).bind fun v57=>Dimpl_Mix_4 n t1 (!v57.2) a0 v57.1.inn v57.1.pl.A v57.1.pl.B v57.1.pl.C v57.1.pl.D v57.1.kids) (frk (t3==6) ((Dimpl_put n a0.1.2.2.2.2.2.1 a0.1.2.2.2.2.2.2.1 t4).bind fun v58=>Dimpl_Mix_4 n t1 (!v58.2) a0 v58.1.inn v58.1.pl.A v58.1.pl.B v58.1.pl.C v58.1.pl.D v58.1.kids) (frk (t3==7) ((Dimpl_put n a0.1.2.2.2.2.2.1 a0.1.2.2.2.2.2.2.2 t4).bind fun v59=>Dimpl_Mix_4 n t1 (!v59.2) a0 v59.1.inn v59.1.pl.A v59.1.pl.B v59.1.pl.C v59.1.pl.D v59.1.kids) (none))))))))) (frk (t2==6) (frk (t3==0) ((Dimpl_put n a0.1.2.2.2.2.2.2.1 a0.1.1 t4).bind fun v60=>Dimpl_Mix_4 n t1 (!v60.2) a0 v60.1.inn v60.1.pl.A v60.1.pl.B v60.1.pl.C v60.1.pl.D v60.1.kids) (frk (t3==1) ((Dimpl_put n a0.1.2.2.2.2.2.2.1 a0.1.2.1 t4).bind fun v61=>Dimpl_Mix_4 n t1 (!v61.2) a0 v61.1.inn v61.1.pl.A v61.1.pl.B v61.1.pl.C v61.1.pl.D v61.1.kids) (frk (t3==2) ((Dimpl_put n a0.1.2.2.2.2.2.2.1 a0.1.2.2.1 t4).bind fun v62=>Dimpl_Mix_4 n t1 (!v62.2) a0 v62.1.inn v62.1.pl.A v62.1.pl.B v62.1.pl.C v62.1.pl.D v62.1.kids) (frk (t3==3) ((Dimpl_put n a0.1.2.2.2.2.2.2.1 a0.1.2.2.2.1 t4).bind fun v63=>Dimpl_Mix_4 n t1 (!v63.2) a0 v63.1.inn v63.1.pl.A v63.1.pl.B v63.1.pl.C v63.1.pl.D v63.1.kids) (frk (t3==4) ((Dimpl_put n a0.1.2.2.2.2.2.2.1 a0.1.2.2.2.2.1 t4).bind fun v64=>Dimpl_Mix_4 n t1 (!v64.2) a0 v64.1.inn v64.1.pl.A v64.1.pl.B v64.1.pl.C v64.1.pl.D v64.1.kids) (frk (t3==5) ((Dimpl_put n a0.1.2.2.2.2.2.2.1 a0.1.2.2.2.2.2.1 t4).bind fun v65=>Dimpl_Mix_4 n t1 (!v65.2) a0 v65.1.inn v65.1.pl.A v65.1.pl.B v65.1.pl.C v65.1.pl.D v65.1.kids) (frk (t3==6) ((Dimpl_put n a0.1.2.2.2.2.2.2.1 a0.1.2.2.2.2.2.2.1 t4).bind fun v66=>Dimpl_Mix_4 n t1 (!v66.2) a0 v66.1.inn v66.1.pl.A v66.1.pl.B v66.1.pl.C v66.1.pl.D v66.1.kids) (frk (t3==7) ((Dimpl_put n a0.1.2.2.2.2.2.2.1 a0.1.2.2.2.2.2.2.2 t4).bind fun v67=>Dimpl_Mix_4 n t1 (!v67.2) a0 v67.1.inn v67.1.pl.A v67.1.pl.B v67.1.pl.C v67.1.pl.D v67.1.kids) (none))))))))) (frk (t2==7) (frk (t3==0) ((Dimpl_put n a0.1.2.2.2.2.2.2.2 a0.1.1 t4).bind fun v68=>Dimpl_Mix_4 n t1 (!v68.2) a0 v68.1.inn v68.1.pl.A v68.1.pl.B v68.1.pl.C v68.1.pl.D v68.1.kids) (frk (t3==1) ((Dimpl_put n a0.1.2.2.2.2.2.2.2 a0.1.2.1 t4).bind fun v69=>Dimpl_Mix_4 n t1 (!v69.2) a0 v69.1.inn v69.1.pl.A v69.1.pl.B v69.1.pl.C v69.1.pl.D v69.1.kids) (frk (t3==2) ((Dimpl_put n a0.1.2.2.2.2.2.2.2 a0.1.2.2.1 t4).bind fun v70=>Dimpl_Mix_4 n t1 (!v70.2) a0 v70.1.inn v70.1.pl.A v70.1.pl.B v70.1.pl.C v70.1.pl.D v70.1.kids) (frk (t3==3) ((Dimpl_put n a0.1.2.2.2.2.2.2.2 a0.1.2.2.2.1 t4).bind fun v71=>Dimpl_Mix_4 n t1 (!v71.2) a0 v71.1.inn v71.1.pl.A v71.1.pl.B v71.1.pl.C v71.1.pl.D v71.1.kids) (frk (t3==4) ((Dimpl_put n a0.1.2.2.2.2.2.2.2 a0.1.2.2.2.2.1 t4).bind fun v72=>Dimpl_Mix_4 n t1 (!v72.2) a0 v72.1.inn v72.1.pl.A v72.1.pl.B v72.1.pl.C v72.1.pl.D v72.1.kids) (frk (t3==5) ((Dimpl_put n a0.1.2.2.2.2.2.2.2 a0.1.2.2.2.2.2.1 t4).bind fun v73=>Dimpl_Mix_4 n t1 (!v73.2) a0 v73.1.inn v73.1.pl.A v73.1.pl.B v73.1.pl.C v73.1.pl.D v73.1.kids) (frk (t3==6) ((Dimpl_put n a0.1.2.2.2.2.2.2.2 a0.1.2.2.2.2.2.2.1 t4).bind fun v74=>Dimpl_Mix_4 n t1 (!v74.2) a0 v74.1.inn v74.1.pl.A v74.1.pl.B v74.1.pl.C v74.1.pl.D v74.1.kids) (frk (t3==7) ((Dimpl_put n a0.1.2.2.2.2.2.2.2 a0.1.2.2.2.2.2.2.2 t4).bind fun v75=>Dimpl_Mix_4 n t1 (!v75.2) a0 v75.1.inn v75.1.pl.A v75.1.pl.B v75.1.pl.C v75.1.pl.D v75.1.kids) (none))))))))) (none)))))))))
theorem Timpl_Mix_3{Y}(n:Nat)(t1 t2 t3 t4:Int)(t40:Bool)(a0:Dsk)(r:(Dsk×Int))(h:Dimpl_Mix_3 n t1 t2 t3 t4 t40 a0=some r):Wk Tryz.prog H Y 12 [.code (cp [1,0,0,1,1,1] (bodyOf Tryz.f12)),.blk 0,.code (cp [1,1] (bodyOf Tryz.f12))] (FinX Tryz.prog Tryz.f12 [] (.tup [.agg (cT38o r.1),i64 r.2]) []) ⟨[(1,i64 t1),(2,i64 t2),(3,i64 t3),(4,i64 t4),(5,.ptr 5 0),(10,.ptr 10 0),(40,bl t40)],[(5,⟨true,0,(cT38 a0)⟩),(10,⟨true,0,[bl false,i64 0,i64 0,i64 0,i64 0,.nil,bl false,i64 0,i64 0,i64 0,i64 0,.nil,bl false,i64 0,i64 0,i64 0,i64 0,.nil,bl false,i64 0,i64 0,i64 0,i64 0,.nil,bl false,i64 0,i64 0,i64 0,i64 0,.nil,bl false,i64 0,i64 0,i64 0,i64 0,.nil,bl false,i64 0,i64 0,i64 0,i64 0,.nil,bl false,i64 0,i64 0,i64 0,i64 0,.nil,bl false,bl false,bl false,bl false,bl false,bl false,bl false,bl false]⟩)]⟩:=by
 unfold Dimpl_Mix_3 at h
 refine x_frk 0 [] onil h (by kernel_rfl) (fun h=>?_) (fun h=>?_)
 ·obtain⟨v8,y8,h⟩:=bm h
  replace h:=sj h;subst h
  exact x_end 7 [(1,.call [] [] (.agg (cT38o v8)) [])] [] (ocons (Timpl_copyDesk (Y:=Y) n a0 _ y8) onil) onil 
 ·refine x_pt 6 [] onil (by kernel_rfl) ?_
  rcases frk_eq h with ⟨hc,hk225⟩ | h
  ·subst hc
   replace h:=hk225
   refine x_pt 4 [] onil (by kernel_rfl) ?_
   rcases frk_eq h with ⟨hc,hk161⟩ | h
   ·subst hc
    replace h:=hk161
    obtain⟨v9,y9,h⟩:=bm h
    exact x_to 17 [(3,.call [] [] (.tup [eS v9.1,bl v9.2]) [])] (ocons (Timpl_put (Y:=Y) n a0.1.1 a0.1.1 t4 _ y9) onil) (Timpl_Mix_4 n t1 (!v9.2) a0 v9.1.inn v9.1.pl.A v9.1.pl.B v9.1.pl.C v9.1.pl.D v9.1.kids r h) 
   rcases frk_eq h with ⟨hc,hk162⟩ | h
   ·subst hc
    replace h:=hk162
    obtain⟨v13,y13,h⟩:=bm h
    exact x_to 17 [(3,.call [] [] (.tup [eS v13.1,bl v13.2]) [])] (ocons (Timpl_put (Y:=Y) n a0.1.1 a0.1.2.1 t4 _ y13) onil) (Timpl_Mix_4 n t1 (!v13.2) a0 v13.1.inn v13.1.pl.A v13.1.pl.B v13.1.pl.C v13.1.pl.D v13.1.kids r h) 
   rcases frk_eq h with ⟨hc,hk163⟩ | h
   ·subst hc
    replace h:=hk163
    obtain⟨v14,y14,h⟩:=bm h
    exact x_to 17 [(3,.call [] [] (.tup [eS v14.1,bl v14.2]) [])] (ocons (Timpl_put (Y:=Y) n a0.1.1 a0.1.2.2.1 t4 _ y14) onil) (Timpl_Mix_4 n t1 (!v14.2) a0 v14.1.inn v14.1.pl.A v14.1.pl.B v14.1.pl.C v14.1.pl.D v14.1.kids r h) 
   rcases frk_eq h with ⟨hc,hk164⟩ | h
   ·subst hc
    replace h:=hk164
    obtain⟨v15,y15,h⟩:=bm h
    exact x_to 17 [(3,.call [] [] (.tup [eS v15.1,bl v15.2]) [])] (ocons (Timpl_put (Y:=Y) n a0.1.1 a0.1.2.2.2.1 t4 _ y15) onil) (Timpl_Mix_4 n t1 (!v15.2) a0 v15.1.inn v15.1.pl.A v15.1.pl.B v15.1.pl.C v15.1.pl.D v15.1.kids r h) 
   rcases frk_eq h with ⟨hc,hk165⟩ | h
   ·subst hc
    replace h:=hk165
    obtain⟨v16,y16,h⟩:=bm h
    exact x_to 17 [(3,.call [] [] (.tup [eS v16.1,bl v16.2]) [])] (ocons (Timpl_put (Y:=Y) n a0.1.1 a0.1.2.2.2.2.1 t4 _ y16) onil) (Timpl_Mix_4 n t1 (!v16.2) a0 v16.1.inn v16.1.pl.A v16.1.pl.B v16.1.pl.C v16.1.pl.D v16.1.kids r h) 
   rcases frk_eq h with ⟨hc,hk166⟩ | h
   ·subst hc
    replace h:=hk166
    obtain⟨v17,y17,h⟩:=bm h
    exact x_to 17 [(3,.call [] [] (.tup [eS v17.1,bl v17.2]) [])] (ocons (Timpl_put (Y:=Y) n a0.1.1 a0.1.2.2.2.2.2.1 t4 _ y17) onil) (Timpl_Mix_4 n t1 (!v17.2) a0 v17.1.inn v17.1.pl.A v17.1.pl.B v17.1.pl.C v17.1.pl.D v17.1.kids r h) 
   rcases frk_eq h with ⟨hc,hk167⟩ | h
   ·subst hc
    replace h:=hk167
    obtain⟨v18,y18,h⟩:=bm h
    exact x_to 17 [(3,.call [] [] (.tup [eS v18.1,bl v18.2]) [])] (ocons (Timpl_put (Y:=Y) n a0.1.1 a0.1.2.2.2.2.2.2.1 t4 _ y18) onil) (Timpl_Mix_4 n t1 (!v18.2) a0 v18.1.inn v18.1.pl.A v18.1.pl.B v18.1.pl.C v18.1.pl.D v18.1.kids r h) 
   rcases frk_eq h with ⟨hc,hk168⟩ | h
   ·subst hc
    replace h:=hk168
    obtain⟨v19,y19,h⟩:=bm h
    exact x_to 17 [(3,.call [] [] (.tup [eS v19.1,bl v19.2]) [])] (ocons (Timpl_put (Y:=Y) n a0.1.1 a0.1.2.2.2.2.2.2.2 t4 _ y19) onil) (Timpl_Mix_4 n t1 (!v19.2) a0 v19.1.inn v19.1.pl.A v19.1.pl.B v19.1.pl.C v19.1.pl.D v19.1.kids r h) 
   exact absurd h (by simp)
  rcases frk_eq h with ⟨hc,hk226⟩ | h
  ·subst hc
   replace h:=hk226
   refine x_pt 4 [] onil (by kernel_rfl) ?_
   rcases frk_eq h with ⟨hc,hk169⟩ | h
   ·subst hc
    replace h:=hk169
    obtain⟨v20,y20,h⟩:=bm h
    exact x_to 17 [(3,.call [] [] (.tup [eS v20.1,bl v20.2]) [])] (ocons (Timpl_put (Y:=Y) n a0.1.2.1 a0.1.1 t4 _ y20) onil) (Timpl_Mix_4 n t1 (!v20.2) a0 v20.1.inn v20.1.pl.A v20.1.pl.B v20.1.pl.C v20.1.pl.D v20.1.kids r h) 
   rcases frk_eq h with ⟨hc,hk170⟩ | h
   ·subst hc
    replace h:=hk170
    obtain⟨v21,y21,h⟩:=bm h
    exact x_to 17 [(3,.call [] [] (.tup [eS v21.1,bl v21.2]) [])] (ocons (Timpl_put (Y:=Y) n a0.1.2.1 a0.1.2.1 t4 _ y21) onil) (Timpl_Mix_4 n t1 (!v21.2) a0 v21.1.inn v21.1.pl.A v21.1.pl.B v21.1.pl.C v21.1.pl.D v21.1.kids r h) 
   rcases frk_eq h with ⟨hc,hk171⟩ | h
   ·subst hc
    replace h:=hk171
    obtain⟨v22,y22,h⟩:=bm h
    exact x_to 17 [(3,.call [] [] (.tup [eS v22.1,bl v22.2]) [])] (ocons (Timpl_put (Y:=Y) n a0.1.2.1 a0.1.2.2.1 t4 _ y22) onil) (Timpl_Mix_4 n t1 (!v22.2) a0 v22.1.inn v22.1.pl.A v22.1.pl.B v22.1.pl.C v22.1.pl.D v22.1.kids r h) 
   rcases frk_eq h with ⟨hc,hk172⟩ | h
   ·subst hc
    replace h:=hk172
    obtain⟨v23,y23,h⟩:=bm h
    exact x_to 17 [(3,.call [] [] (.tup [eS v23.1,bl v23.2]) [])] (ocons (Timpl_put (Y:=Y) n a0.1.2.1 a0.1.2.2.2.1 t4 _ y23) onil) (Timpl_Mix_4 n t1 (!v23.2) a0 v23.1.inn v23.1.pl.A v23.1.pl.B v23.1.pl.C v23.1.pl.D v23.1.kids r h) 
   rcases frk_eq h with ⟨hc,hk173⟩ | h
   ·subst hc
    replace h:=hk173
    obtain⟨v24,y24,h⟩:=bm h
    exact x_to 17 [(3,.call [] [] (.tup [eS v24.1,bl v24.2]) [])] (ocons (Timpl_put (Y:=Y) n a0.1.2.1 a0.1.2.2.2.2.1 t4 _ y24) onil) (Timpl_Mix_4 n t1 (!v24.2) a0 v24.1.inn v24.1.pl.A v24.1.pl.B v24.1.pl.C v24.1.pl.D v24.1.kids r h) 
   rcases frk_eq h with ⟨hc,hk174⟩ | h
   ·subst hc
    replace h:=hk174
    obtain⟨v25,y25,h⟩:=bm h
    exact x_to 17 [(3,.call [] [] (.tup [eS v25.1,bl v25.2]) [])] (ocons (Timpl_put (Y:=Y) n a0.1.2.1 a0.1.2.2.2.2.2.1 t4 _ y25) onil) (Timpl_Mix_4 n t1 (!v25.2) a0 v25.1.inn v25.1.pl.A v25.1.pl.B v25.1.pl.C v25.1.pl.D v25.1.kids r h) 
   rcases frk_eq h with ⟨hc,hk175⟩ | h
   ·subst hc
    replace h:=hk175
    obtain⟨v26,y26,h⟩:=bm h
    exact x_to 17 [(3,.call [] [] (.tup [eS v26.1,bl v26.2]) [])] (ocons (Timpl_put (Y:=Y) n a0.1.2.1 a0.1.2.2.2.2.2.2.1 t4 _ y26) onil) (Timpl_Mix_4 n t1 (!v26.2) a0 v26.1.inn v26.1.pl.A v26.1.pl.B v26.1.pl.C v26.1.pl.D v26.1.kids r h) 
   rcases frk_eq h with ⟨hc,hk176⟩ | h
   ·subst hc
    replace h:=hk176
    obtain⟨v27,y27,h⟩:=bm h
    exact x_to 17 [(3,.call [] [] (.tup [eS v27.1,bl v27.2]) [])] (ocons (Timpl_put (Y:=Y) n a0.1.2.1 a0.1.2.2.2.2.2.2.2 t4 _ y27) onil) (Timpl_Mix_4 n t1 (!v27.2) a0 v27.1.inn v27.1.pl.A v27.1.pl.B v27.1.pl.C v27.1.pl.D v27.1.kids r h) 
   exact absurd h (by simp)
  rcases frk_eq h with ⟨hc,hk227⟩ | h
  ·subst hc
   replace h:=hk227
   refine x_pt 4 [] onil (by kernel_rfl) ?_
   rcases frk_eq h with ⟨hc,hk177⟩ | h
   ·subst hc
    replace h:=hk177
    obtain⟨v28,y28,h⟩:=bm h
    exact x_to 17 [(3,.call [] [] (.tup [eS v28.1,bl v28.2]) [])] (ocons (Timpl_put (Y:=Y) n a0.1.2.2.1 a0.1.1 t4 _ y28) onil) (Timpl_Mix_4 n t1 (!v28.2) a0 v28.1.inn v28.1.pl.A v28.1.pl.B v28.1.pl.C v28.1.pl.D v28.1.kids r h) 
   rcases frk_eq h with ⟨hc,hk178⟩ | h
   ·subst hc
    replace h:=hk178
    obtain⟨v29,y29,h⟩:=bm h
    exact x_to 17 [(3,.call [] [] (.tup [eS v29.1,bl v29.2]) [])] (ocons (Timpl_put (Y:=Y) n a0.1.2.2.1 a0.1.2.1 t4 _ y29) onil) (Timpl_Mix_4 n t1 (!v29.2) a0 v29.1.inn v29.1.pl.A v29.1.pl.B v29.1.pl.C v29.1.pl.D v29.1.kids r h) 
   rcases frk_eq h with ⟨hc,hk179⟩ | h
   ·subst hc
    replace h:=hk179
    obtain⟨v30,y30,h⟩:=bm h
    exact x_to 17 [(3,.call [] [] (.tup [eS v30.1,bl v30.2]) [])] (ocons (Timpl_put (Y:=Y) n a0.1.2.2.1 a0.1.2.2.1 t4 _ y30) onil) (Timpl_Mix_4 n t1 (!v30.2) a0 v30.1.inn v30.1.pl.A v30.1.pl.B v30.1.pl.C v30.1.pl.D v30.1.kids r h) 
   rcases frk_eq h with ⟨hc,hk180⟩ | h
   ·subst hc
    replace h:=hk180
    obtain⟨v31,y31,h⟩:=bm h
    exact x_to 17 [(3,.call [] [] (.tup [eS v31.1,bl v31.2]) [])] (ocons (Timpl_put (Y:=Y) n a0.1.2.2.1 a0.1.2.2.2.1 t4 _ y31) onil) (Timpl_Mix_4 n t1 (!v31.2) a0 v31.1.inn v31.1.pl.A v31.1.pl.B v31.1.pl.C v31.1.pl.D v31.1.kids r h) 
   rcases frk_eq h with ⟨hc,hk181⟩ | h
   ·subst hc
    replace h:=hk181
    obtain⟨v32,y32,h⟩:=bm h
    exact x_to 17 [(3,.call [] [] (.tup [eS v32.1,bl v32.2]) [])] (ocons (Timpl_put (Y:=Y) n a0.1.2.2.1 a0.1.2.2.2.2.1 t4 _ y32) onil) (Timpl_Mix_4 n t1 (!v32.2) a0 v32.1.inn v32.1.pl.A v32.1.pl.B v32.1.pl.C v32.1.pl.D v32.1.kids r h) 
   rcases frk_eq h with ⟨hc,hk182⟩ | h
   ·subst hc
    replace h:=hk182
    obtain⟨v33,y33,h⟩:=bm h
    exact x_to 17 [(3,.call [] [] (.tup [eS v33.1,bl v33.2]) [])] (ocons (Timpl_put (Y:=Y) n a0.1.2.2.1 a0.1.2.2.2.2.2.1 t4 _ y33) onil) (Timpl_Mix_4 n t1 (!v33.2) a0 v33.1.inn v33.1.pl.A v33.1.pl.B v33.1.pl.C v33.1.pl.D v33.1.kids r h) 
   rcases frk_eq h with ⟨hc,hk183⟩ | h
   ·subst hc
    replace h:=hk183
    obtain⟨v34,y34,h⟩:=bm h
    exact x_to 17 [(3,.call [] [] (.tup [eS v34.1,bl v34.2]) [])] (ocons (Timpl_put (Y:=Y) n a0.1.2.2.1 a0.1.2.2.2.2.2.2.1 t4 _ y34) onil) (Timpl_Mix_4 n t1 (!v34.2) a0 v34.1.inn v34.1.pl.A v34.1.pl.B v34.1.pl.C v34.1.pl.D v34.1.kids r h) 
   rcases frk_eq h with ⟨hc,hk184⟩ | h
   ·subst hc
    replace h:=hk184
    obtain⟨v35,y35,h⟩:=bm h
    exact x_to 17 [(3,.call [] [] (.tup [eS v35.1,bl v35.2]) [])] (ocons (Timpl_put (Y:=Y) n a0.1.2.2.1 a0.1.2.2.2.2.2.2.2 t4 _ y35) onil) (Timpl_Mix_4 n t1 (!v35.2) a0 v35.1.inn v35.1.pl.A v35.1.pl.B v35.1.pl.C v35.1.pl.D v35.1.kids r h) 
   exact absurd h (by simp)
  rcases frk_eq h with ⟨hc,hk228⟩ | h
  ·subst hc
   replace h:=hk228
   refine x_pt 4 [] onil (by kernel_rfl) ?_
   rcases frk_eq h with ⟨hc,hk185⟩ | h
   ·subst hc
    replace h:=hk185
    obtain⟨v36,y36,h⟩:=bm h
    exact x_to 17 [(3,.call [] [] (.tup [eS v36.1,bl v36.2]) [])] (ocons (Timpl_put (Y:=Y) n a0.1.2.2.2.1 a0.1.1 t4 _ y36) onil) (Timpl_Mix_4 n t1 (!v36.2) a0 v36.1.inn v36.1.pl.A v36.1.pl.B v36.1.pl.C v36.1.pl.D v36.1.kids r h) 
   rcases frk_eq h with ⟨hc,hk186⟩ | h
   ·subst hc
    replace h:=hk186
    obtain⟨v37,y37,h⟩:=bm h
    exact x_to 17 [(3,.call [] [] (.tup [eS v37.1,bl v37.2]) [])] (ocons (Timpl_put (Y:=Y) n a0.1.2.2.2.1 a0.1.2.1 t4 _ y37) onil) (Timpl_Mix_4 n t1 (!v37.2) a0 v37.1.inn v37.1.pl.A v37.1.pl.B v37.1.pl.C v37.1.pl.D v37.1.kids r h) 
   rcases frk_eq h with ⟨hc,hk187⟩ | h
   ·subst hc
    replace h:=hk187
    obtain⟨v38,y38,h⟩:=bm h
    exact x_to 17 [(3,.call [] [] (.tup [eS v38.1,bl v38.2]) [])] (ocons (Timpl_put (Y:=Y) n a0.1.2.2.2.1 a0.1.2.2.1 t4 _ y38) onil) (Timpl_Mix_4 n t1 (!v38.2) a0 v38.1.inn v38.1.pl.A v38.1.pl.B v38.1.pl.C v38.1.pl.D v38.1.kids r h) 
   rcases frk_eq h with ⟨hc,hk188⟩ | h
   ·subst hc
    replace h:=hk188
    obtain⟨v39,y39,h⟩:=bm h
    exact x_to 17 [(3,.call [] [] (.tup [eS v39.1,bl v39.2]) [])] (ocons (Timpl_put (Y:=Y) n a0.1.2.2.2.1 a0.1.2.2.2.1 t4 _ y39) onil) (Timpl_Mix_4 n t1 (!v39.2) a0 v39.1.inn v39.1.pl.A v39.1.pl.B v39.1.pl.C v39.1.pl.D v39.1.kids r h) 
   rcases frk_eq h with ⟨hc,hk189⟩ | h
   ·subst hc
    replace h:=hk189
    obtain⟨v40,y40,h⟩:=bm h
    exact x_to 17 [(3,.call [] [] (.tup [eS v40.1,bl v40.2]) [])] (ocons (Timpl_put (Y:=Y) n a0.1.2.2.2.1 a0.1.2.2.2.2.1 t4 _ y40) onil) (Timpl_Mix_4 n t1 (!v40.2) a0 v40.1.inn v40.1.pl.A v40.1.pl.B v40.1.pl.C v40.1.pl.D v40.1.kids r h) 
   rcases frk_eq h with ⟨hc,hk190⟩ | h
   ·subst hc
    replace h:=hk190
    obtain⟨v41,y41,h⟩:=bm h
    exact x_to 17 [(3,.call [] [] (.tup [eS v41.1,bl v41.2]) [])] (ocons (Timpl_put (Y:=Y) n a0.1.2.2.2.1 a0.1.2.2.2.2.2.1 t4 _ y41) onil) (Timpl_Mix_4 n t1 (!v41.2) a0 v41.1.inn v41.1.pl.A v41.1.pl.B v41.1.pl.C v41.1.pl.D v41.1.kids r h) 
   rcases frk_eq h with ⟨hc,hk191⟩ | h
   ·subst hc
    replace h:=hk191
    obtain⟨v42,y42,h⟩:=bm h
    exact x_to 17 [(3,.call [] [] (.tup [eS v42.1,bl v42.2]) [])] (ocons (Timpl_put (Y:=Y) n a0.1.2.2.2.1 a0.1.2.2.2.2.2.2.1 t4 _ y42) onil) (Timpl_Mix_4 n t1 (!v42.2) a0 v42.1.inn v42.1.pl.A v42.1.pl.B v42.1.pl.C v42.1.pl.D v42.1.kids r h) 
   rcases frk_eq h with ⟨hc,hk192⟩ | h
   ·subst hc
    replace h:=hk192
    obtain⟨v43,y43,h⟩:=bm h
    exact x_to 17 [(3,.call [] [] (.tup [eS v43.1,bl v43.2]) [])] (ocons (Timpl_put (Y:=Y) n a0.1.2.2.2.1 a0.1.2.2.2.2.2.2.2 t4 _ y43) onil) (Timpl_Mix_4 n t1 (!v43.2) a0 v43.1.inn v43.1.pl.A v43.1.pl.B v43.1.pl.C v43.1.pl.D v43.1.kids r h) 
   exact absurd h (by simp)
  rcases frk_eq h with ⟨hc,hk229⟩ | h
  ·subst hc
   replace h:=hk229
   refine x_pt 4 [] onil (by kernel_rfl) ?_
   rcases frk_eq h with ⟨hc,hk193⟩ | h
   ·subst hc
    replace h:=hk193
    obtain⟨v44,y44,h⟩:=bm h
    exact x_to 17 [(3,.call [] [] (.tup [eS v44.1,bl v44.2]) [])] (ocons (Timpl_put (Y:=Y) n a0.1.2.2.2.2.1 a0.1.1 t4 _ y44) onil) (Timpl_Mix_4 n t1 (!v44.2) a0 v44.1.inn v44.1.pl.A v44.1.pl.B v44.1.pl.C v44.1.pl.D v44.1.kids r h) 
   rcases frk_eq h with ⟨hc,hk194⟩ | h
   ·subst hc
    replace h:=hk194
    obtain⟨v45,y45,h⟩:=bm h
    exact x_to 17 [(3,.call [] [] (.tup [eS v45.1,bl v45.2]) [])] (ocons (Timpl_put (Y:=Y) n a0.1.2.2.2.2.1 a0.1.2.1 t4 _ y45) onil) (Timpl_Mix_4 n t1 (!v45.2) a0 v45.1.inn v45.1.pl.A v45.1.pl.B v45.1.pl.C v45.1.pl.D v45.1.kids r h) 
   rcases frk_eq h with ⟨hc,hk195⟩ | h
   ·subst hc
    replace h:=hk195
    obtain⟨v46,y46,h⟩:=bm h
    exact x_to 17 [(3,.call [] [] (.tup [eS v46.1,bl v46.2]) [])] (ocons (Timpl_put (Y:=Y) n a0.1.2.2.2.2.1 a0.1.2.2.1 t4 _ y46) onil) (Timpl_Mix_4 n t1 (!v46.2) a0 v46.1.inn v46.1.pl.A v46.1.pl.B v46.1.pl.C v46.1.pl.D v46.1.kids r h) 
   rcases frk_eq h with ⟨hc,hk196⟩ | h
   ·subst hc
    replace h:=hk196
    obtain⟨v47,y47,h⟩:=bm h
    exact x_to 17 [(3,.call [] [] (.tup [eS v47.1,bl v47.2]) [])] (ocons (Timpl_put (Y:=Y) n a0.1.2.2.2.2.1 a0.1.2.2.2.1 t4 _ y47) onil) (Timpl_Mix_4 n t1 (!v47.2) a0 v47.1.inn v47.1.pl.A v47.1.pl.B v47.1.pl.C v47.1.pl.D v47.1.kids r h) 
   rcases frk_eq h with ⟨hc,hk197⟩ | h
   ·subst hc
    replace h:=hk197
    obtain⟨v48,y48,h⟩:=bm h
    exact x_to 17 [(3,.call [] [] (.tup [eS v48.1,bl v48.2]) [])] (ocons (Timpl_put (Y:=Y) n a0.1.2.2.2.2.1 a0.1.2.2.2.2.1 t4 _ y48) onil) (Timpl_Mix_4 n t1 (!v48.2) a0 v48.1.inn v48.1.pl.A v48.1.pl.B v48.1.pl.C v48.1.pl.D v48.1.kids r h) 
   rcases frk_eq h with ⟨hc,hk198⟩ | h
   ·subst hc
    replace h:=hk198
    obtain⟨v49,y49,h⟩:=bm h
    exact x_to 17 [(3,.call [] [] (.tup [eS v49.1,bl v49.2]) [])] (ocons (Timpl_put (Y:=Y) n a0.1.2.2.2.2.1 a0.1.2.2.2.2.2.1 t4 _ y49) onil) (Timpl_Mix_4 n t1 (!v49.2) a0 v49.1.inn v49.1.pl.A v49.1.pl.B v49.1.pl.C v49.1.pl.D v49.1.kids r h) 
   rcases frk_eq h with ⟨hc,hk199⟩ | h
   ·subst hc
    replace h:=hk199
    obtain⟨v50,y50,h⟩:=bm h
    exact x_to 17 [(3,.call [] [] (.tup [eS v50.1,bl v50.2]) [])] (ocons (Timpl_put (Y:=Y) n a0.1.2.2.2.2.1 a0.1.2.2.2.2.2.2.1 t4 _ y50) onil) (Timpl_Mix_4 n t1 (!v50.2) a0 v50.1.inn v50.1.pl.A v50.1.pl.B v50.1.pl.C v50.1.pl.D v50.1.kids r h) 
   rcases frk_eq h with ⟨hc,hk200⟩ | h
   ·subst hc
    replace h:=hk200
    obtain⟨v51,y51,h⟩:=bm h
    exact x_to 17 [(3,.call [] [] (.tup [eS v51.1,bl v51.2]) [])] (ocons (Timpl_put (Y:=Y) n a0.1.2.2.2.2.1 a0.1.2.2.2.2.2.2.2 t4 _ y51) onil) (Timpl_Mix_4 n t1 (!v51.2) a0 v51.1.inn v51.1.pl.A v51.1.pl.B v51.1.pl.C v51.1.pl.D v51.1.kids r h) 
   exact absurd h (by simp)
  rcases frk_eq h with ⟨hc,hk230⟩ | h
  ·subst hc
   replace h:=hk230
   refine x_pt 4 [] onil (by kernel_rfl) ?_
   rcases frk_eq h with ⟨hc,hk201⟩ | h
   ·subst hc
    replace h:=hk201
    obtain⟨v52,y52,h⟩:=bm h
    exact x_to 17 [(3,.call [] [] (.tup [eS v52.1,bl v52.2]) [])] (ocons (Timpl_put (Y:=Y) n a0.1.2.2.2.2.2.1 a0.1.1 t4 _ y52) onil) (Timpl_Mix_4 n t1 (!v52.2) a0 v52.1.inn v52.1.pl.A v52.1.pl.B v52.1.pl.C v52.1.pl.D v52.1.kids r h) 
   rcases frk_eq h with ⟨hc,hk202⟩ | h
   ·subst hc
    replace h:=hk202
    obtain⟨v53,y53,h⟩:=bm h
    exact x_to 17 [(3,.call [] [] (.tup [eS v53.1,bl v53.2]) [])] (ocons (Timpl_put (Y:=Y) n a0.1.2.2.2.2.2.1 a0.1.2.1 t4 _ y53) onil) (Timpl_Mix_4 n t1 (!v53.2) a0 v53.1.inn v53.1.pl.A v53.1.pl.B v53.1.pl.C v53.1.pl.D v53.1.kids r h) 
   rcases frk_eq h with ⟨hc,hk203⟩ | h
   ·subst hc
    replace h:=hk203
    obtain⟨v54,y54,h⟩:=bm h
    exact x_to 17 [(3,.call [] [] (.tup [eS v54.1,bl v54.2]) [])] (ocons (Timpl_put (Y:=Y) n a0.1.2.2.2.2.2.1 a0.1.2.2.1 t4 _ y54) onil) (Timpl_Mix_4 n t1 (!v54.2) a0 v54.1.inn v54.1.pl.A v54.1.pl.B v54.1.pl.C v54.1.pl.D v54.1.kids r h) 
   rcases frk_eq h with ⟨hc,hk204⟩ | h
   ·subst hc
    replace h:=hk204
    obtain⟨v55,y55,h⟩:=bm h
    exact x_to 17 [(3,.call [] [] (.tup [eS v55.1,bl v55.2]) [])] (ocons (Timpl_put (Y:=Y) n a0.1.2.2.2.2.2.1 a0.1.2.2.2.1 t4 _ y55) onil) (Timpl_Mix_4 n t1 (!v55.2) a0 v55.1.inn v55.1.pl.A v55.1.pl.B v55.1.pl.C v55.1.pl.D v55.1.kids r h) 
   rcases frk_eq h with ⟨hc,hk205⟩ | h
   ·subst hc
    replace h:=hk205
    obtain⟨v56,y56,h⟩:=bm h
    exact x_to 17 [(3,.call [] [] (.tup [eS v56.1,bl v56.2]) [])] (ocons (Timpl_put (Y:=Y) n a0.1.2.2.2.2.2.1 a0.1.2.2.2.2.1 t4 _ y56) onil) (Timpl_Mix_4 n t1 (!v56.2) a0 v56.1.inn v56.1.pl.A v56.1.pl.B v56.1.pl.C v56.1.pl.D v56.1.kids r h) 
   rcases frk_eq h with ⟨hc,hk206⟩ | h
   ·subst hc
    replace h:=hk206
    obtain⟨v57,y57,h⟩:=bm h
    exact x_to 17 [(3,.call [] [] (.tup [eS v57.1,bl v57.2]) [])] (ocons (Timpl_put (Y:=Y) n a0.1.2.2.2.2.2.1 a0.1.2.2.2.2.2.1 t4 _ y57) onil) (Timpl_Mix_4 n t1 (!v57.2) a0 v57.1.inn v57.1.pl.A v57.1.pl.B v57.1.pl.C v57.1.pl.D v57.1.kids r h) 
   rcases frk_eq h with ⟨hc,hk207⟩ | h
   ·subst hc
    replace h:=hk207
    obtain⟨v58,y58,h⟩:=bm h
    exact x_to 17 [(3,.call [] [] (.tup [eS v58.1,bl v58.2]) [])] (ocons (Timpl_put (Y:=Y) n a0.1.2.2.2.2.2.1 a0.1.2.2.2.2.2.2.1 t4 _ y58) onil) (Timpl_Mix_4 n t1 (!v58.2) a0 v58.1.inn v58.1.pl.A v58.1.pl.B v58.1.pl.C v58.1.pl.D v58.1.kids r h) 
   rcases frk_eq h with ⟨hc,hk208⟩ | h
   ·subst hc
    replace h:=hk208
    obtain⟨v59,y59,h⟩:=bm h
    exact x_to 17 [(3,.call [] [] (.tup [eS v59.1,bl v59.2]) [])] (ocons (Timpl_put (Y:=Y) n a0.1.2.2.2.2.2.1 a0.1.2.2.2.2.2.2.2 t4 _ y59) onil) (Timpl_Mix_4 n t1 (!v59.2) a0 v59.1.inn v59.1.pl.A v59.1.pl.B v59.1.pl.C v59.1.pl.D v59.1.kids r h) 
   exact absurd h (by simp)
  rcases frk_eq h with ⟨hc,hk231⟩ | h
  ·subst hc
   replace h:=hk231
   refine x_pt 4 [] onil (by kernel_rfl) ?_
   rcases frk_eq h with ⟨hc,hk209⟩ | h
   ·subst hc
    replace h:=hk209
    obtain⟨v60,y60,h⟩:=bm h
    exact x_to 17 [(3,.call [] [] (.tup [eS v60.1,bl v60.2]) [])] (ocons (Timpl_put (Y:=Y) n a0.1.2.2.2.2.2.2.1 a0.1.1 t4 _ y60) onil) (Timpl_Mix_4 n t1 (!v60.2) a0 v60.1.inn v60.1.pl.A v60.1.pl.B v60.1.pl.C v60.1.pl.D v60.1.kids r h) 
   rcases frk_eq h with ⟨hc,hk210⟩ | h
   ·subst hc
    replace h:=hk210
    obtain⟨v61,y61,h⟩:=bm h
    exact x_to 17 [(3,.call [] [] (.tup [eS v61.1,bl v61.2]) [])] (ocons (Timpl_put (Y:=Y) n a0.1.2.2.2.2.2.2.1 a0.1.2.1 t4 _ y61) onil) (Timpl_Mix_4 n t1 (!v61.2) a0 v61.1.inn v61.1.pl.A v61.1.pl.B v61.1.pl.C v61.1.pl.D v61.1.kids r h) 
   rcases frk_eq h with ⟨hc,hk211⟩ | h
   ·subst hc
    replace h:=hk211
    obtain⟨v62,y62,h⟩:=bm h
    exact x_to 17 [(3,.call [] [] (.tup [eS v62.1,bl v62.2]) [])] (ocons (Timpl_put (Y:=Y) n a0.1.2.2.2.2.2.2.1 a0.1.2.2.1 t4 _ y62) onil) (Timpl_Mix_4 n t1 (!v62.2) a0 v62.1.inn v62.1.pl.A v62.1.pl.B v62.1.pl.C v62.1.pl.D v62.1.kids r h) 
   rcases frk_eq h with ⟨hc,hk212⟩ | h
   ·subst hc
    replace h:=hk212
    obtain⟨v63,y63,h⟩:=bm h
    exact x_to 17 [(3,.call [] [] (.tup [eS v63.1,bl v63.2]) [])] (ocons (Timpl_put (Y:=Y) n a0.1.2.2.2.2.2.2.1 a0.1.2.2.2.1 t4 _ y63) onil) (Timpl_Mix_4 n t1 (!v63.2) a0 v63.1.inn v63.1.pl.A v63.1.pl.B v63.1.pl.C v63.1.pl.D v63.1.kids r h) 
   rcases frk_eq h with ⟨hc,hk213⟩ | h
   ·subst hc
    replace h:=hk213
    obtain⟨v64,y64,h⟩:=bm h
    exact x_to 17 [(3,.call [] [] (.tup [eS v64.1,bl v64.2]) [])] (ocons (Timpl_put (Y:=Y) n a0.1.2.2.2.2.2.2.1 a0.1.2.2.2.2.1 t4 _ y64) onil) (Timpl_Mix_4 n t1 (!v64.2) a0 v64.1.inn v64.1.pl.A v64.1.pl.B v64.1.pl.C v64.1.pl.D v64.1.kids r h) 
   rcases frk_eq h with ⟨hc,hk214⟩ | h
   ·subst hc
    replace h:=hk214
    obtain⟨v65,y65,h⟩:=bm h
    exact x_to 17 [(3,.call [] [] (.tup [eS v65.1,bl v65.2]) [])] (ocons (Timpl_put (Y:=Y) n a0.1.2.2.2.2.2.2.1 a0.1.2.2.2.2.2.1 t4 _ y65) onil) (Timpl_Mix_4 n t1 (!v65.2) a0 v65.1.inn v65.1.pl.A v65.1.pl.B v65.1.pl.C v65.1.pl.D v65.1.kids r h) 
   rcases frk_eq h with ⟨hc,hk215⟩ | h
   ·subst hc
    replace h:=hk215
    obtain⟨v66,y66,h⟩:=bm h
    exact x_to 17 [(3,.call [] [] (.tup [eS v66.1,bl v66.2]) [])] (ocons (Timpl_put (Y:=Y) n a0.1.2.2.2.2.2.2.1 a0.1.2.2.2.2.2.2.1 t4 _ y66) onil) (Timpl_Mix_4 n t1 (!v66.2) a0 v66.1.inn v66.1.pl.A v66.1.pl.B v66.1.pl.C v66.1.pl.D v66.1.kids r h) 
   rcases frk_eq h with ⟨hc,hk216⟩ | h
   ·subst hc
    replace h:=hk216
    obtain⟨v67,y67,h⟩:=bm h
    exact x_to 17 [(3,.call [] [] (.tup [eS v67.1,bl v67.2]) [])] (ocons (Timpl_put (Y:=Y) n a0.1.2.2.2.2.2.2.1 a0.1.2.2.2.2.2.2.2 t4 _ y67) onil) (Timpl_Mix_4 n t1 (!v67.2) a0 v67.1.inn v67.1.pl.A v67.1.pl.B v67.1.pl.C v67.1.pl.D v67.1.kids r h) 
   exact absurd h (by simp)
  rcases frk_eq h with ⟨hc,hk232⟩ | h
  ·subst hc
   replace h:=hk232
   refine x_pt 4 [] onil (by kernel_rfl) ?_
   rcases frk_eq h with ⟨hc,hk217⟩ | h
   ·subst hc
    replace h:=hk217
    obtain⟨v68,y68,h⟩:=bm h
    exact x_to 17 [(3,.call [] [] (.tup [eS v68.1,bl v68.2]) [])] (ocons (Timpl_put (Y:=Y) n a0.1.2.2.2.2.2.2.2 a0.1.1 t4 _ y68) onil) (Timpl_Mix_4 n t1 (!v68.2) a0 v68.1.inn v68.1.pl.A v68.1.pl.B v68.1.pl.C v68.1.pl.D v68.1.kids r h) 
   rcases frk_eq h with ⟨hc,hk218⟩ | h
   ·subst hc
    replace h:=hk218
    obtain⟨v69,y69,h⟩:=bm h
    exact x_to 17 [(3,.call [] [] (.tup [eS v69.1,bl v69.2]) [])] (ocons (Timpl_put (Y:=Y) n a0.1.2.2.2.2.2.2.2 a0.1.2.1 t4 _ y69) onil) (Timpl_Mix_4 n t1 (!v69.2) a0 v69.1.inn v69.1.pl.A v69.1.pl.B v69.1.pl.C v69.1.pl.D v69.1.kids r h) 
   rcases frk_eq h with ⟨hc,hk219⟩ | h
   ·subst hc
    replace h:=hk219
    obtain⟨v70,y70,h⟩:=bm h
    exact x_to 17 [(3,.call [] [] (.tup [eS v70.1,bl v70.2]) [])] (ocons (Timpl_put (Y:=Y) n a0.1.2.2.2.2.2.2.2 a0.1.2.2.1 t4 _ y70) onil) (Timpl_Mix_4 n t1 (!v70.2) a0 v70.1.inn v70.1.pl.A v70.1.pl.B v70.1.pl.C v70.1.pl.D v70.1.kids r h) 
   rcases frk_eq h with ⟨hc,hk220⟩ | h
   ·subst hc
    replace h:=hk220
    obtain⟨v71,y71,h⟩:=bm h
    exact x_to 17 [(3,.call [] [] (.tup [eS v71.1,bl v71.2]) [])] (ocons (Timpl_put (Y:=Y) n a0.1.2.2.2.2.2.2.2 a0.1.2.2.2.1 t4 _ y71) onil) (Timpl_Mix_4 n t1 (!v71.2) a0 v71.1.inn v71.1.pl.A v71.1.pl.B v71.1.pl.C v71.1.pl.D v71.1.kids r h) 
   rcases frk_eq h with ⟨hc,hk221⟩ | h
   ·subst hc
    replace h:=hk221
    obtain⟨v72,y72,h⟩:=bm h
    exact x_to 17 [(3,.call [] [] (.tup [eS v72.1,bl v72.2]) [])] (ocons (Timpl_put (Y:=Y) n a0.1.2.2.2.2.2.2.2 a0.1.2.2.2.2.1 t4 _ y72) onil) (Timpl_Mix_4 n t1 (!v72.2) a0 v72.1.inn v72.1.pl.A v72.1.pl.B v72.1.pl.C v72.1.pl.D v72.1.kids r h) 
   rcases frk_eq h with ⟨hc,hk222⟩ | h
   ·subst hc
    replace h:=hk222
    obtain⟨v73,y73,h⟩:=bm h
    exact x_to 17 [(3,.call [] [] (.tup [eS v73.1,bl v73.2]) [])] (ocons (Timpl_put (Y:=Y) n a0.1.2.2.2.2.2.2.2 a0.1.2.2.2.2.2.1 t4 _ y73) onil) (Timpl_Mix_4 n t1 (!v73.2) a0 v73.1.inn v73.1.pl.A v73.1.pl.B v73.1.pl.C v73.1.pl.D v73.1.kids r h) 
   rcases frk_eq h with ⟨hc,hk223⟩ | h
   ·subst hc
    replace h:=hk223
    obtain⟨v74,y74,h⟩:=bm h
    exact x_to 17 [(3,.call [] [] (.tup [eS v74.1,bl v74.2]) [])] (ocons (Timpl_put (Y:=Y) n a0.1.2.2.2.2.2.2.2 a0.1.2.2.2.2.2.2.1 t4 _ y74) onil) (Timpl_Mix_4 n t1 (!v74.2) a0 v74.1.inn v74.1.pl.A v74.1.pl.B v74.1.pl.C v74.1.pl.D v74.1.kids r h) 
   rcases frk_eq h with ⟨hc,hk224⟩ | h
   ·subst hc
    replace h:=hk224
    obtain⟨v75,y75,h⟩:=bm h
    exact x_to 17 [(3,.call [] [] (.tup [eS v75.1,bl v75.2]) [])] (ocons (Timpl_put (Y:=Y) n a0.1.2.2.2.2.2.2.2 a0.1.2.2.2.2.2.2.2 t4 _ y75) onil) (Timpl_Mix_4 n t1 (!v75.2) a0 v75.1.inn v75.1.pl.A v75.1.pl.B v75.1.pl.C v75.1.pl.D v75.1.kids r h) 
   exact absurd h (by simp)
  exact absurd h (by simp)
def Dimpl_Mix_1(n:Nat)(t1 t2 t3 t4:Int)(t14:Bool)(a0:Dsk):Option (Dsk×Int) :=
 frk t14 ((Dimpl_copyDesk n a0).bind fun v6=>some (v6,1)) (frk (t2==0) (frk (!a0.2.1) (Dimpl_Mix_2 n a0) (frk (t3==0) (Dimpl_Mix_3 n t1 0 0 t4 (!a0.2.1) a0) (frk (t3==1) (Dimpl_Mix_3 n t1 0 1 t4 (!a0.2.2.1) a0) (frk (t3==2) (Dimpl_Mix_3 n t1 0 2 t4 (!a0.2.2.2.1) a0) (frk (t3==3) (Dimpl_Mix_3 n t1 0 3 t4 (!a0.2.2.2.2.1) a0) (frk (t3==4) (Dimpl_Mix_3 n t1 0 4 t4 (!a0.2.2.2.2.2.1) a0) (frk (t3==5) (Dimpl_Mix_3 n t1 0 5 t4 (!a0.2.2.2.2.2.2.1) a0) (frk (t3==6) (Dimpl_Mix_3 n t1 0 6 t4 (!a0.2.2.2.2.2.2.2.1) a0) (frk (t3==7) (Dimpl_Mix_3 n t1 0 7 t4 (!a0.2.2.2.2.2.2.2.2) a0) (none)))))))))) (frk (t2==1) (frk (!a0.2.2.1) (Dimpl_Mix_2 n a0) (frk (t3==0) (Dimpl_Mix_3 n t1 1 0 t4 (!a0.2.1) a0) (frk (t3==1) (Dimpl_Mix_3 n t1 1 1 t4 (!a0.2.2.1) a0) (frk (t3==2) (Dimpl_Mix_3 n t1 1 2 t4 (!a0.2.2.2.1) a0) (frk (t3==3) (Dimpl_Mix_3 n t1 1 3 t4 (!a0.2.2.2.2.1) a0) (frk (t3==4) (Dimpl_Mix_3 n t1 1 4 t4 (!a0.2.2.2.2.2.1) a0) (frk (t3==5) (Dimpl_Mix_3 n t1 1 5 t4 (!a0.2.2.2.2.2.2.1) a0) (frk (t3==6) (Dimpl_Mix_3 n t1 1 6 t4 (!a0.2.2.2.2.2.2.2.1) a0) (frk (t3==7) (Dimpl_Mix_3 n t1 1 7 t4 (!a0.2.2.2.2.2.2.2.2) a0) (none)))))))))) (frk (t2==2) (frk (!a0.2.2.2.1) (Dimpl_Mix_2 n a0) (frk (t3==0) (Dimpl_Mix_3 n t1 2 0 t4 (!a0.2.1) a0) (frk (t3==1) (Dimpl_Mix_3 n t1 2 1 t4 (!a0.2.2.1) a0) (frk (t3==2) (Dimpl_Mix_3 n t1 2 2 t4 (!a0.2.2.2.1) a0) (frk (t3==3) (Dimpl_Mix_3 n t1 2 3 t4 (!a0.2.2.2.2.1) a0) (frk (t3==4) (Dimpl_Mix_3 n t1 2 4 t4 (!a0.2.2.2.2.2.1) a0) (frk (t3==5) (Dimpl_Mix_3 n t1 2 5 t4 (!a0.2.2.2.2.2.2.1) a0) (frk (t3==6) (Dimpl_Mix_3 n t1 2 6 t4 (!a0.2.2.2.2.2.2.2.1) a0) (frk (t3==7) (Dimpl_Mix_3 n t1 2 7 t4 (!a0.2.2.2.2.2.2.2.2) a0) (none)))))))))) (frk (t2==3) (frk (!a0.2.2.2.2.1) (Dimpl_Mix_2 n a0) (frk (t3==0) (Dimpl_Mix_3 n t1 3 0 t4 (!a0.2.1) a0) (frk (t3==1) (Dimpl_Mix_3 n t1 3 1 t4 (!a0.2.2.1) a0) (frk (t3==2) (Dimpl_Mix_3 n t1 3 2 t4 (!a0.2.2.2.1) a0) (frk (t3==3) (Dimpl_Mix_3 n t1 3 3 t4 (!a0.2.2.2.2.1) a0) (frk (t3==4) (Dimpl_Mix_3 n t1 3 4 t4 (!a0.2.2.2.2.2.1) a0) (frk (t3==5) (Dimpl_Mix_3 n t1 3 5 t4 (!a0.2.2.2.2.2.2.1) a0) (frk (t3==6) (Dimpl_Mix_3 n t1 3 6 t4 (!a0.2.2.2.2.2.2.2.1) a0) (frk (t3==7) (Dimpl_Mix_3 n t1 3 7 t4 (!a0.2.2.2.2.2.2.2.2) a0) (none)))))))))) (frk (t2==4) (frk (!a0.2.2.2.2.2.1) (Dimpl_Mix_2 n a0) (frk (t3==0) (Dimpl_Mix_3 n t1 4 0 t4 (!a0.2.1) a0) (frk (t3==1) (Dimpl_Mix_3 n t1 4 1 t4 (!a0.2.2.1) a0) (frk (t3==2) (Dimpl_Mix_3 n t1 4 2 t4 (!a0.2.2.2.1) a0) (frk (t3==3) (Dimpl_Mix_3 n t1 4 3 t4 (!a0.2.2.2.2.1) a0) (frk (t3==4) (Dimpl_Mix_3 n t1 4 4 t4 (!a0.2.2.2.2.2.1) a0) (frk (t3==5) (Dimpl_Mix_3 n t1 4 5 t4 (!a0.2.2.2.2.2.2.1) a0) (frk (t3==6) (Dimpl_Mix_3 n t1 4 6 t4 (!a0.2.2.2.2.2.2.2.1) a0) (frk (t3==7) (Dimpl_Mix_3 n t1 4 7 t4 (!a0.2.2.2.2.2.2.2.2) a0) (none)))))))))) (frk (t2==5) (frk (!a0.2.2.2.2.2.2.1) (Dimpl_Mix_2 n a0) (frk (t3==0) (Dimpl_Mix_3 n t1 5 0 t4 (!a0.2.1) a0) (frk (t3==1) (Dimpl_Mix_3 n t1 5 1 t4 (!a0.2.2.1) a0) (frk (t3==2) (Dimpl_Mix_3 n t1 5 2 t4 (!a0.2.2.2.1) a0) (frk (t3==3) (Dimpl_Mix_3 n t1 5 3 t4 (!a0.2.2.2.2.1) a0) (frk (t3==4) (Dimpl_Mix_3 n t1 5 4 t4 (!a0.2.2.2.2.2.1) a0) (frk (t3==5) (Dimpl_Mix_3 n t1 5 5 t4 (!a0.2.2.2.2.2.2.1) a0) (frk (t3==6) (Dimpl_Mix_3 n t1 5 6 t4 (!a0.2.2.2.2.2.2.2.1) a0) (frk (t3==7) (Dimpl_Mix_3 n t1 5 7 t4 (!a0.2.2.2.2.2.2.2.2) a0) (none)))))))))) (frk (t2==6) (frk (!a0.2.2.2.2.2.2.2.1) (Dimpl_Mix_2 n a0) (frk (t3==0) (Dimpl_Mix_3 n t1 6 0 t4 (!a0.2.1) a0) (frk (t3==1) (Dimpl_Mix_3 n t1 6 1 t4 (!a0.2.2.1) a0) (frk (t3==2) (Dimpl_Mix_3 n t1 6 2 t4 (!a0.2.2.2.1) a0) (frk (t3==3) (Dimpl_Mix_3 n t1 6 3 t4 (!a0.2.2.2.2.1) a0) (frk (t3==4) (Dimpl_Mix_3 n t1 6 4 t4 (!a0.2.2.2.2.2.1) a0) (frk (t3==5) (Dimpl_Mix_3 n t1 6 5 t4 (!a0.2.2.2.2.2.2.1) a0) (frk (t3==6) (Dimpl_Mix_3 n t1 6 6 t4 (!a0.2.2.2.2.2.2.2.1) a0) (frk (t3==7) (Dimpl_Mix_3 n t1 6 7 t4 (!a0.2.2.2.2.2.2.2.2) a0) (none)))))))))) (frk (t2==7) (frk (!a0.2.2.2.2.2.2.2.2) (Dimpl_Mix_2 n a0) (frk (t3==0) (Dimpl_Mix_3 n t1 7 0 t4 (!a0.2.1) a0) (frk (t3==1) (Dimpl_Mix_3 n t1 7 1 t4 (!a0.2.2.1) a0) (frk (t3==2) (Dimpl_Mix_3 n t1 7 2 t4 (!a0.2.2.2.1) a0) (frk (t3==3) (Dimpl_Mix_3 n t1 7 3 t4 (!a0.2.2.2.2.1) a0) (frk (t3==4) (Dimpl_Mix_3 n t1 7 4 t4 (!a0.2.2.2.2.2.1) a0) (frk (t3==5) (Dimpl_Mix_3 n t1 7 5 t4 (!a0.2.2.2.2.2.2.1) a0) (frk (t3==6) (Dimpl_Mix_3 n t1 7 6 t4 (!a0.2.2.2.2.2.2.2.1) a0) (frk (t3==7) (Dimpl_Mix_3 n t1 7 7 t4 (!a0.2.2.2.2.2.2.2.2) a0) (none)))))))))) (none)))))))))
theorem Timpl_Mix_1{Y}(n:Nat)(t1 t2 t3 t4:Int)(t14:Bool)(a0:Dsk)(r:(Dsk×Int))(h:Dimpl_Mix_1 n t1 t2 t3 t4 t14 a0=some r):Wk Tryz.prog H Y 12 [.code (cp [1,0,0,1] (bodyOf Tryz.f12)),.blk 0,.code (cp [1,1] (bodyOf Tryz.f12))] (FinX Tryz.prog Tryz.f12 [] (.tup [.agg (cT38o r.1),i64 r.2]) []) ⟨[(1,i64 t1),(2,i64 t2),(3,i64 t3),(4,i64 t4),(5,.ptr 5 0),(10,.ptr 10 0),(14,bl t14)],[(5,⟨true,0,(cT38 a0)⟩),(10,⟨true,0,[bl false,i64 0,i64 0,i64 0,i64 0,.nil,bl false,i64 0,i64 0,i64 0,i64 0,.nil,bl false,i64 0,i64 0,i64 0,i64 0,.nil,bl false,i64 0,i64 0,i64 0,i64 0,.nil,bl false,i64 0,i64 0,i64 0,i64 0,.nil,bl false,i64 0,i64 0,i64 0,i64 0,.nil,bl false,i64 0,i64 0,i64 0,i64 0,.nil,bl false,i64 0,i64 0,i64 0,i64 0,.nil,bl false,bl false,bl false,bl false,bl false,bl false,bl false,bl false]⟩)]⟩:=by
 unfold Dimpl_Mix_1 at h
 refine x_frk 0 [] onil h (by kernel_rfl) (fun h=>?_) (fun h=>?_)
 ·obtain⟨v6,y6,h⟩:=bm h
  replace h:=sj h;subst h
  exact x_end 7 [(1,.call [] [] (.agg (cT38o v6)) [])] [] (ocons (Timpl_copyDesk (Y:=Y) n a0 _ y6) onil) onil 
 ·refine x_pt 4 [] onil (by kernel_rfl) ?_
  rcases frk_eq h with ⟨hc,hk297⟩ | h
  ·subst hc
   replace h:=hk297
   refine x_frk 4 [] onil h (by kernel_rfl) (fun h=>?_) (fun h=>?_)
   ·exact x_to 10 [] onil (Timpl_Mix_2 n a0 r h) 
   ·refine x_pt 2 [] onil (by kernel_rfl) ?_
    rcases frk_eq h with ⟨hc,hk233⟩ | h
    ·subst hc
     replace h:=hk233
     exact x_to 6 [] onil (Timpl_Mix_3 n t1 0 0 t4 (!a0.2.1) a0 r h) 
    rcases frk_eq h with ⟨hc,hk234⟩ | h
    ·subst hc
     replace h:=hk234
     exact x_to 6 [] onil (Timpl_Mix_3 n t1 0 1 t4 (!a0.2.2.1) a0 r h) 
    rcases frk_eq h with ⟨hc,hk235⟩ | h
    ·subst hc
     replace h:=hk235
     exact x_to 6 [] onil (Timpl_Mix_3 n t1 0 2 t4 (!a0.2.2.2.1) a0 r h) 
    rcases frk_eq h with ⟨hc,hk236⟩ | h
    ·subst hc
     replace h:=hk236
     exact x_to 6 [] onil (Timpl_Mix_3 n t1 0 3 t4 (!a0.2.2.2.2.1) a0 r h) 
    rcases frk_eq h with ⟨hc,hk237⟩ | h
    ·subst hc
     replace h:=hk237
     exact x_to 6 [] onil (Timpl_Mix_3 n t1 0 4 t4 (!a0.2.2.2.2.2.1) a0 r h) 
    rcases frk_eq h with ⟨hc,hk238⟩ | h
    ·subst hc
     replace h:=hk238
     exact x_to 6 [] onil (Timpl_Mix_3 n t1 0 5 t4 (!a0.2.2.2.2.2.2.1) a0 r h) 
    rcases frk_eq h with ⟨hc,hk239⟩ | h
    ·subst hc
     replace h:=hk239
     exact x_to 6 [] onil (Timpl_Mix_3 n t1 0 6 t4 (!a0.2.2.2.2.2.2.2.1) a0 r h) 
    rcases frk_eq h with ⟨hc,hk240⟩ | h
    ·subst hc
     replace h:=hk240
     exact x_to 6 [] onil (Timpl_Mix_3 n t1 0 7 t4 (!a0.2.2.2.2.2.2.2.2) a0 r h) 
    exact absurd h (by simp)
  rcases frk_eq h with ⟨hc,hk298⟩ | h
  ·subst hc
   replace h:=hk298
   refine x_frk 4 [] onil h (by kernel_rfl) (fun h=>?_) (fun h=>?_)
   ·exact x_to 10 [] onil (Timpl_Mix_2 n a0 r h) 
   ·refine x_pt 2 [] onil (by kernel_rfl) ?_
    rcases frk_eq h with ⟨hc,hk241⟩ | h
    ·subst hc
     replace h:=hk241
     exact x_to 6 [] onil (Timpl_Mix_3 n t1 1 0 t4 (!a0.2.1) a0 r h) 
    rcases frk_eq h with ⟨hc,hk242⟩ | h
    ·subst hc
     replace h:=hk242
     exact x_to 6 [] onil (Timpl_Mix_3 n t1 1 1 t4 (!a0.2.2.1) a0 r h) 
    rcases frk_eq h with ⟨hc,hk243⟩ | h
    ·subst hc
     replace h:=hk243
     exact x_to 6 [] onil (Timpl_Mix_3 n t1 1 2 t4 (!a0.2.2.2.1) a0 r h) 
    rcases frk_eq h with ⟨hc,hk244⟩ | h
    ·subst hc
     replace h:=hk244
     exact x_to 6 [] onil (Timpl_Mix_3 n t1 1 3 t4 (!a0.2.2.2.2.1) a0 r h) 
    rcases frk_eq h with ⟨hc,hk245⟩ | h
    ·subst hc
     replace h:=hk245
     exact x_to 6 [] onil (Timpl_Mix_3 n t1 1 4 t4 (!a0.2.2.2.2.2.1) a0 r h) 
    rcases frk_eq h with ⟨hc,hk246⟩ | h
    ·subst hc
     replace h:=hk246
     exact x_to 6 [] onil (Timpl_Mix_3 n t1 1 5 t4 (!a0.2.2.2.2.2.2.1) a0 r h) 
    rcases frk_eq h with ⟨hc,hk247⟩ | h
    ·subst hc
     replace h:=hk247
     exact x_to 6 [] onil (Timpl_Mix_3 n t1 1 6 t4 (!a0.2.2.2.2.2.2.2.1) a0 r h) 
    rcases frk_eq h with ⟨hc,hk248⟩ | h
    ·subst hc
     replace h:=hk248
     exact x_to 6 [] onil (Timpl_Mix_3 n t1 1 7 t4 (!a0.2.2.2.2.2.2.2.2) a0 r h) 
    exact absurd h (by simp)
  rcases frk_eq h with ⟨hc,hk299⟩ | h
  ·subst hc
   replace h:=hk299
   refine x_frk 4 [] onil h (by kernel_rfl) (fun h=>?_) (fun h=>?_)
   ·exact x_to 10 [] onil (Timpl_Mix_2 n a0 r h) 
   ·refine x_pt 2 [] onil (by kernel_rfl) ?_
    rcases frk_eq h with ⟨hc,hk249⟩ | h
    ·subst hc
     replace h:=hk249
     exact x_to 6 [] onil (Timpl_Mix_3 n t1 2 0 t4 (!a0.2.1) a0 r h) 
    rcases frk_eq h with ⟨hc,hk250⟩ | h
    ·subst hc
     replace h:=hk250
     exact x_to 6 [] onil (Timpl_Mix_3 n t1 2 1 t4 (!a0.2.2.1) a0 r h) 
    rcases frk_eq h with ⟨hc,hk251⟩ | h
    ·subst hc
     replace h:=hk251
     exact x_to 6 [] onil (Timpl_Mix_3 n t1 2 2 t4 (!a0.2.2.2.1) a0 r h) 
    rcases frk_eq h with ⟨hc,hk252⟩ | h
    ·subst hc
     replace h:=hk252
     exact x_to 6 [] onil (Timpl_Mix_3 n t1 2 3 t4 (!a0.2.2.2.2.1) a0 r h) 
    rcases frk_eq h with ⟨hc,hk253⟩ | h
    ·subst hc
     replace h:=hk253
     exact x_to 6 [] onil (Timpl_Mix_3 n t1 2 4 t4 (!a0.2.2.2.2.2.1) a0 r h) 
    rcases frk_eq h with ⟨hc,hk254⟩ | h
    ·subst hc
     replace h:=hk254
     exact x_to 6 [] onil (Timpl_Mix_3 n t1 2 5 t4 (!a0.2.2.2.2.2.2.1) a0 r h) 
    rcases frk_eq h with ⟨hc,hk255⟩ | h
    ·subst hc
     replace h:=hk255
     exact x_to 6 [] onil (Timpl_Mix_3 n t1 2 6 t4 (!a0.2.2.2.2.2.2.2.1) a0 r h) 
    rcases frk_eq h with ⟨hc,hk256⟩ | h
    ·subst hc
     replace h:=hk256
     exact x_to 6 [] onil (Timpl_Mix_3 n t1 2 7 t4 (!a0.2.2.2.2.2.2.2.2) a0 r h) 
    exact absurd h (by simp)
  rcases frk_eq h with ⟨hc,hk300⟩ | h
  ·subst hc
   replace h:=hk300
   refine x_frk 4 [] onil h (by kernel_rfl) (fun h=>?_) (fun h=>?_)
   ·exact x_to 10 [] onil (Timpl_Mix_2 n a0 r h) 
   ·refine x_pt 2 [] onil (by kernel_rfl) ?_
    rcases frk_eq h with ⟨hc,hk257⟩ | h
    ·subst hc
     replace h:=hk257
     exact x_to 6 [] onil (Timpl_Mix_3 n t1 3 0 t4 (!a0.2.1) a0 r h) 
    rcases frk_eq h with ⟨hc,hk258⟩ | h
    ·subst hc
     replace h:=hk258
     exact x_to 6 [] onil (Timpl_Mix_3 n t1 3 1 t4 (!a0.2.2.1) a0 r h) 
    rcases frk_eq h with ⟨hc,hk259⟩ | h
    ·subst hc
     replace h:=hk259
     exact x_to 6 [] onil (Timpl_Mix_3 n t1 3 2 t4 (!a0.2.2.2.1) a0 r h) 
    rcases frk_eq h with ⟨hc,hk260⟩ | h
    ·subst hc
     replace h:=hk260
     exact x_to 6 [] onil (Timpl_Mix_3 n t1 3 3 t4 (!a0.2.2.2.2.1) a0 r h) 
    rcases frk_eq h with ⟨hc,hk261⟩ | h
    ·subst hc
     replace h:=hk261
     exact x_to 6 [] onil (Timpl_Mix_3 n t1 3 4 t4 (!a0.2.2.2.2.2.1) a0 r h) 
    rcases frk_eq h with ⟨hc,hk262⟩ | h
    ·subst hc
     replace h:=hk262
     exact x_to 6 [] onil (Timpl_Mix_3 n t1 3 5 t4 (!a0.2.2.2.2.2.2.1) a0 r h) 
    rcases frk_eq h with ⟨hc,hk263⟩ | h
    ·subst hc
     replace h:=hk263
     exact x_to 6 [] onil (Timpl_Mix_3 n t1 3 6 t4 (!a0.2.2.2.2.2.2.2.1) a0 r h) 
    rcases frk_eq h with ⟨hc,hk264⟩ | h
    ·subst hc
     replace h:=hk264
     exact x_to 6 [] onil (Timpl_Mix_3 n t1 3 7 t4 (!a0.2.2.2.2.2.2.2.2) a0 r h) 
    exact absurd h (by simp)
  rcases frk_eq h with ⟨hc,hk301⟩ | h
  ·subst hc
   replace h:=hk301
   refine x_frk 4 [] onil h (by kernel_rfl) (fun h=>?_) (fun h=>?_)
   ·exact x_to 10 [] onil (Timpl_Mix_2 n a0 r h) 
   ·refine x_pt 2 [] onil (by kernel_rfl) ?_
    rcases frk_eq h with ⟨hc,hk265⟩ | h
    ·subst hc
     replace h:=hk265
     exact x_to 6 [] onil (Timpl_Mix_3 n t1 4 0 t4 (!a0.2.1) a0 r h) 
    rcases frk_eq h with ⟨hc,hk266⟩ | h
    ·subst hc
     replace h:=hk266
     exact x_to 6 [] onil (Timpl_Mix_3 n t1 4 1 t4 (!a0.2.2.1) a0 r h) 
    rcases frk_eq h with ⟨hc,hk267⟩ | h
    ·subst hc
     replace h:=hk267
     exact x_to 6 [] onil (Timpl_Mix_3 n t1 4 2 t4 (!a0.2.2.2.1) a0 r h) 
    rcases frk_eq h with ⟨hc,hk268⟩ | h
    ·subst hc
     replace h:=hk268
     exact x_to 6 [] onil (Timpl_Mix_3 n t1 4 3 t4 (!a0.2.2.2.2.1) a0 r h) 
    rcases frk_eq h with ⟨hc,hk269⟩ | h
    ·subst hc
     replace h:=hk269
     exact x_to 6 [] onil (Timpl_Mix_3 n t1 4 4 t4 (!a0.2.2.2.2.2.1) a0 r h) 
    rcases frk_eq h with ⟨hc,hk270⟩ | h
    ·subst hc
     replace h:=hk270
     exact x_to 6 [] onil (Timpl_Mix_3 n t1 4 5 t4 (!a0.2.2.2.2.2.2.1) a0 r h) 
    rcases frk_eq h with ⟨hc,hk271⟩ | h
    ·subst hc
     replace h:=hk271
     exact x_to 6 [] onil (Timpl_Mix_3 n t1 4 6 t4 (!a0.2.2.2.2.2.2.2.1) a0 r h) 
    rcases frk_eq h with ⟨hc,hk272⟩ | h
    ·subst hc
     replace h:=hk272
     exact x_to 6 [] onil (Timpl_Mix_3 n t1 4 7 t4 (!a0.2.2.2.2.2.2.2.2) a0 r h) 
    exact absurd h (by simp)
  rcases frk_eq h with ⟨hc,hk302⟩ | h
  ·subst hc
   replace h:=hk302
   refine x_frk 4 [] onil h (by kernel_rfl) (fun h=>?_) (fun h=>?_)
   ·exact x_to 10 [] onil (Timpl_Mix_2 n a0 r h) 
   ·refine x_pt 2 [] onil (by kernel_rfl) ?_
    rcases frk_eq h with ⟨hc,hk273⟩ | h
    ·subst hc
     replace h:=hk273
     exact x_to 6 [] onil (Timpl_Mix_3 n t1 5 0 t4 (!a0.2.1) a0 r h) 
    rcases frk_eq h with ⟨hc,hk274⟩ | h
    ·subst hc
     replace h:=hk274
     exact x_to 6 [] onil (Timpl_Mix_3 n t1 5 1 t4 (!a0.2.2.1) a0 r h) 
    rcases frk_eq h with ⟨hc,hk275⟩ | h
    ·subst hc
     replace h:=hk275
     exact x_to 6 [] onil (Timpl_Mix_3 n t1 5 2 t4 (!a0.2.2.2.1) a0 r h) 
    rcases frk_eq h with ⟨hc,hk276⟩ | h
    ·subst hc
     replace h:=hk276
     exact x_to 6 [] onil (Timpl_Mix_3 n t1 5 3 t4 (!a0.2.2.2.2.1) a0 r h) 
    rcases frk_eq h with ⟨hc,hk277⟩ | h
    ·subst hc
     replace h:=hk277
     exact x_to 6 [] onil (Timpl_Mix_3 n t1 5 4 t4 (!a0.2.2.2.2.2.1) a0 r h) 
    rcases frk_eq h with ⟨hc,hk278⟩ | h
    ·subst hc
     replace h:=hk278
     exact x_to 6 [] onil (Timpl_Mix_3 n t1 5 5 t4 (!a0.2.2.2.2.2.2.1) a0 r h) 
    rcases frk_eq h with ⟨hc,hk279⟩ | h
    ·subst hc
     replace h:=hk279
     exact x_to 6 [] onil (Timpl_Mix_3 n t1 5 6 t4 (!a0.2.2.2.2.2.2.2.1) a0 r h) 
    rcases frk_eq h with ⟨hc,hk280⟩ | h
    ·subst hc
     replace h:=hk280
     exact x_to 6 [] onil (Timpl_Mix_3 n t1 5 7 t4 (!a0.2.2.2.2.2.2.2.2) a0 r h) 
    exact absurd h (by simp)
  rcases frk_eq h with ⟨hc,hk303⟩ | h
  ·subst hc
   replace h:=hk303
   refine x_frk 4 [] onil h (by kernel_rfl) (fun h=>?_) (fun h=>?_)
   ·exact x_to 10 [] onil (Timpl_Mix_2 n a0 r h) 
   ·refine x_pt 2 [] onil (by kernel_rfl) ?_
    rcases frk_eq h with ⟨hc,hk281⟩ | h
    ·subst hc
     replace h:=hk281
     exact x_to 6 [] onil (Timpl_Mix_3 n t1 6 0 t4 (!a0.2.1) a0 r h) 
    rcases frk_eq h with ⟨hc,hk282⟩ | h
    ·subst hc
     replace h:=hk282
     exact x_to 6 [] onil (Timpl_Mix_3 n t1 6 1 t4 (!a0.2.2.1) a0 r h) 
    rcases frk_eq h with ⟨hc,hk283⟩ | h
    ·subst hc
     replace h:=hk283
     exact x_to 6 [] onil (Timpl_Mix_3 n t1 6 2 t4 (!a0.2.2.2.1) a0 r h) 
    rcases frk_eq h with ⟨hc,hk284⟩ | h
    ·subst hc
     replace h:=hk284
     exact x_to 6 [] onil (Timpl_Mix_3 n t1 6 3 t4 (!a0.2.2.2.2.1) a0 r h) 
    rcases frk_eq h with ⟨hc,hk285⟩ | h
    ·subst hc
     replace h:=hk285
     exact x_to 6 [] onil (Timpl_Mix_3 n t1 6 4 t4 (!a0.2.2.2.2.2.1) a0 r h) 
    rcases frk_eq h with ⟨hc,hk286⟩ | h
    ·subst hc
     replace h:=hk286
     exact x_to 6 [] onil (Timpl_Mix_3 n t1 6 5 t4 (!a0.2.2.2.2.2.2.1) a0 r h) 
    rcases frk_eq h with ⟨hc,hk287⟩ | h
    ·subst hc
     replace h:=hk287
     exact x_to 6 [] onil (Timpl_Mix_3 n t1 6 6 t4 (!a0.2.2.2.2.2.2.2.1) a0 r h) 
    rcases frk_eq h with ⟨hc,hk288⟩ | h
    ·subst hc
     replace h:=hk288
     exact x_to 6 [] onil (Timpl_Mix_3 n t1 6 7 t4 (!a0.2.2.2.2.2.2.2.2) a0 r h) 
    exact absurd h (by simp)
  rcases frk_eq h with ⟨hc,hk304⟩ | h
  ·subst hc
   replace h:=hk304
   refine x_frk 4 [] onil h (by kernel_rfl) (fun h=>?_) (fun h=>?_)
   ·exact x_to 10 [] onil (Timpl_Mix_2 n a0 r h) 
   ·refine x_pt 2 [] onil (by kernel_rfl) ?_
    rcases frk_eq h with ⟨hc,hk289⟩ | h
    ·subst hc
     replace h:=hk289
     exact x_to 6 [] onil (Timpl_Mix_3 n t1 7 0 t4 (!a0.2.1) a0 r h) 
    rcases frk_eq h with ⟨hc,hk290⟩ | h
    ·subst hc
     replace h:=hk290
     exact x_to 6 [] onil (Timpl_Mix_3 n t1 7 1 t4 (!a0.2.2.1) a0 r h) 
    rcases frk_eq h with ⟨hc,hk291⟩ | h
    ·subst hc
     replace h:=hk291
     exact x_to 6 [] onil (Timpl_Mix_3 n t1 7 2 t4 (!a0.2.2.2.1) a0 r h) 
    rcases frk_eq h with ⟨hc,hk292⟩ | h
    ·subst hc
     replace h:=hk292
     exact x_to 6 [] onil (Timpl_Mix_3 n t1 7 3 t4 (!a0.2.2.2.2.1) a0 r h) 
    rcases frk_eq h with ⟨hc,hk293⟩ | h
    ·subst hc
     replace h:=hk293
     exact x_to 6 [] onil (Timpl_Mix_3 n t1 7 4 t4 (!a0.2.2.2.2.2.1) a0 r h) 
    rcases frk_eq h with ⟨hc,hk294⟩ | h
    ·subst hc
     replace h:=hk294
     exact x_to 6 [] onil (Timpl_Mix_3 n t1 7 5 t4 (!a0.2.2.2.2.2.2.1) a0 r h) 
    rcases frk_eq h with ⟨hc,hk295⟩ | h
    ·subst hc
     replace h:=hk295
     exact x_to 6 [] onil (Timpl_Mix_3 n t1 7 6 t4 (!a0.2.2.2.2.2.2.2.1) a0 r h) 
    rcases frk_eq h with ⟨hc,hk296⟩ | h
    ·subst hc
     replace h:=hk296
     exact x_to 6 [] onil (Timpl_Mix_3 n t1 7 7 t4 (!a0.2.2.2.2.2.2.2.2) a0 r h) 
    exact absurd h (by simp)
  exact absurd h (by simp)
def Dimpl_Mix(n:Nat)(a0:Dsk)(a1 a2 a3 a4:Int):Option (Dsk×Int) :=
 (Dimpl_isPlace a1).bind fun v0=>frk (!v0) (Dimpl_Mix_0 n a0) ((Dimpl_isPlace a2).bind fun v2=>frk (!v2) (Dimpl_Mix_0 n a0) ((Dimpl_isPlace a3).bind fun v3=>frk (!v3) (Dimpl_Mix_0 n a0) ((Dimpl_isOp a4).bind fun v4=>frk (!v4) (Dimpl_Mix_0 n a0) ((Dimpl_DeskOk n a0).bind fun v5=>Dimpl_Mix_1 n a1 a2 a3 a4 (!v5) a0))))
theorem Timpl_Mix{Y}(n:Nat)(a0:Dsk)(a1 a2 a3 a4:Int)(r:(Dsk×Int))(h:Dimpl_Mix n a0 a1 a2 a3 a4=some r):Big Tryz.prog H Y (.call 12 [.agg (cT38 a0),i64 a1,i64 a2,i64 a3,i64 a4] (lk []) (.tup [.agg (cT38o r.1),i64 r.2]) (lk [])):=by
 unfold Dimpl_Mix at h
 refine x_call (fn:=Tryz.f12) (c:=bodyOf Tryz.f12) (bs0:=[]) Tryz.func12 (by kernel_rfl) (by kernel_rfl) ?_
 obtain⟨v0,y0,h⟩:=bm h
 refine x_frk 14 [(4,.call [] [] (bl v0) [])] (ocons (Timpl_isPlace (Y:=Y) a1 _ y0) onil) h (by kernel_rfl) (fun h=>?_) (fun h=>?_)
 ·exact x_to 23 [] onil (Timpl_Mix_0 n a0 r h) 
 ·obtain⟨v2,y2,h⟩:=bm h
  refine x_frk 5 [(1,.call [] [] (bl v2) [])] (ocons (Timpl_isPlace (Y:=Y) a2 _ y2) onil) h (by kernel_rfl) (fun h=>?_) (fun h=>?_)
  ·exact x_to 18 [] onil (Timpl_Mix_0 n a0 r h) 
  ·obtain⟨v3,y3,h⟩:=bm h
   refine x_frk 5 [(1,.call [] [] (bl v3) [])] (ocons (Timpl_isPlace (Y:=Y) a3 _ y3) onil) h (by kernel_rfl) (fun h=>?_) (fun h=>?_)
   ·exact x_to 13 [] onil (Timpl_Mix_0 n a0 r h) 
   ·obtain⟨v4,y4,h⟩:=bm h
    refine x_frk 5 [(1,.call [] [] (bl v4) [])] (ocons (Timpl_isOp (Y:=Y) a4 _ y4) onil) h (by kernel_rfl) (fun h=>?_) (fun h=>?_)
    ·exact x_to 8 [] onil (Timpl_Mix_0 n a0 r h) 
    ·obtain⟨v5,y5,h⟩:=bm h
     exact x_to 6 [(1,.call [] [] (bl v5) [])] (ocons (Timpl_DeskOk (Y:=Y) n a0 _ y5) onil) (Timpl_Mix_1 n a1 a2 a3 a4 (!v5) a0 r h) 
def Dlaws_eqPlane(a0:Pl)(a1:Pl):Option Bool :=
 frk (a0.A != a1.A) (some false) (frk (a0.B != a1.B) (some false) (frk (a0.C != a1.C) (some false) (frk (a0.D != a1.D) (some false) (some true))))
theorem Tlaws_eqPlane{Y}(a0:Pl)(a1:Pl)(r:Bool)(h:Dlaws_eqPlane a0 a1=some r):Big Tryz.prog H Y (.call 85 [.agg [i64 a0.A,i64 a0.B,i64 a0.C,i64 a0.D],.agg [i64 a1.A,i64 a1.B,i64 a1.C,i64 a1.D]] (lk []) (bl r) (lk [])):=by
 unfold Dlaws_eqPlane at h
 refine x_call (fn:=Tryz.f85) (c:=bodyOf Tryz.f85) (bs0:=[]) Tryz.func85 (by kernel_rfl) (by kernel_rfl) ?_
 refine x_frk 15 [] onil h (by kernel_rfl) (fun h=>?_) (fun h=>?_)
 ·replace h:=sj h;subst h
  exact x_end 4 [] [] onil onil 
 ·refine x_frk 10 [] onil h (by kernel_rfl) (fun h=>?_) (fun h=>?_)
  ·replace h:=sj h;subst h
   exact x_end 4 [] [] onil onil 
  ·refine x_frk 10 [] onil h (by kernel_rfl) (fun h=>?_) (fun h=>?_)
   ·replace h:=sj h;subst h
    exact x_end 4 [] [] onil onil 
   ·refine x_frk 10 [] onil h (by kernel_rfl) (fun h=>?_) (fun h=>?_)
    ·replace h:=sj h;subst h
     exact x_end 4 [] [] onil onil 
    ·replace h:=sj h;subst h
     exact x_end 5 [] [] onil onil 
def Dlaws_eqSolidS_in_0(_n:Nat)(self:(Sol×Sol)→Option Bool)(t0 t1:List Sol)(rec0:Int→Option Bool)(a:Int):Option Bool :=
 match a with
 | t5=>frk (decide (t5<(t0.length:Int))) ((lget t0 t5).bind fun v0=>(lget t1 t5).bind fun v1=>(self (v0,v1)).bind fun v2=>frk (!v2) (some false) (rec0 (w64 (t5+1)))) (some true)
theorem Tlaws_eqSolidS_in_0{Y}(n:Nat)(self:(Sol×Sol)→Option Bool)(hself:∀(a:(Sol×Sol)) (r:Bool),self a=some r→Big Tryz.prog H Y (.call 24 [eF a.1,eF a.2] (lk []) (bl r) (lk [])))(t0 t1:List Sol):∀(m:Nat) (a:Int) (r:Bool),loopN (Dlaws_eqSolidS_in_0 n self t0 t1) m a=some r→Wk Tryz.prog H Y 86 [.code (cp [1,1,0,1,0] (bodyOf Tryz.f86)),.blk 0,.code (cp [1,1,1] (bodyOf Tryz.f86))] (FinX Tryz.prog Tryz.f86 [] (bl r) []) ⟨[(0,.sl false 6 t0.length ((eSol false).f t0)),(1,.sl false 6 t1.length ((eSol false).f t1)),(5,i64 a)],[]⟩:=by
 refine loopN_ind (fun _rec0 hrec0 a r h=>?_)
 obtain⟨t5,rfl⟩:∃x,x=a:=⟨a,rfl⟩
 unfold Dlaws_eqSolidS_in_0 at h
 refine x_frk 9 [] onil h (by kernel_rfl) (fun h=>?_) (fun h=>?_)
 ·obtain⟨v0,y0,h⟩:=bm h
  obtain⟨v1,y1,h⟩:=bm h
  obtain⟨v2,y2,h⟩:=bm h
  refine x_frk 16 [(2,.val (.cptr ((eSol false).c v0++(eSol false).f ((t0).drop (Int.toNat t5+1))))),(3,.val (.cptr ((eSol false).c v1++(eSol false).f ((t1).drop (Int.toNat t5+1))))),(1,.call [] [] (bl v2) [])] (ocons (ix (eSol false) y0) (ocons (ix (eSol false) y1) (ocons (hself (v0,v1) _ y2) onil))) h (by kernel_rfl) (fun h=>?_) (fun h=>?_)
  ·replace h:=sj h;subst h
   exact x_end 4 [] [] onil onil 
  ·exact x_to 8 [] onil (hrec0 (w64 (t5+1)) r h) 
 ·replace h:=sj h;subst h
  exact x_end 5 [] [] onil onil 
def Dlaws_eqSolidS_in(n:Nat)(self:(Sol×Sol)→Option Bool)(a0:(List Sol))(a1:(List Sol)):Option Bool :=
 frk ((a0.length:Int) != (a1.length:Int)) (some false) (loopN (Dlaws_eqSolidS_in_0 n self a0 a1) n 0)
theorem Tlaws_eqSolidS_in{Y}(n:Nat)(self:(Sol×Sol)→Option Bool)(hself:∀(a:(Sol×Sol)) (r:Bool),self a=some r→Big Tryz.prog H Y (.call 24 [eF a.1,eF a.2] (lk []) (bl r) (lk [])))(a0:(List Sol))(a1:(List Sol))(r:Bool)(h:Dlaws_eqSolidS_in n self a0 a1=some r):Big Tryz.prog H Y (.call 86 [.sl false 6 a0.length ((eSol false).f a0),.sl false 6 a1.length ((eSol false).f a1)] (lk []) (bl r) (lk [])):=by
 unfold Dlaws_eqSolidS_in at h
 refine x_call (fn:=Tryz.f86) (c:=bodyOf Tryz.f86) (bs0:=[]) Tryz.func86 (by kernel_rfl) (by kernel_rfl) ?_
 refine x_frk 13 [] onil h (by kernel_rfl) (fun h=>?_) (fun h=>?_)
 ·replace h:=sj h;subst h
  exact x_end 4 [] [] onil onil 
 ·exact x_to 7 [] onil (Tlaws_eqSolidS_in_0 n self hself a0 a1 n 0 r h) 
def Dlaws_eqSolid_b(n:Nat)(self:(Sol×Sol)→Option Bool)(a:(Sol×Sol)):Option Bool :=
 match a with
 | (a0,a1)=>frk (!(a0.inn==a1.inn)) (some false) ((Dlaws_eqPlane a0.pl a1.pl).bind fun v0=>frk (!v0) (some false) ((Dlaws_eqSolidS_in n self a0.kids a1.kids).bind fun v1=>frk (!v1) (some false) (some true)))
def Dlaws_eqSolid(n:Nat)(a0:Sol)(a1:Sol):Option Bool:=loopN (Dlaws_eqSolid_b n) n (a0,a1)
theorem Tlaws_eqSolid_b{Y}(n:Nat):∀(m:Nat) (a:(Sol×Sol)) (r:Bool),loopN (Dlaws_eqSolid_b n) m a=some r→∀(_:Unit),Big Tryz.prog H Y (.call 24 [eF a.1,eF a.2] (lk []) (bl r) (lk [])):=by
 refine loopN_ind (fun self hs a r h=>?_)
 have hself:∀(a:(Sol×Sol)) (r:Bool),self a=some r→Big Tryz.prog H Y (.call 24 [eF a.1,eF a.2] (lk []) (bl r) (lk [])):=fun a r h=>hs a r h ()
 intro _
 obtain⟨a0,a1⟩:=a
 unfold Dlaws_eqSolid_b at h
 refine x_call (fn:=Tryz.f24) (c:=bodyOf Tryz.f24) (bs0:=[]) Tryz.func24 (by kernel_rfl) (by kernel_rfl) ?_
 refine x_frk 15 [] onil h (by kernel_rfl) (fun h=>?_) (fun h=>?_)
 ·replace h:=sj h;subst h
  exact x_end 4 [] [] onil onil 
 ·obtain⟨v0,y0,h⟩:=bm h
  refine x_frk 11 [(4,.call [] [] (bl v0) [])] (ocons (Tlaws_eqPlane (Y:=Y) a0.pl a1.pl _ y0) onil) h (by kernel_rfl) (fun h=>?_) (fun h=>?_)
  ·replace h:=sj h;subst h
   exact x_end 4 [] [] onil onil 
  ·obtain⟨v1,y1,h⟩:=bm h
   refine x_frk 11 [(4,.call [] [] (bl v1) [])] (ocons (Tlaws_eqSolidS_in (Y:=Y) n self hself a0.kids a1.kids _ y1) onil) h (by kernel_rfl) (fun h=>?_) (fun h=>?_)
   ·replace h:=sj h;subst h
    exact x_end 4 [] [] onil onil 
   ·replace h:=sj h;subst h
    exact x_end 5 [] [] onil onil 
theorem Tlaws_eqSolid{Y}(n:Nat)(a0:Sol)(a1:Sol)(r:Bool)(h:Dlaws_eqSolid n a0 a1=some r):Big Tryz.prog H Y (.call 24 [eF a0,eF a1] (lk []) (bl r) (lk [])):=Tlaws_eqSolid_b n n (a0,a1) r h ()
def Dlaws_eqSolidA8(n:Nat)(a0:(Sol×Sol×Sol×Sol×Sol×Sol×Sol×Sol))(a1:(Sol×Sol×Sol×Sol×Sol×Sol×Sol×Sol)):Option Bool :=
 (Dlaws_eqSolid n a0.1 a1.1).bind fun v0=>frk (!v0) (some false) ((Dlaws_eqSolid n a0.2.1 a1.2.1).bind fun v1=>frk (!v1) (some false) ((Dlaws_eqSolid n a0.2.2.1 a1.2.2.1).bind fun v2=>frk (!v2) (some false) ((Dlaws_eqSolid n a0.2.2.2.1 a1.2.2.2.1).bind fun v3=>frk (!v3) (some false) ((Dlaws_eqSolid n a0.2.2.2.2.1 a1.2.2.2.2.1).bind fun v4=>frk (!v4) (some false) ((Dlaws_eqSolid n a0.2.2.2.2.2.1 a1.2.2.2.2.2.1).bind fun v5=>frk (!v5) (some false) ((Dlaws_eqSolid n a0.2.2.2.2.2.2.1 a1.2.2.2.2.2.2.1).bind fun v6=>frk (!v6) (some false) ((Dlaws_eqSolid n a0.2.2.2.2.2.2.2 a1.2.2.2.2.2.2.2).bind fun v7=>frk (!v7) (some false) (some true))))))))
theorem Tlaws_eqSolidA8{Y}(n:Nat)(a0:(Sol×Sol×Sol×Sol×Sol×Sol×Sol×Sol))(a1:(Sol×Sol×Sol×Sol×Sol×Sol×Sol×Sol))(r:Bool)(h:Dlaws_eqSolidA8 n a0 a1=some r):Big Tryz.prog H Y (.call 65 [.agg (cT36 a0),.agg (cT36 a1)] (lk []) (bl r) (lk [])):=by
 unfold Dlaws_eqSolidA8 at h
 refine x_call (fn:=Tryz.f65) (c:=bodyOf Tryz.f65) (bs0:=[]) Tryz.func65 (by kernel_rfl) (by kernel_rfl) ?_
 obtain⟨v0,y0,h⟩:=bm h
 refine x_frk 34 [(12,.call [] [] (bl v0) [])] (ocons (Tlaws_eqSolid (Y:=Y) n a0.1 a1.1 _ y0) onil) h (by kernel_rfl) (fun h=>?_) (fun h=>?_)
 ·replace h:=sj h;subst h
  exact x_end 4 [] [] onil onil 
 ·obtain⟨v1,y1,h⟩:=bm h
  refine x_frk 30 [(11,.call [] [] (bl v1) [])] (ocons (Tlaws_eqSolid (Y:=Y) n a0.2.1 a1.2.1 _ y1) onil) h (by kernel_rfl) (fun h=>?_) (fun h=>?_)
  ·replace h:=sj h;subst h
   exact x_end 4 [] [] onil onil 
  ·obtain⟨v2,y2,h⟩:=bm h
   refine x_frk 30 [(11,.call [] [] (bl v2) [])] (ocons (Tlaws_eqSolid (Y:=Y) n a0.2.2.1 a1.2.2.1 _ y2) onil) h (by kernel_rfl) (fun h=>?_) (fun h=>?_)
   ·replace h:=sj h;subst h
    exact x_end 4 [] [] onil onil 
   ·obtain⟨v3,y3,h⟩:=bm h
    refine x_frk 30 [(11,.call [] [] (bl v3) [])] (ocons (Tlaws_eqSolid (Y:=Y) n a0.2.2.2.1 a1.2.2.2.1 _ y3) onil) h (by kernel_rfl) (fun h=>?_) (fun h=>?_)
    ·replace h:=sj h;subst h
     exact x_end 4 [] [] onil onil 
    ·obtain⟨v4,y4,h⟩:=bm h
     refine x_frk 30 [(11,.call [] [] (bl v4) [])] (ocons (Tlaws_eqSolid (Y:=Y) n a0.2.2.2.2.1 a1.2.2.2.2.1 _ y4) onil) h (by kernel_rfl) (fun h=>?_) (fun h=>?_)
     ·replace h:=sj h;subst h
      exact x_end 4 [] [] onil onil 
     ·obtain⟨v5,y5,h⟩:=bm h
      refine x_frk 30 [(11,.call [] [] (bl v5) [])] (ocons (Tlaws_eqSolid (Y:=Y) n a0.2.2.2.2.2.1 a1.2.2.2.2.2.1 _ y5) onil) h (by kernel_rfl) (fun h=>?_) (fun h=>?_)
      ·replace h:=sj h;subst h
       exact x_end 4 [] [] onil onil 
      ·obtain⟨v6,y6,h⟩:=bm h
       refine x_frk 30 [(11,.call [] [] (bl v6) [])] (ocons (Tlaws_eqSolid (Y:=Y) n a0.2.2.2.2.2.2.1 a1.2.2.2.2.2.2.1 _ y6) onil) h (by kernel_rfl) (fun h=>?_) (fun h=>?_)
       ·replace h:=sj h;subst h
        exact x_end 4 [] [] onil onil 
       ·obtain⟨v7,y7,h⟩:=bm h
        refine x_frk 30 [(11,.call [] [] (bl v7) [])] (ocons (Tlaws_eqSolid (Y:=Y) n a0.2.2.2.2.2.2.2 a1.2.2.2.2.2.2.2 _ y7) onil) h (by kernel_rfl) (fun h=>?_) (fun h=>?_)
        ·replace h:=sj h;subst h
         exact x_end 4 [] [] onil onil 
        ·replace h:=sj h;subst h
         exact x_end 21 [] [] onil onil 
def Dlaws_eqBoolA8(_n:Nat)(a0:(Bool×Bool×Bool×Bool×Bool×Bool×Bool×Bool))(a1:(Bool×Bool×Bool×Bool×Bool×Bool×Bool×Bool)):Option Bool :=
 frk (!(a0.1==a1.1)) (some false) (frk (!(a0.2.1==a1.2.1)) (some false) (frk (!(a0.2.2.1==a1.2.2.1)) (some false) (frk (!(a0.2.2.2.1==a1.2.2.2.1)) (some false) (frk (!(a0.2.2.2.2.1==a1.2.2.2.2.1)) (some false) (frk (!(a0.2.2.2.2.2.1==a1.2.2.2.2.2.1)) (some false) (frk (!(a0.2.2.2.2.2.2.1==a1.2.2.2.2.2.2.1)) (some false) (frk (!(a0.2.2.2.2.2.2.2==a1.2.2.2.2.2.2.2)) (some false) (some true))))))))
theorem Tlaws_eqBoolA8{Y}(n:Nat)(a0:(Bool×Bool×Bool×Bool×Bool×Bool×Bool×Bool))(a1:(Bool×Bool×Bool×Bool×Bool×Bool×Bool×Bool))(r:Bool)(h:Dlaws_eqBoolA8 n a0 a1=some r):Big Tryz.prog H Y (.call 66 [.agg [bl a0.1,bl a0.2.1,bl a0.2.2.1,bl a0.2.2.2.1,bl a0.2.2.2.2.1,bl a0.2.2.2.2.2.1,bl a0.2.2.2.2.2.2.1,bl a0.2.2.2.2.2.2.2],.agg [bl a1.1,bl a1.2.1,bl a1.2.2.1,bl a1.2.2.2.1,bl a1.2.2.2.2.1,bl a1.2.2.2.2.2.1,bl a1.2.2.2.2.2.2.1,bl a1.2.2.2.2.2.2.2]] (lk []) (bl r) (lk [])):=by
 unfold Dlaws_eqBoolA8 at h
 refine x_call (fn:=Tryz.f66) (c:=bodyOf Tryz.f66) (bs0:=[]) Tryz.func66 (by kernel_rfl) (by kernel_rfl) ?_
 refine x_frk 33 [] onil h (by kernel_rfl) (fun h=>?_) (fun h=>?_)
 ·replace h:=sj h;subst h
  exact x_end 4 [] [] onil onil 
 ·refine x_frk 29 [] onil h (by kernel_rfl) (fun h=>?_) (fun h=>?_)
  ·replace h:=sj h;subst h
   exact x_end 4 [] [] onil onil 
  ·refine x_frk 29 [] onil h (by kernel_rfl) (fun h=>?_) (fun h=>?_)
   ·replace h:=sj h;subst h
    exact x_end 4 [] [] onil onil 
   ·refine x_frk 29 [] onil h (by kernel_rfl) (fun h=>?_) (fun h=>?_)
    ·replace h:=sj h;subst h
     exact x_end 4 [] [] onil onil 
    ·refine x_frk 29 [] onil h (by kernel_rfl) (fun h=>?_) (fun h=>?_)
     ·replace h:=sj h;subst h
      exact x_end 4 [] [] onil onil 
     ·refine x_frk 29 [] onil h (by kernel_rfl) (fun h=>?_) (fun h=>?_)
      ·replace h:=sj h;subst h
       exact x_end 4 [] [] onil onil 
      ·refine x_frk 29 [] onil h (by kernel_rfl) (fun h=>?_) (fun h=>?_)
       ·replace h:=sj h;subst h
        exact x_end 4 [] [] onil onil 
       ·refine x_frk 29 [] onil h (by kernel_rfl) (fun h=>?_) (fun h=>?_)
        ·replace h:=sj h;subst h
         exact x_end 4 [] [] onil onil 
        ·replace h:=sj h;subst h
         exact x_end 21 [] [] onil onil 
def Dlaws_eqDesk(n:Nat)(a0:Dsk)(a1:Dsk):Option Bool :=
 (Dlaws_eqSolidA8 n a0.1 a1.1).bind fun v0=>frk (!v0) (some false) ((Dlaws_eqBoolA8 n a0.2 a1.2).bind fun v1=>frk (!v1) (some false) (some true))
theorem Tlaws_eqDesk{Y}(n:Nat)(a0:Dsk)(a1:Dsk)(r:Bool)(h:Dlaws_eqDesk n a0 a1=some r):Big Tryz.prog H Y (.call 13 [.agg (cT38 a0),.agg (cT38 a1)] (lk []) (bl r) (lk [])):=by
 unfold Dlaws_eqDesk at h
 refine x_call (fn:=Tryz.f13) (c:=bodyOf Tryz.f13) (bs0:=[]) Tryz.func13 (by kernel_rfl) (by kernel_rfl) ?_
 obtain⟨v0,y0,h⟩:=bm h
 refine x_frk 16 [(7,.call [] [] (bl v0) [])] (ocons (Tlaws_eqSolidA8 (Y:=Y) n a0.1 a1.1 _ y0) onil) h (by kernel_rfl) (fun h=>?_) (fun h=>?_)
 ·replace h:=sj h;subst h
  exact x_end 4 [] [] onil onil 
 ·obtain⟨v1,y1,h⟩:=bm h
  refine x_frk 11 [(4,.call [] [] (bl v1) [])] (ocons (Tlaws_eqBoolA8 (Y:=Y) n a0.2 a1.2 _ y1) onil) h (by kernel_rfl) (fun h=>?_) (fun h=>?_)
  ·replace h:=sj h;subst h
   exact x_end 4 [] [] onil onil 
  ·replace h:=sj h;subst h
   exact x_end 5 [] [] onil onil 
def Dlaws_markSolidS_0(_n:Nat)(self:(List Sol×Int)→Option (Int×List Sol))(rec0:(Int×Int×List Sol)→Option (Int×List Sol))(t1 t5:Int)(l1000:List Sol):Option (Int×List Sol) :=
 (lget l1000 t5).bind fun v5=>(self (v5.kids,t1)).bind fun v6=>rec0 (v6.1,w64 (t5+1),(l1000.set (Int.toNat t5) (Sol.mk v5.inn v5.pl v6.2)))
theorem Tlaws_markSolidS_0{Y}(n:Nat)(self:(List Sol×Int)→Option (Int×List Sol))(rec0:(Int×Int×List Sol)→Option (Int×List Sol))(hself:∀(a:(List Sol×Int)) (r:(Int×List Sol)),self a=some r→TurnP Tryz.prog 186 (eSol true) a r)(hrec0:∀(a:(Int×Int×List Sol)) (r:(Int×List Sol)),rec0 a=some r→Wk Tryz.prog H Y 186 [.code (cp [1,0,1,0] (bodyOf Tryz.f186)),.blk 0,.code (cp [1,1] (bodyOf Tryz.f186))] (FinX Tryz.prog Tryz.f186 [(1000,⟨true,6,(eSol true).f r.2⟩)] (i64 r.1) [(1000,⟨true,6,(eSol true).f r.2⟩)]) ⟨[(0,.msl 1000 a.2.2.length),(1,i64 a.1),(5,i64 a.2.1)],[(1000,⟨true,6,(eSol true).f a.2.2⟩)]⟩)(t1 t5:Int)(l1000:List Sol)(r:(Int×List Sol))(h:Dlaws_markSolidS_0 n self rec0 t1 t5 l1000=some r):Wk Tryz.prog H Y 186 [.code (cp [1,0,1,0,0,1,0,0,1,1,1,1,1,1,1,1,1,1] (bodyOf Tryz.f186)),.blk 1,.code (cp [1,0,1,0,0,1,1] (bodyOf Tryz.f186)),.lp (cp [1,0,1,0] (bodyOf Tryz.f186)),.blk 0,.code (cp [1,1] (bodyOf Tryz.f186))] (FinX Tryz.prog Tryz.f186 [(1000,⟨true,6,(eSol true).f r.2⟩)] (i64 r.1) [(1000,⟨true,6,(eSol true).f r.2⟩)]) ⟨[(0,.msl 1000 l1000.length),(1,i64 t1),(5,i64 t5)],[(1000,⟨true,6,(eSol true).f l1000⟩)]⟩:=by
 unfold Dlaws_markSolidS_0 at h
 obtain⟨v5,y5,h⟩:=bm h
 obtain⟨v6,y6,h⟩:=bm h
 obtain⟨hlv6,htv6⟩:=hself _ _ y6
 refine x_nest (tL:=33) (f:=186) (dl:=57) (dk:=58) (dr:=59) (da:=1) (b:=1000) (n:=l1000.length) (z:=6) (off:=5) (szf:=1) (el:=35) (bytes:=64) (tr:=0) (ti:=5) (tk:=1) (e0:=53) (e1:=54) (tS:=33) (e2:=55) (tF:=35) (fld:=2) (e3:=56) (i:=t5) (cs:=(eSol true).f l1000) (kk:=.i64) (T:=.sl true 6 v5.kids.length ((eSol true).f v5.kids)) (T':=.sl true 6 v6.2.length ((eSol true).f v6.2)) (kv:=.int .i64 t1) (rv:=.int .i64 v6.1) rfl (fun _ _ _ h=>h) (by kernel_rfl) (by kernel_rfl) (by kernel_rfl) (by kernel_rfl) (lget_in y5) (solGet y5) (by simp[nlkLs,nlk,nlkL,nLk]) (by simp) rfl htv6 ?_
 rw[solSet y5 v6.2]
 exact x_to 8 [(0,.fix 0 (.msl 1000 (l1000.set (Int.toNat t5) (Sol.mk v5.inn v5.pl v6.2)).length))] (ocons (setLen 1000 l1000 (Int.toNat t5) (Sol.mk v5.inn v5.pl v6.2)) onil) (hrec0 (v6.1,w64 (t5+1),(l1000.set (Int.toNat t5) (Sol.mk v5.inn v5.pl v6.2))) r h) 
def Dlaws_markSolidS_1(n:Nat)(self:(List Sol×Int)→Option (Int×List Sol))(rec0:(Int×Int×List Sol)→Option (Int×List Sol))(a:(Int×Int×List Sol)):Option (Int×List Sol) :=
 match a with
 | (t1,t5,l1000)=>frk (decide (t5<(l1000.length:Int))) ((lget l1000 t5).bind fun v0=>(lget (l1000.set (Int.toNat t5) (Sol.mk ((Int.tmod t1 3)==0) v0.pl v0.kids)) t5).bind fun v1=>(lget ((l1000.set (Int.toNat t5) (Sol.mk ((Int.tmod t1 3)==0) v0.pl v0.kids)).set (Int.toNat t5) (Sol.mk v1.inn (Pl.mk (w64 (t1+1)) v1.pl.B v1.pl.C v1.pl.D) v1.kids)) t5).bind fun v2=>(lget (((l1000.set (Int.toNat t5) (Sol.mk ((Int.tmod t1 3)==0) v0.pl v0.kids)).set (Int.toNat t5) (Sol.mk v1.inn (Pl.mk (w64 (t1+1)) v1.pl.B v1.pl.C v1.pl.D) v1.kids)).set (Int.toNat t5) (Sol.mk v2.inn (Pl.mk v2.pl.A (w64 ((w64 (t1+1))+1)) v2.pl.C v2.pl.D) v2.kids)) t5).bind fun v3=>(lget ((((l1000.set (Int.toNat t5) (Sol.mk ((Int.tmod t1 3)==0) v0.pl v0.kids)).set (Int.toNat t5) (Sol.mk v1.inn (Pl.mk (w64 (t1+1)) v1.pl.B v1.pl.C v1.pl.D) v1.kids)).set (Int.toNat t5) (Sol.mk v2.inn (Pl.mk v2.pl.A (w64 ((w64 (t1+1))+1)) v2.pl.C v2.pl.D) v2.kids)).set (Int.toNat t5) (Sol.mk v3.inn (Pl.mk v3.pl.A v3.pl.B (w64 ((w64 ((w64 (t1+1))+1))+1)) v3.pl.D) v3.kids)) t5).bind fun v4=>Dlaws_markSolidS_0 n self rec0 (w64 ((w64 ((w64 ((w64 ((w64 (t1+1))+1))+1))+1))+1)) t5 (((((l1000.set (Int.toNat t5) (Sol.mk ((Int.tmod t1 3)==0) v0.pl v0.kids)).set (Int.toNat t5) (Sol.mk v1.inn (Pl.mk (w64 (t1+1)) v1.pl.B v1.pl.C v1.pl.D) v1.kids)).set (Int.toNat t5) (Sol.mk v2.inn (Pl.mk v2.pl.A (w64 ((w64 (t1+1))+1)) v2.pl.C v2.pl.D) v2.kids)).set (Int.toNat t5) (Sol.mk v3.inn (Pl.mk v3.pl.A v3.pl.B (w64 ((w64 ((w64 (t1+1))+1))+1)) v3.pl.D) v3.kids)).set (Int.toNat t5) (Sol.mk v4.inn (Pl.mk v4.pl.A v4.pl.B v4.pl.C (w64 ((w64 ((w64 ((w64 (t1+1))+1))+1))+1))) v4.kids))) (some (t1,l1000))
theorem Tlaws_markSolidS_1{Y}(n:Nat)(self:(List Sol×Int)→Option (Int×List Sol))(hself:∀(a:(List Sol×Int)) (r:(Int×List Sol)),self a=some r→TurnP Tryz.prog 186 (eSol true) a r):∀(m:Nat) (a:(Int×Int×List Sol)) (r:(Int×List Sol)),loopN (Dlaws_markSolidS_1 n self) m a=some r→Wk Tryz.prog H Y 186 [.code (cp [1,0,1,0] (bodyOf Tryz.f186)),.blk 0,.code (cp [1,1] (bodyOf Tryz.f186))] (FinX Tryz.prog Tryz.f186 [(1000,⟨true,6,(eSol true).f r.2⟩)] (i64 r.1) [(1000,⟨true,6,(eSol true).f r.2⟩)]) ⟨[(0,.msl 1000 a.2.2.length),(1,i64 a.1),(5,i64 a.2.1)],[(1000,⟨true,6,(eSol true).f a.2.2⟩)]⟩:=by
 refine loopN_ind (fun rec0 hrec0 a r h=>?_)
 obtain⟨t1,t5,l1000⟩:=a
 unfold Dlaws_markSolidS_1 at h
 refine x_frk 9 [] onil h (by kernel_rfl) (fun h=>?_) (fun h=>?_)
 ·obtain⟨v0,y0,h⟩:=bm h
  obtain⟨v1,y1,h⟩:=bm h
  obtain⟨v2,y2,h⟩:=bm h
  obtain⟨v3,y3,h⟩:=bm h
  obtain⟨v4,y4,h⟩:=bm h
  exact x_to 109 [(5,.unit),(1,.cells ((eSol true).f (l1000.set (Int.toNat t5) (Sol.mk ((Int.tmod t1 3)==0) v0.pl v0.kids)))),(0,.fix 0 (.msl 1000 (l1000.set (Int.toNat t5) (Sol.mk ((Int.tmod t1 3)==0) v0.pl v0.kids)).length)),(0,.fix 7 (.msl 1000 (l1000.set (Int.toNat t5) (Sol.mk ((Int.tmod t1 3)==0) v0.pl v0.kids)).length)),(0,.fix 12 (.msl 1000 (l1000.set (Int.toNat t5) (Sol.mk ((Int.tmod t1 3)==0) v0.pl v0.kids)).length)),(6,.unit),(2,.cells ((eSol true).f ((l1000.set (Int.toNat t5) (Sol.mk ((Int.tmod t1 3)==0) v0.pl v0.kids)).set (Int.toNat t5) (Sol.mk v1.inn (Pl.mk (w64 (t1+1)) v1.pl.B v1.pl.C v1.pl.D) v1.kids)))),(0,.fix 0 (.msl 1000 ((l1000.set (Int.toNat t5) (Sol.mk ((Int.tmod t1 3)==0) v0.pl v0.kids)).set (Int.toNat t5) (Sol.mk v1.inn (Pl.mk (w64 (t1+1)) v1.pl.B v1.pl.C v1.pl.D) v1.kids)).length)),(0,.fix 7 (.msl 1000 ((l1000.set (Int.toNat t5) (Sol.mk ((Int.tmod t1 3)==0) v0.pl v0.kids)).set (Int.toNat t5) (Sol.mk v1.inn (Pl.mk (w64 (t1+1)) v1.pl.B v1.pl.C v1.pl.D) v1.kids)).length)),(0,.fix 12 (.msl 1000 ((l1000.set (Int.toNat t5) (Sol.mk ((Int.tmod t1 3)==0) v0.pl v0.kids)).set (Int.toNat t5) (Sol.mk v1.inn (Pl.mk (w64 (t1+1)) v1.pl.B v1.pl.C v1.pl.D) v1.kids)).length)),(0,.fix 21 (.msl 1000 ((l1000.set (Int.toNat t5) (Sol.mk ((Int.tmod t1 3)==0) v0.pl v0.kids)).set (Int.toNat t5) (Sol.mk v1.inn (Pl.mk (w64 (t1+1)) v1.pl.B v1.pl.C v1.pl.D) v1.kids)).length)),(6,.unit),(2,.cells ((eSol true).f (((l1000.set (Int.toNat t5) (Sol.mk ((Int.tmod t1 3)==0) v0.pl v0.kids)).set (Int.toNat t5) (Sol.mk v1.inn (Pl.mk (w64 (t1+1)) v1.pl.B v1.pl.C v1.pl.D) v1.kids)).set (Int.toNat t5) (Sol.mk v2.inn (Pl.mk v2.pl.A (w64 ((w64 (t1+1))+1)) v2.pl.C v2.pl.D) v2.kids)))),(0,.fix 0 (.msl 1000 (((l1000.set (Int.toNat t5) (Sol.mk ((Int.tmod t1 3)==0) v0.pl v0.kids)).set (Int.toNat t5) (Sol.mk v1.inn (Pl.mk (w64 (t1+1)) v1.pl.B v1.pl.C v1.pl.D) v1.kids)).set (Int.toNat t5) (Sol.mk v2.inn (Pl.mk v2.pl.A (w64 ((w64 (t1+1))+1)) v2.pl.C v2.pl.D) v2.kids)).length)),(0,.fix 7 (.msl 1000 (((l1000.set (Int.toNat t5) (Sol.mk ((Int.tmod t1 3)==0) v0.pl v0.kids)).set (Int.toNat t5) (Sol.mk v1.inn (Pl.mk (w64 (t1+1)) v1.pl.B v1.pl.C v1.pl.D) v1.kids)).set (Int.toNat t5) (Sol.mk v2.inn (Pl.mk v2.pl.A (w64 ((w64 (t1+1))+1)) v2.pl.C v2.pl.D) v2.kids)).length)),(0,.fix 12 (.msl 1000 (((l1000.set (Int.toNat t5) (Sol.mk ((Int.tmod t1 3)==0) v0.pl v0.kids)).set (Int.toNat t5) (Sol.mk v1.inn (Pl.mk (w64 (t1+1)) v1.pl.B v1.pl.C v1.pl.D) v1.kids)).set (Int.toNat t5) (Sol.mk v2.inn (Pl.mk v2.pl.A (w64 ((w64 (t1+1))+1)) v2.pl.C v2.pl.D) v2.kids)).length)),(0,.fix 21 (.msl 1000 (((l1000.set (Int.toNat t5) (Sol.mk ((Int.tmod t1 3)==0) v0.pl v0.kids)).set (Int.toNat t5) (Sol.mk v1.inn (Pl.mk (w64 (t1+1)) v1.pl.B v1.pl.C v1.pl.D) v1.kids)).set (Int.toNat t5) (Sol.mk v2.inn (Pl.mk v2.pl.A (w64 ((w64 (t1+1))+1)) v2.pl.C v2.pl.D) v2.kids)).length)),(0,.fix 29 (.msl 1000 (((l1000.set (Int.toNat t5) (Sol.mk ((Int.tmod t1 3)==0) v0.pl v0.kids)).set (Int.toNat t5) (Sol.mk v1.inn (Pl.mk (w64 (t1+1)) v1.pl.B v1.pl.C v1.pl.D) v1.kids)).set (Int.toNat t5) (Sol.mk v2.inn (Pl.mk v2.pl.A (w64 ((w64 (t1+1))+1)) v2.pl.C v2.pl.D) v2.kids)).length)),(6,.unit),(2,.cells ((eSol true).f ((((l1000.set (Int.toNat t5) (Sol.mk ((Int.tmod t1 3)==0) v0.pl v0.kids)).set (Int.toNat t5) (Sol.mk v1.inn (Pl.mk (w64 (t1+1)) v1.pl.B v1.pl.C v1.pl.D) v1.kids)).set (Int.toNat t5) (Sol.mk v2.inn (Pl.mk v2.pl.A (w64 ((w64 (t1+1))+1)) v2.pl.C v2.pl.D) v2.kids)).set (Int.toNat t5) (Sol.mk v3.inn (Pl.mk v3.pl.A v3.pl.B (w64 ((w64 ((w64 (t1+1))+1))+1)) v3.pl.D) v3.kids)))),(0,.fix 0 (.msl 1000 ((((l1000.set (Int.toNat t5) (Sol.mk ((Int.tmod t1 3)==0) v0.pl v0.kids)).set (Int.toNat t5) (Sol.mk v1.inn (Pl.mk (w64 (t1+1)) v1.pl.B v1.pl.C v1.pl.D) v1.kids)).set (Int.toNat t5) (Sol.mk v2.inn (Pl.mk v2.pl.A (w64 ((w64 (t1+1))+1)) v2.pl.C v2.pl.D) v2.kids)).set (Int.toNat t5) (Sol.mk v3.inn (Pl.mk v3.pl.A v3.pl.B (w64 ((w64 ((w64 (t1+1))+1))+1)) v3.pl.D) v3.kids)).length)),(0,.fix 7 (.msl 1000 ((((l1000.set (Int.toNat t5) (Sol.mk ((Int.tmod t1 3)==0) v0.pl v0.kids)).set (Int.toNat t5) (Sol.mk v1.inn (Pl.mk (w64 (t1+1)) v1.pl.B v1.pl.C v1.pl.D) v1.kids)).set (Int.toNat t5) (Sol.mk v2.inn (Pl.mk v2.pl.A (w64 ((w64 (t1+1))+1)) v2.pl.C v2.pl.D) v2.kids)).set (Int.toNat t5) (Sol.mk v3.inn (Pl.mk v3.pl.A v3.pl.B (w64 ((w64 ((w64 (t1+1))+1))+1)) v3.pl.D) v3.kids)).length)),(0,.fix 12 (.msl 1000 ((((l1000.set (Int.toNat t5) (Sol.mk ((Int.tmod t1 3)==0) v0.pl v0.kids)).set (Int.toNat t5) (Sol.mk v1.inn (Pl.mk (w64 (t1+1)) v1.pl.B v1.pl.C v1.pl.D) v1.kids)).set (Int.toNat t5) (Sol.mk v2.inn (Pl.mk v2.pl.A (w64 ((w64 (t1+1))+1)) v2.pl.C v2.pl.D) v2.kids)).set (Int.toNat t5) (Sol.mk v3.inn (Pl.mk v3.pl.A v3.pl.B (w64 ((w64 ((w64 (t1+1))+1))+1)) v3.pl.D) v3.kids)).length)),(0,.fix 21 (.msl 1000 ((((l1000.set (Int.toNat t5) (Sol.mk ((Int.tmod t1 3)==0) v0.pl v0.kids)).set (Int.toNat t5) (Sol.mk v1.inn (Pl.mk (w64 (t1+1)) v1.pl.B v1.pl.C v1.pl.D) v1.kids)).set (Int.toNat t5) (Sol.mk v2.inn (Pl.mk v2.pl.A (w64 ((w64 (t1+1))+1)) v2.pl.C v2.pl.D) v2.kids)).set (Int.toNat t5) (Sol.mk v3.inn (Pl.mk v3.pl.A v3.pl.B (w64 ((w64 ((w64 (t1+1))+1))+1)) v3.pl.D) v3.kids)).length)),(0,.fix 29 (.msl 1000 ((((l1000.set (Int.toNat t5) (Sol.mk ((Int.tmod t1 3)==0) v0.pl v0.kids)).set (Int.toNat t5) (Sol.mk v1.inn (Pl.mk (w64 (t1+1)) v1.pl.B v1.pl.C v1.pl.D) v1.kids)).set (Int.toNat t5) (Sol.mk v2.inn (Pl.mk v2.pl.A (w64 ((w64 (t1+1))+1)) v2.pl.C v2.pl.D) v2.kids)).set (Int.toNat t5) (Sol.mk v3.inn (Pl.mk v3.pl.A v3.pl.B (w64 ((w64 ((w64 (t1+1))+1))+1)) v3.pl.D) v3.kids)).length)),(0,.fix 37 (.msl 1000 ((((l1000.set (Int.toNat t5) (Sol.mk ((Int.tmod t1 3)==0) v0.pl v0.kids)).set (Int.toNat t5) (Sol.mk v1.inn (Pl.mk (w64 (t1+1)) v1.pl.B v1.pl.C v1.pl.D) v1.kids)).set (Int.toNat t5) (Sol.mk v2.inn (Pl.mk v2.pl.A (w64 ((w64 (t1+1))+1)) v2.pl.C v2.pl.D) v2.kids)).set (Int.toNat t5) (Sol.mk v3.inn (Pl.mk v3.pl.A v3.pl.B (w64 ((w64 ((w64 (t1+1))+1))+1)) v3.pl.D) v3.kids)).length)),(6,.unit),(2,.cells ((eSol true).f (((((l1000.set (Int.toNat t5) (Sol.mk ((Int.tmod t1 3)==0) v0.pl v0.kids)).set (Int.toNat t5) (Sol.mk v1.inn (Pl.mk (w64 (t1+1)) v1.pl.B v1.pl.C v1.pl.D) v1.kids)).set (Int.toNat t5) (Sol.mk v2.inn (Pl.mk v2.pl.A (w64 ((w64 (t1+1))+1)) v2.pl.C v2.pl.D) v2.kids)).set (Int.toNat t5) (Sol.mk v3.inn (Pl.mk v3.pl.A v3.pl.B (w64 ((w64 ((w64 (t1+1))+1))+1)) v3.pl.D) v3.kids)).set (Int.toNat t5) (Sol.mk v4.inn (Pl.mk v4.pl.A v4.pl.B v4.pl.C (w64 ((w64 ((w64 ((w64 (t1+1))+1))+1))+1))) v4.kids)))),(0,.fix 0 (.msl 1000 (((((l1000.set (Int.toNat t5) (Sol.mk ((Int.tmod t1 3)==0) v0.pl v0.kids)).set (Int.toNat t5) (Sol.mk v1.inn (Pl.mk (w64 (t1+1)) v1.pl.B v1.pl.C v1.pl.D) v1.kids)).set (Int.toNat t5) (Sol.mk v2.inn (Pl.mk v2.pl.A (w64 ((w64 (t1+1))+1)) v2.pl.C v2.pl.D) v2.kids)).set (Int.toNat t5) (Sol.mk v3.inn (Pl.mk v3.pl.A v3.pl.B (w64 ((w64 ((w64 (t1+1))+1))+1)) v3.pl.D) v3.kids)).set (Int.toNat t5) (Sol.mk v4.inn (Pl.mk v4.pl.A v4.pl.B v4.pl.C (w64 ((w64 ((w64 ((w64 (t1+1))+1))+1))+1))) v4.kids)).length)),(0,.fix 7 (.msl 1000 (((((l1000.set (Int.toNat t5) (Sol.mk ((Int.tmod t1 3)==0) v0.pl v0.kids)).set (Int.toNat t5) (Sol.mk v1.inn (Pl.mk (w64 (t1+1)) v1.pl.B v1.pl.C v1.pl.D) v1.kids)).set (Int.toNat t5) (Sol.mk v2.inn (Pl.mk v2.pl.A (w64 ((w64 (t1+1))+1)) v2.pl.C v2.pl.D) v2.kids)).set (Int.toNat t5) (Sol.mk v3.inn (Pl.mk v3.pl.A v3.pl.B (w64 ((w64 ((w64 (t1+1))+1))+1)) v3.pl.D) v3.kids)).set (Int.toNat t5) (Sol.mk v4.inn (Pl.mk v4.pl.A v4.pl.B v4.pl.C (w64 ((w64 ((w64 ((w64 (t1+1))+1))+1))+1))) v4.kids)).length)),(0,.fix 12 (.msl 1000 (((((l1000.set (Int.toNat t5) (Sol.mk ((Int.tmod t1 3)==0) v0.pl v0.kids)).set (Int.toNat t5) (Sol.mk v1.inn (Pl.mk (w64 (t1+1)) v1.pl.B v1.pl.C v1.pl.D) v1.kids)).set (Int.toNat t5) (Sol.mk v2.inn (Pl.mk v2.pl.A (w64 ((w64 (t1+1))+1)) v2.pl.C v2.pl.D) v2.kids)).set (Int.toNat t5) (Sol.mk v3.inn (Pl.mk v3.pl.A v3.pl.B (w64 ((w64 ((w64 (t1+1))+1))+1)) v3.pl.D) v3.kids)).set (Int.toNat t5) (Sol.mk v4.inn (Pl.mk v4.pl.A v4.pl.B v4.pl.C (w64 ((w64 ((w64 ((w64 (t1+1))+1))+1))+1))) v4.kids)).length)),(0,.fix 21 (.msl 1000 (((((l1000.set (Int.toNat t5) (Sol.mk ((Int.tmod t1 3)==0) v0.pl v0.kids)).set (Int.toNat t5) (Sol.mk v1.inn (Pl.mk (w64 (t1+1)) v1.pl.B v1.pl.C v1.pl.D) v1.kids)).set (Int.toNat t5) (Sol.mk v2.inn (Pl.mk v2.pl.A (w64 ((w64 (t1+1))+1)) v2.pl.C v2.pl.D) v2.kids)).set (Int.toNat t5) (Sol.mk v3.inn (Pl.mk v3.pl.A v3.pl.B (w64 ((w64 ((w64 (t1+1))+1))+1)) v3.pl.D) v3.kids)).set (Int.toNat t5) (Sol.mk v4.inn (Pl.mk v4.pl.A v4.pl.B v4.pl.C (w64 ((w64 ((w64 ((w64 (t1+1))+1))+1))+1))) v4.kids)).length)),(0,.fix 29 (.msl 1000 (((((l1000.set (Int.toNat t5) (Sol.mk ((Int.tmod t1 3)==0) v0.pl v0.kids)).set (Int.toNat t5) (Sol.mk v1.inn (Pl.mk (w64 (t1+1)) v1.pl.B v1.pl.C v1.pl.D) v1.kids)).set (Int.toNat t5) (Sol.mk v2.inn (Pl.mk v2.pl.A (w64 ((w64 (t1+1))+1)) v2.pl.C v2.pl.D) v2.kids)).set (Int.toNat t5) (Sol.mk v3.inn (Pl.mk v3.pl.A v3.pl.B (w64 ((w64 ((w64 (t1+1))+1))+1)) v3.pl.D) v3.kids)).set (Int.toNat t5) (Sol.mk v4.inn (Pl.mk v4.pl.A v4.pl.B v4.pl.C (w64 ((w64 ((w64 ((w64 (t1+1))+1))+1))+1))) v4.kids)).length)),(0,.fix 37 (.msl 1000 (((((l1000.set (Int.toNat t5) (Sol.mk ((Int.tmod t1 3)==0) v0.pl v0.kids)).set (Int.toNat t5) (Sol.mk v1.inn (Pl.mk (w64 (t1+1)) v1.pl.B v1.pl.C v1.pl.D) v1.kids)).set (Int.toNat t5) (Sol.mk v2.inn (Pl.mk v2.pl.A (w64 ((w64 (t1+1))+1)) v2.pl.C v2.pl.D) v2.kids)).set (Int.toNat t5) (Sol.mk v3.inn (Pl.mk v3.pl.A v3.pl.B (w64 ((w64 ((w64 (t1+1))+1))+1)) v3.pl.D) v3.kids)).set (Int.toNat t5) (Sol.mk v4.inn (Pl.mk v4.pl.A v4.pl.B v4.pl.C (w64 ((w64 ((w64 ((w64 (t1+1))+1))+1))+1))) v4.kids)).length)),(0,.fix 45 (.msl 1000 (((((l1000.set (Int.toNat t5) (Sol.mk ((Int.tmod t1 3)==0) v0.pl v0.kids)).set (Int.toNat t5) (Sol.mk v1.inn (Pl.mk (w64 (t1+1)) v1.pl.B v1.pl.C v1.pl.D) v1.kids)).set (Int.toNat t5) (Sol.mk v2.inn (Pl.mk v2.pl.A (w64 ((w64 (t1+1))+1)) v2.pl.C v2.pl.D) v2.kids)).set (Int.toNat t5) (Sol.mk v3.inn (Pl.mk v3.pl.A v3.pl.B (w64 ((w64 ((w64 (t1+1))+1))+1)) v3.pl.D) v3.kids)).set (Int.toNat t5) (Sol.mk v4.inn (Pl.mk v4.pl.A v4.pl.B v4.pl.C (w64 ((w64 ((w64 ((w64 (t1+1))+1))+1))+1))) v4.kids)).length))] (ocons (inr y0) (ocons (stA (eSol true) y0 0 1 [bl ((Int.tmod t1 3)==0)] (Sol.mk ((Int.tmod t1 3)==0) v0.pl v0.kids) rfl rfl) (ocons (setLen 1000 l1000 (Int.toNat t5) (Sol.mk ((Int.tmod t1 3)==0) v0.pl v0.kids)) (ocons (setLen 1000 l1000 (Int.toNat t5) (Sol.mk ((Int.tmod t1 3)==0) v0.pl v0.kids)) (ocons (setLen 1000 l1000 (Int.toNat t5) (Sol.mk ((Int.tmod t1 3)==0) v0.pl v0.kids)) (ocons (inr y1) (ocons (stA (eSol true) y1 1 1 [i64 (w64 (t1+1))] (Sol.mk v1.inn (Pl.mk (w64 (t1+1)) v1.pl.B v1.pl.C v1.pl.D) v1.kids) rfl rfl) (ocons (setLen 1000 (l1000.set (Int.toNat t5) (Sol.mk ((Int.tmod t1 3)==0) v0.pl v0.kids)) (Int.toNat t5) (Sol.mk v1.inn (Pl.mk (w64 (t1+1)) v1.pl.B v1.pl.C v1.pl.D) v1.kids)) (ocons (setLen 1000 (l1000.set (Int.toNat t5) (Sol.mk ((Int.tmod t1 3)==0) v0.pl v0.kids)) (Int.toNat t5) (Sol.mk v1.inn (Pl.mk (w64 (t1+1)) v1.pl.B v1.pl.C v1.pl.D) v1.kids)) (ocons (setLen 1000 (l1000.set (Int.toNat t5) (Sol.mk ((Int.tmod t1 3)==0) v0.pl v0.kids)) (Int.toNat t5) (Sol.mk v1.inn (Pl.mk (w64 (t1+1)) v1.pl.B v1.pl.C v1.pl.D) v1.kids)) (ocons (setLen 1000 (l1000.set (Int.toNat t5) (Sol.mk ((Int.tmod t1 3)==0) v0.pl v0.kids)) (Int.toNat t5) (Sol.mk v1.inn (Pl.mk (w64 (t1+1)) v1.pl.B v1.pl.C v1.pl.D) v1.kids)) (ocons (inr y2) (ocons (stA (eSol true) y2 2 1 [i64 (w64 ((w64 (t1+1))+1))] (Sol.mk v2.inn (Pl.mk v2.pl.A (w64 ((w64 (t1+1))+1)) v2.pl.C v2.pl.D) v2.kids) rfl rfl) (ocons (setLen 1000 ((l1000.set (Int.toNat t5) (Sol.mk ((Int.tmod t1 3)==0) v0.pl v0.kids)).set (Int.toNat t5) (Sol.mk v1.inn (Pl.mk (w64 (t1+1)) v1.pl.B v1.pl.C v1.pl.D) v1.kids)) (Int.toNat t5) (Sol.mk v2.inn (Pl.mk v2.pl.A (w64 ((w64 (t1+1))+1)) v2.pl.C v2.pl.D) v2.kids)) (ocons (setLen 1000 ((l1000.set (Int.toNat t5) (Sol.mk ((Int.tmod t1 3)==0) v0.pl v0.kids)).set (Int.toNat t5) (Sol.mk v1.inn (Pl.mk (w64 (t1+1)) v1.pl.B v1.pl.C v1.pl.D) v1.kids)) (Int.toNat t5) (Sol.mk v2.inn (Pl.mk v2.pl.A (w64 ((w64 (t1+1))+1)) v2.pl.C v2.pl.D) v2.kids)) (ocons (setLen 1000 ((l1000.set (Int.toNat t5) (Sol.mk ((Int.tmod t1 3)==0) v0.pl v0.kids)).set (Int.toNat t5) (Sol.mk v1.inn (Pl.mk (w64 (t1+1)) v1.pl.B v1.pl.C v1.pl.D) v1.kids)) (Int.toNat t5) (Sol.mk v2.inn (Pl.mk v2.pl.A (w64 ((w64 (t1+1))+1)) v2.pl.C v2.pl.D) v2.kids)) (ocons (setLen 1000 ((l1000.set (Int.toNat t5) (Sol.mk ((Int.tmod t1 3)==0) v0.pl v0.kids)).set (Int.toNat t5) (Sol.mk v1.inn (Pl.mk (w64 (t1+1)) v1.pl.B v1.pl.C v1.pl.D) v1.kids)) (Int.toNat t5) (Sol.mk v2.inn (Pl.mk v2.pl.A (w64 ((w64 (t1+1))+1)) v2.pl.C v2.pl.D) v2.kids)) (ocons (setLen 1000 ((l1000.set (Int.toNat t5) (Sol.mk ((Int.tmod t1 3)==0) v0.pl v0.kids)).set (Int.toNat t5) (Sol.mk v1.inn (Pl.mk (w64 (t1+1)) v1.pl.B v1.pl.C v1.pl.D) v1.kids)) (Int.toNat t5) (Sol.mk v2.inn (Pl.mk v2.pl.A (w64 ((w64 (t1+1))+1)) v2.pl.C v2.pl.D) v2.kids)) (ocons (inr y3) (ocons (stA (eSol true) y3 3 1 [i64 (w64 ((w64 ((w64 (t1+1))+1))+1))] (Sol.mk v3.inn (Pl.mk v3.pl.A v3.pl.B (w64 ((w64 ((w64 (t1+1))+1))+1)) v3.pl.D) v3.kids) rfl rfl) (ocons (setLen 1000 (((l1000.set (Int.toNat t5) (Sol.mk ((Int.tmod t1 3)==0) v0.pl v0.kids)).set (Int.toNat t5) (Sol.mk v1.inn (Pl.mk (w64 (t1+1)) v1.pl.B v1.pl.C v1.pl.D) v1.kids)).set (Int.toNat t5) (Sol.mk v2.inn (Pl.mk v2.pl.A (w64 ((w64 (t1+1))+1)) v2.pl.C v2.pl.D) v2.kids)) (Int.toNat t5) (Sol.mk v3.inn (Pl.mk v3.pl.A v3.pl.B (w64 ((w64 ((w64 (t1+1))+1))+1)) v3.pl.D) v3.kids)) (ocons (setLen 1000 (((l1000.set (Int.toNat t5) (Sol.mk ((Int.tmod t1 3)==0) v0.pl v0.kids)).set (Int.toNat t5) (Sol.mk v1.inn (Pl.mk (w64 (t1+1)) v1.pl.B v1.pl.C v1.pl.D) v1.kids)).set (Int.toNat t5) (Sol.mk v2.inn (Pl.mk v2.pl.A (w64 ((w64 (t1+1))+1)) v2.pl.C v2.pl.D) v2.kids)) (Int.toNat t5) (Sol.mk v3.inn (Pl.mk v3.pl.A v3.pl.B (w64 ((w64 ((w64 (t1+1))+1))+1)) v3.pl.D) v3.kids)) (ocons (setLen 1000 (((l1000.set (Int.toNat t5) (Sol.mk ((Int.tmod t1 3)==0) v0.pl v0.kids)).set (Int.toNat t5) (Sol.mk v1.inn (Pl.mk (w64 (t1+1)) v1.pl.B v1.pl.C v1.pl.D) v1.kids)).set (Int.toNat t5) (Sol.mk v2.inn (Pl.mk v2.pl.A (w64 ((w64 (t1+1))+1)) v2.pl.C v2.pl.D) v2.kids)) (Int.toNat t5) (Sol.mk v3.inn (Pl.mk v3.pl.A v3.pl.B (w64 ((w64 ((w64 (t1+1))+1))+1)) v3.pl.D) v3.kids)) (ocons (setLen 1000 (((l1000.set (Int.toNat t5) (Sol.mk ((Int.tmod t1 3)==0) v0.pl v0.kids)).set (Int.toNat t5) (Sol.mk v1.inn (Pl.mk (w64 (t1+1)) v1.pl.B v1.pl.C v1.pl.D) v1.kids)).set (Int.toNat t5) (Sol.mk v2.inn (Pl.mk v2.pl.A (w64 ((w64 (t1+1))+1)) v2.pl.C v2.pl.D) v2.kids)) (Int.toNat t5) (Sol.mk v3.inn (Pl.mk v3.pl.A v3.pl.B (w64 ((w64 ((w64 (t1+1))+1))+1)) v3.pl.D) v3.kids)) (ocons (setLen 1000 (((l1000.set (Int.toNat t5) (Sol.mk ((Int.tmod t1 3)==0) v0.pl v0.kids)).set (Int.toNat t5) (Sol.mk v1.inn (Pl.mk (w64 (t1+1)) v1.pl.B v1.pl.C v1.pl.D) v1.kids)).set (Int.toNat t5) (Sol.mk v2.inn (Pl.mk v2.pl.A (w64 ((w64 (t1+1))+1)) v2.pl.C v2.pl.D) v2.kids)) (Int.toNat t5) (Sol.mk v3.inn (Pl.mk v3.pl.A v3.pl.B (w64 ((w64 ((w64 (t1+1))+1))+1)) v3.pl.D) v3.kids)) (ocons (setLen 1000 (((l1000.set (Int.toNat t5) (Sol.mk ((Int.tmod t1 3)==0) v0.pl v0.kids)).set (Int.toNat t5) (Sol.mk v1.inn (Pl.mk (w64 (t1+1)) v1.pl.B v1.pl.C v1.pl.D) v1.kids)).set (Int.toNat t5) (Sol.mk v2.inn (Pl.mk v2.pl.A (w64 ((w64 (t1+1))+1)) v2.pl.C v2.pl.D) v2.kids)) (Int.toNat t5) (Sol.mk v3.inn (Pl.mk v3.pl.A v3.pl.B (w64 ((w64 ((w64 (t1+1))+1))+1)) v3.pl.D) v3.kids)) (ocons (inr y4) (ocons (stA (eSol true) y4 4 1 [i64 (w64 ((w64 ((w64 ((w64 (t1+1))+1))+1))+1))] (Sol.mk v4.inn (Pl.mk v4.pl.A v4.pl.B v4.pl.C (w64 ((w64 ((w64 ((w64 (t1+1))+1))+1))+1))) v4.kids) rfl rfl) (ocons (setLen 1000 ((((l1000.set (Int.toNat t5) (Sol.mk ((Int.tmod t1 3)==0) v0.pl v0.kids)).set (Int.toNat t5) (Sol.mk v1.inn (Pl.mk (w64 (t1+1)) v1.pl.B v1.pl.C v1.pl.D) v1.kids)).set (Int.toNat t5) (Sol.mk v2.inn (Pl.mk v2.pl.A (w64 ((w64 (t1+1))+1)) v2.pl.C v2.pl.D) v2.kids)).set (Int.toNat t5) (Sol.mk v3.inn (Pl.mk v3.pl.A v3.pl.B (w64 ((w64 ((w64 (t1+1))+1))+1)) v3.pl.D) v3.kids)) (Int.toNat t5) (Sol.mk v4.inn (Pl.mk v4.pl.A v4.pl.B v4.pl.C (w64 ((w64 ((w64 ((w64 (t1+1))+1))+1))+1))) v4.kids)) (ocons (setLen 1000 ((((l1000.set (Int.toNat t5) (Sol.mk ((Int.tmod t1 3)==0) v0.pl v0.kids)).set (Int.toNat t5) (Sol.mk v1.inn (Pl.mk (w64 (t1+1)) v1.pl.B v1.pl.C v1.pl.D) v1.kids)).set (Int.toNat t5) (Sol.mk v2.inn (Pl.mk v2.pl.A (w64 ((w64 (t1+1))+1)) v2.pl.C v2.pl.D) v2.kids)).set (Int.toNat t5) (Sol.mk v3.inn (Pl.mk v3.pl.A v3.pl.B (w64 ((w64 ((w64 (t1+1))+1))+1)) v3.pl.D) v3.kids)) (Int.toNat t5) (Sol.mk v4.inn (Pl.mk v4.pl.A v4.pl.B v4.pl.C (w64 ((w64 ((w64 ((w64 (t1+1))+1))+1))+1))) v4.kids)) (ocons (setLen 1000 ((((l1000.set (Int.toNat t5) (Sol.mk ((Int.tmod t1 3)==0) v0.pl v0.kids)).set (Int.toNat t5) (Sol.mk v1.inn (Pl.mk (w64 (t1+1)) v1.pl.B v1.pl.C v1.pl.D) v1.kids)).set (Int.toNat t5) (Sol.mk v2.inn (Pl.mk v2.pl.A (w64 ((w64 (t1+1))+1)) v2.pl.C v2.pl.D) v2.kids)).set (Int.toNat t5) (Sol.mk v3.inn (Pl.mk v3.pl.A v3.pl.B (w64 ((w64 ((w64 (t1+1))+1))+1)) v3.pl.D) v3.kids)) (Int.toNat t5) (Sol.mk v4.inn (Pl.mk v4.pl.A v4.pl.B v4.pl.C (w64 ((w64 ((w64 ((w64 (t1+1))+1))+1))+1))) v4.kids)) (ocons (setLen 1000 ((((l1000.set (Int.toNat t5) (Sol.mk ((Int.tmod t1 3)==0) v0.pl v0.kids)).set (Int.toNat t5) (Sol.mk v1.inn (Pl.mk (w64 (t1+1)) v1.pl.B v1.pl.C v1.pl.D) v1.kids)).set (Int.toNat t5) (Sol.mk v2.inn (Pl.mk v2.pl.A (w64 ((w64 (t1+1))+1)) v2.pl.C v2.pl.D) v2.kids)).set (Int.toNat t5) (Sol.mk v3.inn (Pl.mk v3.pl.A v3.pl.B (w64 ((w64 ((w64 (t1+1))+1))+1)) v3.pl.D) v3.kids)) (Int.toNat t5) (Sol.mk v4.inn (Pl.mk v4.pl.A v4.pl.B v4.pl.C (w64 ((w64 ((w64 ((w64 (t1+1))+1))+1))+1))) v4.kids)) (ocons (setLen 1000 ((((l1000.set (Int.toNat t5) (Sol.mk ((Int.tmod t1 3)==0) v0.pl v0.kids)).set (Int.toNat t5) (Sol.mk v1.inn (Pl.mk (w64 (t1+1)) v1.pl.B v1.pl.C v1.pl.D) v1.kids)).set (Int.toNat t5) (Sol.mk v2.inn (Pl.mk v2.pl.A (w64 ((w64 (t1+1))+1)) v2.pl.C v2.pl.D) v2.kids)).set (Int.toNat t5) (Sol.mk v3.inn (Pl.mk v3.pl.A v3.pl.B (w64 ((w64 ((w64 (t1+1))+1))+1)) v3.pl.D) v3.kids)) (Int.toNat t5) (Sol.mk v4.inn (Pl.mk v4.pl.A v4.pl.B v4.pl.C (w64 ((w64 ((w64 ((w64 (t1+1))+1))+1))+1))) v4.kids)) (ocons (setLen 1000 ((((l1000.set (Int.toNat t5) (Sol.mk ((Int.tmod t1 3)==0) v0.pl v0.kids)).set (Int.toNat t5) (Sol.mk v1.inn (Pl.mk (w64 (t1+1)) v1.pl.B v1.pl.C v1.pl.D) v1.kids)).set (Int.toNat t5) (Sol.mk v2.inn (Pl.mk v2.pl.A (w64 ((w64 (t1+1))+1)) v2.pl.C v2.pl.D) v2.kids)).set (Int.toNat t5) (Sol.mk v3.inn (Pl.mk v3.pl.A v3.pl.B (w64 ((w64 ((w64 (t1+1))+1))+1)) v3.pl.D) v3.kids)) (Int.toNat t5) (Sol.mk v4.inn (Pl.mk v4.pl.A v4.pl.B v4.pl.C (w64 ((w64 ((w64 ((w64 (t1+1))+1))+1))+1))) v4.kids)) (ocons (setLen 1000 ((((l1000.set (Int.toNat t5) (Sol.mk ((Int.tmod t1 3)==0) v0.pl v0.kids)).set (Int.toNat t5) (Sol.mk v1.inn (Pl.mk (w64 (t1+1)) v1.pl.B v1.pl.C v1.pl.D) v1.kids)).set (Int.toNat t5) (Sol.mk v2.inn (Pl.mk v2.pl.A (w64 ((w64 (t1+1))+1)) v2.pl.C v2.pl.D) v2.kids)).set (Int.toNat t5) (Sol.mk v3.inn (Pl.mk v3.pl.A v3.pl.B (w64 ((w64 ((w64 (t1+1))+1))+1)) v3.pl.D) v3.kids)) (Int.toNat t5) (Sol.mk v4.inn (Pl.mk v4.pl.A v4.pl.B v4.pl.C (w64 ((w64 ((w64 ((w64 (t1+1))+1))+1))+1))) v4.kids)) onil))))))))))))))))))))))))))))))))))) (Tlaws_markSolidS_0 n self rec0 hself hrec0 (w64 ((w64 ((w64 ((w64 ((w64 (t1+1))+1))+1))+1))+1)) t5 (((((l1000.set (Int.toNat t5) (Sol.mk ((Int.tmod t1 3)==0) v0.pl v0.kids)).set (Int.toNat t5) (Sol.mk v1.inn (Pl.mk (w64 (t1+1)) v1.pl.B v1.pl.C v1.pl.D) v1.kids)).set (Int.toNat t5) (Sol.mk v2.inn (Pl.mk v2.pl.A (w64 ((w64 (t1+1))+1)) v2.pl.C v2.pl.D) v2.kids)).set (Int.toNat t5) (Sol.mk v3.inn (Pl.mk v3.pl.A v3.pl.B (w64 ((w64 ((w64 (t1+1))+1))+1)) v3.pl.D) v3.kids)).set (Int.toNat t5) (Sol.mk v4.inn (Pl.mk v4.pl.A v4.pl.B v4.pl.C (w64 ((w64 ((w64 ((w64 (t1+1))+1))+1))+1))) v4.kids)) r h) 
 ·replace h:=sj h;subst h
  exact x_endR 6 [] onil (by kernel_rfl) (by decide) (cleanSol _) rfl rfl
def Dlaws_markSolidS_b(n:Nat)(self:(List Sol×Int)→Option (Int×List Sol))(a:(List Sol×Int)):Option (Int×List Sol) :=
 match a with
 | (a0,a1)=>loopN (Dlaws_markSolidS_1 n self) n (a1,0,a0)
theorem Tlaws_markSolidS_w{Y}(n:Nat)(self:(List Sol×Int)→Option (Int×List Sol))(hself:∀(a:(List Sol×Int)) (r:(Int×List Sol)),self a=some r→TurnP Tryz.prog 186 (eSol true) a r)(a0:List Sol)(a1:Int)(r:(Int×List Sol))(h:Dlaws_markSolidS_b n self (a0,a1)=some r)(hl:r.2.length=a0.length):Big Tryz.prog H Y (.call 186 [.msl 1000 a0.length,i64 a1] (lk [(1000,⟨true,6,(eSol true).f a0⟩)]) (i64 r.1) (lk [(1000,⟨true,6,(eSol true).f r.2⟩)])):=by
 unfold Dlaws_markSolidS_b at h
 refine x_callR (fn:=Tryz.f186) (c:=bodyOf Tryz.f186) Tryz.func186 (by kernel_rfl) ⟨rfl,by show ((eSol true).f r.2).length=((eSol true).f a0).length;rw[Enc.len,Enc.len,hl]⟩ ?_
 exact x_to 10 [] onil (Tlaws_markSolidS_1 n self hself n (a1,0,a0) r h) 
theorem Tlaws_markSolidS_len(_n:Nat)(self:(List Sol×Int)→Option (Int×List Sol)):∀(m:Nat) (a:(Int×Int×List Sol)) (r:(Int×List Sol)),loopN (Dlaws_markSolidS_1 _n self) m a=some r→r.2.length=a.2.2.length:=by
 refine loopN_ind (fun _rec0 hrec0 a r h=>?_)
 obtain⟨_t1,t5,l⟩:=a
 unfold Dlaws_markSolidS_1 at h
 replace h:frk (decide (t5<(l.length:Int))) _ _=some r:=h
 revert h
 cases decide (t5<(l.length:Int)) <;> intro h
 ·replace h:=sj h;subst h;rfl
 ·rw[frk_tt] at h
  obtain⟨_,_,h⟩:=bm h
  obtain⟨_,_,h⟩:=bm h
  obtain⟨_,_,h⟩:=bm h
  obtain⟨_,_,h⟩:=bm h
  obtain⟨_,_,h⟩:=bm h
  unfold Dlaws_markSolidS_0 at h
  obtain⟨_,_,h⟩:=bm h
  obtain⟨_,_,h⟩:=bm h
  have:=hrec0 _ _ h
  simpa using this
theorem Tlaws_markSolidS_nil{Y}(a1 r:Int)(h:some a1=some r):Big Tryz.prog H Y (.call 186 [.nil,i64 a1] (lk []) (i64 r) (lk [])):=by
 refine x_call (fn:=Tryz.f186) (c:=bodyOf Tryz.f186) (bs0:=[]) Tryz.func186 (by kernel_rfl) (by kernel_rfl) ?_
 replace h:=sj h;subst h
 exact x_end 26 [] [] onil onil 
theorem Tlaws_markSolidS_t(hE:EqtOk Tryz.prog H)(hM:Tryz.prog.follows .mixedOrders=true)(n:Nat):∀(m:Nat) (a:(List Sol×Int)) (r:(Int×List Sol)),loopN (Dlaws_markSolidS_b n) m a=some r→TurnP Tryz.prog 186 (eSol true) a r:=by
 refine loopN_ind (fun self hs a r h=>?_)
 obtain⟨a0,a1⟩:=a
 have hl:r.2.length=a0.length:=Tlaws_markSolidS_len n self n _ _ h
 exact turnP_of hE hM (e:=(eSol true)) hl (Tlaws_markSolidS_w n self hs a0 a1 r h hl) (fun h0=>by
  subst h0
  cases n with
  | zero=>cases h
  | succ n=>replace h:some (a1,[])=some r:=h;exact Tlaws_markSolidS_nil a1 r.1 (by rw[←Option.some.inj h])) nLk (by decide)
def Dlaws_markSolidS(n:Nat)(a0:List Sol)(a1:Int):Option (Int×List Sol):=loopN (Dlaws_markSolidS_b n) n (a0,a1)
theorem Tlaws_markSolid{T T':AV}{kv rv:Value}{pre:List Value}(ht:TurnOk Tryz.prog 186 (fun u=>#[u,kv]) T rv T')(hp:pre.length=5):TurnOk Tryz.prog 129 (fun u=>#[.agg (pre++[u]).toArray,kv]) T rv T' :=
 turn_wrap (tS:=35) (tL:=33) (i0:=0) (i1:=1) (i2:=2) (p0:=Code.opsOf (cp [0] (bodyOf Tryz.f129))) (p1:=Code.opsOf (cp [1,0] (bodyOf Tryz.f129))) (p2:=Code.opsOf (cp [1,1,0] (bodyOf Tryz.f129))) (k0:=.int .i64 0) (off:=5) (size:=1) (gc:=bodyOf Tryz.f186) Tryz.func129 (by kernel_rfl) (by kernel_rfl) (by kernel_rfl) Tryz.func186 (by kernel_rfl) (by kernel_rfl) (by kernel_rfl) (by kernel_rfl) (by kernel_rfl) (isOp_of (by kernel_rfl)) (isOp_of (by kernel_rfl)) (isOp_of (by kernel_rfl)) (isOp_of (by kernel_rfl)) (isOp_of (by kernel_rfl)) (calleeAt_of (by kernel_rfl)) (isOp_of (by kernel_rfl)) (isOp_of (by kernel_rfl)) (isOp_of (by kernel_rfl)) (by kernel_rfl) (by kernel_rfl) hp ht
theorem Tlaws_markSolidA8{els:List (List Value×AV×AV)}{kvs:Nat→Value}(hl8:els.length=8)(hz:∀q∈els,q.1.length+1=6)(hn:∀q∈els,nlk q.2.1=true∧nlk q.2.2=true)(hT:∀i q,els[i]?=some q→TurnOk Tryz.prog 129 (fun u=>#[.agg (q.1++[u]).toArray,kvs i]) q.2.1 (kvs (i+1)) q.2.2):TurnsOk Tryz.prog 67 (fun us=>#[.agg us.toArray,kvs 0]) (cellsA els) (kvs 8) (cellsB els) :=
 turns8 (tA:=36) (tS:=35) (ty1:=3) (ty2:=3) (ty3:=3) (ty4:=3) (k0:=.int .i64 0) (z:=6) (i0:=0) (i1:=1) (i2:=2) (i3:=3) (i4:=4) (i5:=5) (p0:=Code.opsOf (cp [0] (bodyOf Tryz.f67))) (p1:=Code.opsOf (cp [1,0,0] (bodyOf Tryz.f67))) (p2:=Code.opsOf (cp [1,0,1,0,0,0,0] (bodyOf Tryz.f67))) (p3:=Code.opsOf (cp [1,0,1,0,0,1,1] (bodyOf Tryz.f67))) (p4:=Code.opsOf (cp [1,0,1,0,0,1,0,0] (bodyOf Tryz.f67))) (p5:=Code.opsOf (cp [1,1,0] (bodyOf Tryz.f67))) (gc:=bodyOf Tryz.f129) Tryz.func67 (by kernel_rfl) (by kernel_rfl) (by kernel_rfl) Tryz.func129 (by kernel_rfl) (by kernel_rfl) (by kernel_rfl) (by kernel_rfl) (by kernel_rfl) (by kernel_rfl) (by kernel_rfl) (by kernel_rfl) (isOp_of (by kernel_rfl)) (isOp_of (by kernel_rfl)) (isOp_of (by kernel_rfl)) (isOp_of (by kernel_rfl)) (isOp_of (by kernel_rfl)) (isOp_of (by kernel_rfl)) (isOp_of (by kernel_rfl)) (isOp_of (by kernel_rfl)) (isOp_of (by kernel_rfl)) (calleeAt_of (by kernel_rfl)) (isOp_of (by kernel_rfl)) (isOp_of (by kernel_rfl)) (isOp_of (by kernel_rfl)) (isOp_of (by kernel_rfl)) (isOp_of (by kernel_rfl)) (isOp_of (by kernel_rfl)) (by kernel_rfl) (by kernel_rfl) (by kernel_rfl) hl8 hz hn hT
theorem Tlaws_markDesk{Ts Ts':List AV}{kv rv:Value}{tl:List Value}(hk:Ts.length=48)(hT:TurnsOk Tryz.prog 67 (fun us=>#[.agg us.toArray,kv]) Ts rv Ts'):TurnsOk Tryz.prog 14 (fun us=>#[.agg us.toArray,kv]) (Ts++tl.map .lit) rv (Ts'++tl.map .lit) :=
 turns_wrap (tS:=38) (tL:=36) (i0:=0) (i1:=1) (i2:=2) (p0:=Code.opsOf (cp [0] (bodyOf Tryz.f14))) (p1:=Code.opsOf (cp [1,0] (bodyOf Tryz.f14))) (p2:=Code.opsOf (cp [1,1,0] (bodyOf Tryz.f14))) (k0:=.int .i64 0) (k:=48) (size:=48) (gc:=bodyOf Tryz.f67) Tryz.func14 (by kernel_rfl) (by kernel_rfl) (by kernel_rfl) Tryz.func67 (by kernel_rfl) (by kernel_rfl) (by kernel_rfl) (by kernel_rfl) (by kernel_rfl) (isOp_of (by kernel_rfl)) (isOp_of (by kernel_rfl)) (isOp_of (by kernel_rfl)) (isOp_of (by kernel_rfl)) (isOp_of (by kernel_rfl)) (calleeAt_of (by kernel_rfl)) (isOp_of (by kernel_rfl)) (isOp_of (by kernel_rfl)) (isOp_of (by kernel_rfl)) (by kernel_rfl) (by kernel_rfl) (by kernel_rfl) hk hT
theorem Tlaws_markDesk_t(hE:EqtOk Tryz.prog H)(hM:Tryz.prog.follows .mixedOrders=true)(n:Nat)(d:Dsk)(k:Int)(r:Int×Dsk)(h:markDk (fun l k=>Dlaws_markSolidS n l k) d k=some r):TurnsOk Tryz.prog 14 (fun us=>#[.agg us.toArray,.int .i64 k]) (dskT d) (.int .i64 r.1) (dskT r.2) :=
 markDk_ok (g:=129) (f8:=67) (fun l k r h pre hp=>by
  obtain⟨hl,ht⟩:=Tlaws_markSolidS_t hE hM n _ _ _ h
  exact Tlaws_markSolid ht hp) Tlaws_markSolidA8 Tlaws_markDesk h
def Dlaws_heldSolidS_0(_n:Nat)(self:((List Sol)×Int)→Option Int)(t0:List Sol)(rec0:(Int×Int)→Option Int)(a:(Int×Int)):Option Int :=
 match a with
 | (t1,t5)=>frk (decide (t5<(t0.length:Int))) ((lget t0 t5).bind fun v0=>frk (!(v0.inn==((Int.tmod t1 3)==0))) (some (-1)) ((lget t0 t5).bind fun v1=>frk (v1.pl.A != (w64 (t1+1))) (some (-1)) ((lget t0 t5).bind fun v2=>frk (v2.pl.B != (w64 ((w64 (t1+1))+1))) (some (-1)) ((lget t0 t5).bind fun v3=>frk (v3.pl.C != (w64 ((w64 ((w64 (t1+1))+1))+1))) (some (-1)) ((lget t0 t5).bind fun v4=>frk (v4.pl.D != (w64 ((w64 ((w64 ((w64 (t1+1))+1))+1))+1))) (some (-1)) ((lget t0 t5).bind fun v5=>(self (v5.kids,w64 ((w64 ((w64 ((w64 ((w64 (t1+1))+1))+1))+1))+1))).bind fun v6=>frk (decide (v6<0)) (some (-1)) (rec0 (v6,w64 (t5+1))))))))) (some t1)
theorem Tlaws_heldSolidS_0{Y}(n:Nat)(self:((List Sol)×Int)→Option Int)(hself:∀(a:((List Sol)×Int)) (r:Int),self a=some r→Big Tryz.prog H Y (.call 187 [.sl false 6 a.1.length ((eSol false).f a.1),i64 a.2] (lk []) (i64 r) (lk [])))(t0:List Sol):∀(m:Nat) (a:(Int×Int)) (r:Int),loopN (Dlaws_heldSolidS_0 n self t0) m a=some r→Wk Tryz.prog H Y 187 [.code (cp [1,0,1,0] (bodyOf Tryz.f187)),.blk 0,.code (cp [1,1] (bodyOf Tryz.f187))] (FinX Tryz.prog Tryz.f187 [] (i64 r) []) ⟨[(0,.sl false 6 t0.length ((eSol false).f t0)),(1,i64 a.1),(5,i64 a.2)],[]⟩:=by
 refine loopN_ind (fun _rec0 hrec0 a r h=>?_)
 obtain⟨t1,t5⟩:=a
 unfold Dlaws_heldSolidS_0 at h
 refine x_frk 9 [] onil h (by kernel_rfl) (fun h=>?_) (fun h=>?_)
 ·obtain⟨v0,y0,h⟩:=bm h
  refine x_frk 16 [(2,.val (.cptr ((eSol false).c v0++(eSol false).f ((t0).drop (Int.toNat t5+1)))))] (ocons (ix (eSol false) y0) onil) h (by kernel_rfl) (fun h=>?_) (fun h=>?_)
  ·replace h:=sj h;subst h
   exact x_end 4 [] [] onil onil 
  ·obtain⟨v1,y1,h⟩:=bm h
   refine x_frk 19 [(5,.val (.cptr ((eSol false).c v1++(eSol false).f ((t0).drop (Int.toNat t5+1)))))] (ocons (ix (eSol false) y1) onil) h (by kernel_rfl) (fun h=>?_) (fun h=>?_)
   ·replace h:=sj h;subst h
    exact x_end 4 [] [] onil onil 
   ·obtain⟨v2,y2,h⟩:=bm h
    refine x_frk 19 [(5,.val (.cptr ((eSol false).c v2++(eSol false).f ((t0).drop (Int.toNat t5+1)))))] (ocons (ix (eSol false) y2) onil) h (by kernel_rfl) (fun h=>?_) (fun h=>?_)
    ·replace h:=sj h;subst h
     exact x_end 4 [] [] onil onil 
    ·obtain⟨v3,y3,h⟩:=bm h
     refine x_frk 19 [(5,.val (.cptr ((eSol false).c v3++(eSol false).f ((t0).drop (Int.toNat t5+1)))))] (ocons (ix (eSol false) y3) onil) h (by kernel_rfl) (fun h=>?_) (fun h=>?_)
     ·replace h:=sj h;subst h
      exact x_end 4 [] [] onil onil 
     ·obtain⟨v4,y4,h⟩:=bm h
      refine x_frk 19 [(5,.val (.cptr ((eSol false).c v4++(eSol false).f ((t0).drop (Int.toNat t5+1)))))] (ocons (ix (eSol false) y4) onil) h (by kernel_rfl) (fun h=>?_) (fun h=>?_)
      ·replace h:=sj h;subst h
       exact x_end 4 [] [] onil onil 
      ·obtain⟨v5,y5,h⟩:=bm h
       obtain⟨v6,y6,h⟩:=bm h
       refine x_frk 23 [(5,.val (.cptr ((eSol false).c v5++(eSol false).f ((t0).drop (Int.toNat t5+1))))),(3,.call [] [] (i64 v6) [])] (ocons (ix (eSol false) y5) (ocons (hself (v5.kids,w64 ((w64 ((w64 ((w64 ((w64 (t1+1))+1))+1))+1))+1)) _ y6) onil)) h (by kernel_rfl) (fun h=>?_) (fun h=>?_)
       ·replace h:=sj h;subst h
        exact x_end 4 [] [] onil onil 
       ·exact x_to 8 [] onil (hrec0 (v6,w64 (t5+1)) r h) 
 ·replace h:=sj h;subst h
  exact x_end 6 [] [] onil onil 
def Dlaws_heldSolidS_b(n:Nat)(self:((List Sol)×Int)→Option Int)(a:((List Sol)×Int)):Option Int :=
 match a with
 | (a0,a1)=>loopN (Dlaws_heldSolidS_0 n self a0) n (a1,0)
def Dlaws_heldSolidS(n:Nat)(a0:(List Sol))(a1:Int):Option Int:=loopN (Dlaws_heldSolidS_b n) n (a0,a1)
theorem Tlaws_heldSolidS_b{Y}(n:Nat):∀(m:Nat) (a:((List Sol)×Int)) (r:Int),loopN (Dlaws_heldSolidS_b n) m a=some r→∀(_:Unit),Big Tryz.prog H Y (.call 187 [.sl false 6 a.1.length ((eSol false).f a.1),i64 a.2] (lk []) (i64 r) (lk [])):=by
 refine loopN_ind (fun self hs a r h=>?_)
 have hself:∀(a:((List Sol)×Int)) (r:Int),self a=some r→Big Tryz.prog H Y (.call 187 [.sl false 6 a.1.length ((eSol false).f a.1),i64 a.2] (lk []) (i64 r) (lk [])):=fun a r h=>hs a r h ()
 intro _
 obtain⟨a0,a1⟩:=a
 unfold Dlaws_heldSolidS_b at h
 refine x_call (fn:=Tryz.f187) (c:=bodyOf Tryz.f187) (bs0:=[]) Tryz.func187 (by kernel_rfl) (by kernel_rfl) ?_
 exact x_to 10 [] onil (Tlaws_heldSolidS_0 n self hself a0 n (a1,0) r h) 
theorem Tlaws_heldSolidS{Y}(n:Nat)(a0:(List Sol))(a1 r:Int)(h:Dlaws_heldSolidS n a0 a1=some r):Big Tryz.prog H Y (.call 187 [.sl false 6 a0.length ((eSol false).f a0),i64 a1] (lk []) (i64 r) (lk [])):=Tlaws_heldSolidS_b n n (a0,a1) r h ()
def Dlaws_heldSolid(n:Nat)(a0:Sol)(a1:Int):Option Int :=
 (Dlaws_heldSolidS n a0.kids a1).bind fun v0=>frk (decide (v0<0)) (some (-1)) (some v0)
theorem Tlaws_heldSolid{Y}(n:Nat)(a0:Sol)(a1 r:Int)(h:Dlaws_heldSolid n a0 a1=some r):Big Tryz.prog H Y (.call 130 [eF a0,i64 a1] (lk []) (i64 r) (lk [])):=by
 unfold Dlaws_heldSolid at h
 refine x_call (fn:=Tryz.f130) (c:=bodyOf Tryz.f130) (bs0:=[]) Tryz.func130 (by kernel_rfl) (by kernel_rfl) ?_
 obtain⟨v0,y0,h⟩:=bm h
 refine x_frk 19 [(5,.call [] [] (i64 v0) [])] (ocons (Tlaws_heldSolidS (Y:=Y) n a0.kids a1 _ y0) onil) h (by kernel_rfl) (fun h=>?_) (fun h=>?_)
 ·replace h:=sj h;subst h
  exact x_end 4 [] [] onil onil 
 ·replace h:=sj h;subst h
  exact x_end 6 [] [] onil onil 
def Dlaws_heldSolidA8(n:Nat)(a0:(Sol×Sol×Sol×Sol×Sol×Sol×Sol×Sol))(a1:Int):Option Int :=
 (Dlaws_heldSolid n a0.1 a1).bind fun v0=>frk (decide (v0<0)) (some (-1)) ((Dlaws_heldSolid n a0.2.1 v0).bind fun v1=>frk (decide (v1<0)) (some (-1)) ((Dlaws_heldSolid n a0.2.2.1 v1).bind fun v2=>frk (decide (v2<0)) (some (-1)) ((Dlaws_heldSolid n a0.2.2.2.1 v2).bind fun v3=>frk (decide (v3<0)) (some (-1)) ((Dlaws_heldSolid n a0.2.2.2.2.1 v3).bind fun v4=>frk (decide (v4<0)) (some (-1)) ((Dlaws_heldSolid n a0.2.2.2.2.2.1 v4).bind fun v5=>frk (decide (v5<0)) (some (-1)) ((Dlaws_heldSolid n a0.2.2.2.2.2.2.1 v5).bind fun v6=>frk (decide (v6<0)) (some (-1)) ((Dlaws_heldSolid n a0.2.2.2.2.2.2.2 v6).bind fun v7=>frk (decide (v7<0)) (some (-1)) (some v7))))))))
theorem Tlaws_heldSolidA8{Y}(n:Nat)(a0:(Sol×Sol×Sol×Sol×Sol×Sol×Sol×Sol))(a1 r:Int)(h:Dlaws_heldSolidA8 n a0 a1=some r):Big Tryz.prog H Y (.call 68 [.agg (cT36 a0),i64 a1] (lk []) (i64 r) (lk [])):=by
 unfold Dlaws_heldSolidA8 at h
 refine x_call (fn:=Tryz.f68) (c:=bodyOf Tryz.f68) (bs0:=[]) Tryz.func68 (by kernel_rfl) (by kernel_rfl) ?_
 obtain⟨v0,y0,h⟩:=bm h
 refine x_frk 36 [(9,.call [] [] (i64 v0) [])] (ocons (Tlaws_heldSolid (Y:=Y) n a0.1 a1 _ y0) onil) h (by kernel_rfl) (fun h=>?_) (fun h=>?_)
 ·replace h:=sj h;subst h
  exact x_end 4 [] [] onil onil 
 ·obtain⟨v1,y1,h⟩:=bm h
  refine x_frk 33 [(9,.call [] [] (i64 v1) [])] (ocons (Tlaws_heldSolid (Y:=Y) n a0.2.1 v0 _ y1) onil) h (by kernel_rfl) (fun h=>?_) (fun h=>?_)
  ·replace h:=sj h;subst h
   exact x_end 4 [] [] onil onil 
  ·obtain⟨v2,y2,h⟩:=bm h
   refine x_frk 33 [(9,.call [] [] (i64 v2) [])] (ocons (Tlaws_heldSolid (Y:=Y) n a0.2.2.1 v1 _ y2) onil) h (by kernel_rfl) (fun h=>?_) (fun h=>?_)
   ·replace h:=sj h;subst h
    exact x_end 4 [] [] onil onil 
   ·obtain⟨v3,y3,h⟩:=bm h
    refine x_frk 33 [(9,.call [] [] (i64 v3) [])] (ocons (Tlaws_heldSolid (Y:=Y) n a0.2.2.2.1 v2 _ y3) onil) h (by kernel_rfl) (fun h=>?_) (fun h=>?_)
    ·replace h:=sj h;subst h
     exact x_end 4 [] [] onil onil 
    ·obtain⟨v4,y4,h⟩:=bm h
     refine x_frk 33 [(9,.call [] [] (i64 v4) [])] (ocons (Tlaws_heldSolid (Y:=Y) n a0.2.2.2.2.1 v3 _ y4) onil) h (by kernel_rfl) (fun h=>?_) (fun h=>?_)
     ·replace h:=sj h;subst h
      exact x_end 4 [] [] onil onil 
     ·obtain⟨v5,y5,h⟩:=bm h
      refine x_frk 33 [(9,.call [] [] (i64 v5) [])] (ocons (Tlaws_heldSolid (Y:=Y) n a0.2.2.2.2.2.1 v4 _ y5) onil) h (by kernel_rfl) (fun h=>?_) (fun h=>?_)
      ·replace h:=sj h;subst h
       exact x_end 4 [] [] onil onil 
      ·obtain⟨v6,y6,h⟩:=bm h
       refine x_frk 33 [(9,.call [] [] (i64 v6) [])] (ocons (Tlaws_heldSolid (Y:=Y) n a0.2.2.2.2.2.2.1 v5 _ y6) onil) h (by kernel_rfl) (fun h=>?_) (fun h=>?_)
       ·replace h:=sj h;subst h
        exact x_end 4 [] [] onil onil 
       ·obtain⟨v7,y7,h⟩:=bm h
        refine x_frk 33 [(9,.call [] [] (i64 v7) [])] (ocons (Tlaws_heldSolid (Y:=Y) n a0.2.2.2.2.2.2.2 v6 _ y7) onil) h (by kernel_rfl) (fun h=>?_) (fun h=>?_)
        ·replace h:=sj h;subst h
         exact x_end 4 [] [] onil onil 
        ·replace h:=sj h;subst h
         exact x_end 22 [] [] onil onil 
def Dlaws_heldDesk(n:Nat)(a0:Dsk)(a1:Int):Option Int :=
 (Dlaws_heldSolidA8 n a0.1 a1).bind fun v0=>frk (decide (v0<0)) (some (-1)) (some v0)
theorem Tlaws_heldDesk{Y}(n:Nat)(a0:Dsk)(a1 r:Int)(h:Dlaws_heldDesk n a0 a1=some r):Big Tryz.prog H Y (.call 15 [.agg (cT38 a0),i64 a1] (lk []) (i64 r) (lk [])):=by
 unfold Dlaws_heldDesk at h
 refine x_call (fn:=Tryz.f15) (c:=bodyOf Tryz.f15) (bs0:=[]) Tryz.func15 (by kernel_rfl) (by kernel_rfl) ?_
 obtain⟨v0,y0,h⟩:=bm h
 refine x_frk 19 [(5,.call [] [] (i64 v0) [])] (ocons (Tlaws_heldSolidA8 (Y:=Y) n a0.1 a1 _ y0) onil) h (by kernel_rfl) (fun h=>?_) (fun h=>?_)
 ·replace h:=sj h;subst h
  exact x_end 4 [] [] onil onil 
 ·replace h:=sj h;subst h
  exact x_end 6 [] [] onil onil 
end Evl.T
