
/- Walks. No condition. -/
import Derived.Test.YtaaljnljnkdiaaaGreatWy
namespace Evl.T
open Go Evl Go.Proofs
set_option maxRecDepth 100000
def Dspec_Mix_0(n:Nat)(a0:Dsk):Option (Dsk×Int) :=
 (Dspec_l20Copy n a0).bind fun v1=>some (v1,1)
theorem Tspec_Mix_0{Y}(n:Nat)(a0:Dsk)(r:(Dsk×Int))(h:Dspec_Mix_0 n a0=some r):Wk Tryz.prog H Y 10 [.code (cp [1,0,0,1,0,0] (bodyOf Tryz.f10)),.code (cp [1,0,0,1,0,1] (bodyOf Tryz.f10)),.blk 0,.code (cp [1,1] (bodyOf Tryz.f10))] (FinX Tryz.prog Tryz.f10 [] (.tup [.agg (cT38o r.1),i64 r.2]) []) ⟨[(5,.ptr 5 0),(10,.ptr 10 0)],[(5,⟨true,0,(cT38 a0)⟩),(10,⟨true,0,[bl false,i64 0,i64 0,i64 0,i64 0,.nil,bl false,i64 0,i64 0,i64 0,i64 0,.nil,bl false,i64 0,i64 0,i64 0,i64 0,.nil,bl false,i64 0,i64 0,i64 0,i64 0,.nil,bl false,i64 0,i64 0,i64 0,i64 0,.nil,bl false,i64 0,i64 0,i64 0,i64 0,.nil,bl false,i64 0,i64 0,i64 0,i64 0,.nil,bl false,i64 0,i64 0,i64 0,i64 0,.nil,bl false,bl false,bl false,bl false,bl false,bl false,bl false,bl false]⟩)]⟩:=by
 unfold Dspec_Mix_0 at h
 obtain⟨v1,y1,h⟩:=bm h
 replace h:=sj h;subst h
 exact x_end 6 [(1,.call [] [] (.agg (cT38o v1)) [])] [] (ocons (Tspec_l20Copy (Y:=Y) n a0 _ y1) onil) onil 
def Dspec_Mix_2(n:Nat)(a0:Dsk):Option (Dsk×Int) :=
 (Dspec_l20Copy n a0).bind fun v7=>some (v7,2)
theorem Tspec_Mix_2{Y}(n:Nat)(a0:Dsk)(r:(Dsk×Int))(h:Dspec_Mix_2 n a0=some r):Wk Tryz.prog H Y 10 [.code (cp [1,0,0,1,1,1,0,0] (bodyOf Tryz.f10)),.code (cp [1,0,0,1,1,1,0,1] (bodyOf Tryz.f10)),.blk 0,.code (cp [1,1] (bodyOf Tryz.f10))] (FinX Tryz.prog Tryz.f10 [] (.tup [.agg (cT38o r.1),i64 r.2]) []) ⟨[(5,.ptr 5 0),(10,.ptr 10 0)],[(5,⟨true,0,(cT38 a0)⟩),(10,⟨true,0,[bl false,i64 0,i64 0,i64 0,i64 0,.nil,bl false,i64 0,i64 0,i64 0,i64 0,.nil,bl false,i64 0,i64 0,i64 0,i64 0,.nil,bl false,i64 0,i64 0,i64 0,i64 0,.nil,bl false,i64 0,i64 0,i64 0,i64 0,.nil,bl false,i64 0,i64 0,i64 0,i64 0,.nil,bl false,i64 0,i64 0,i64 0,i64 0,.nil,bl false,i64 0,i64 0,i64 0,i64 0,.nil,bl false,bl false,bl false,bl false,bl false,bl false,bl false,bl false]⟩)]⟩:=by
 unfold Dspec_Mix_2 at h
 obtain⟨v7,y7,h⟩:=bm h
 replace h:=sj h;subst h
 exact x_end 6 [(1,.call [] [] (.agg (cT38o v7)) [])] [] (ocons (Tspec_l20Copy (Y:=Y) n a0 _ y7) onil) onil 
def Dspec_Mix_4(n:Nat)(t1:Int)(t69:Bool)(a0:Dsk)(zcz:Bool)(zda zdb zdc zdd:Int)(zde:List Sol):Option (Dsk×Int) :=
 frk t69 ((Dspec_l20Copy n a0).bind fun v10=>some (v10,3)) ((Dspec_l12Tidy n (Sol.mk zcz (Pl.mk zda zdb zdc zdd) zde)).bind fun v11=>(Dspec_l20Keeps n a0 t1 v11).bind fun v12=>some v12)
theorem Tspec_Mix_4{Y}(n:Nat)(t1:Int)(t69:Bool)(a0:Dsk)(zcz:Bool)(zda zdb zdc zdd:Int)(zde:List Sol)(r:(Dsk×Int))(h:Dspec_Mix_4 n t1 t69 a0 zcz zda zdb zdc zdd zde=some r):Wk Tryz.prog H Y 10 [.code (cp [1,1,1,0,1] (bodyOf Tryz.f10)),.code (cp [1,1,1,1] (bodyOf Tryz.f10))] (FinX Tryz.prog Tryz.f10 [] (.tup [.agg (cT38o r.1),i64 r.2]) []) ⟨[(1,i64 t1),(5,.ptr 5 0),(10,.ptr 10 0),(12,.ptr 12 0),(69,bl t69)],[(5,⟨true,0,(cT38 a0)⟩),(10,⟨true,0,[bl false,i64 0,i64 0,i64 0,i64 0,.nil,bl false,i64 0,i64 0,i64 0,i64 0,.nil,bl false,i64 0,i64 0,i64 0,i64 0,.nil,bl false,i64 0,i64 0,i64 0,i64 0,.nil,bl false,i64 0,i64 0,i64 0,i64 0,.nil,bl false,i64 0,i64 0,i64 0,i64 0,.nil,bl false,i64 0,i64 0,i64 0,i64 0,.nil,bl false,i64 0,i64 0,i64 0,i64 0,.nil,bl false,bl false,bl false,bl false,bl false,bl false,bl false,bl false]⟩),(12,⟨true,0,[bl zcz,i64 zda,i64 zdb,i64 zdc,i64 zdd,.sl true 6 zde.length ((eSol true).f zde)]⟩)]⟩:=by
 unfold Dspec_Mix_4 at h
 refine x_frk 0 [] onil h (by kernel_rfl) (fun h=>?_) (fun h=>?_)
 ·obtain⟨v10,y10,h⟩:=bm h
  replace h:=sj h;subst h
  exact x_end 7 [(1,.call [] [] (.agg (cT38o v10)) [])] [] (ocons (Tspec_l20Copy (Y:=Y) n a0 _ y10) onil) onil 
 ·obtain⟨v11,y11,h⟩:=bm h
  obtain⟨v12,y12,h⟩:=bm h
  replace h:=sj h;subst h
  exact x_end 13 [(2,.rows [(eSol false).f zde]),(0,.call [] [] (eS v11) []),(0,.call [] [(eSol false).f v11.kids] (.tup [.agg (cT38o v12.1),i64 v12.2]) [])] [] (ocons (Enc.share (eSol true) (eSol false) (sSol true) zde) (ocons (Tspec_l12Tidy (Y:=Y) n (Sol.mk zcz (Pl.mk zda zdb zdc zdd) zde) _ y11) (ocons (Tspec_l20Keeps (Y:=Y) n a0 t1 v11 _ y12) (ocons (Enc.share (eSol true) (eSol false) (sSol true) v11.kids) onil)))) onil 
def Dspec_Mix_3(n:Nat)(t1 t2 t3 t4:Int)(t40:Bool)(a0:Dsk):Option (Dsk×Int) :=
 frk t40 ((Dspec_l20Copy n a0).bind fun v8=>some (v8,2)) (frk (t2==0) (frk (t3==0) ((Dspec_Put n a0.1.1 a0.1.1 t4).bind fun v9=>Dspec_Mix_4 n t1 (!v9.2) a0 v9.1.inn v9.1.pl.A v9.1.pl.B v9.1.pl.C v9.1.pl.D v9.1.kids) (frk (t3==1) ((Dspec_Put n a0.1.1 a0.1.2.1 t4).bind fun v13=>Dspec_Mix_4 n t1 (!v13.2) a0 v13.1.inn v13.1.pl.A v13.1.pl.B v13.1.pl.C v13.1.pl.D v13.1.kids) (frk (t3==2) ((Dspec_Put n a0.1.1 a0.1.2.2.1 t4).bind fun v14=>Dspec_Mix_4 n t1 (!v14.2) a0 v14.1.inn v14.1.pl.A v14.1.pl.B v14.1.pl.C v14.1.pl.D v14.1.kids) (frk (t3==3) ((Dspec_Put n a0.1.1 a0.1.2.2.2.1 t4).bind fun v15=>Dspec_Mix_4 n t1 (!v15.2) a0 v15.1.inn v15.1.pl.A v15.1.pl.B v15.1.pl.C v15.1.pl.D v15.1.kids) (frk (t3==4) ((Dspec_Put n a0.1.1 a0.1.2.2.2.2.1 t4).bind fun v16=>Dspec_Mix_4 n t1 (!v16.2) a0 v16.1.inn v16.1.pl.A v16.1.pl.B v16.1.pl.C v16.1.pl.D v16.1.kids) (frk (t3==5) ((Dspec_Put n a0.1.1 a0.1.2.2.2.2.2.1 t4).bind fun v17=>Dspec_Mix_4 n t1 (!v17.2) a0 v17.1.inn v17.1.pl.A v17.1.pl.B v17.1.pl.C v17.1.pl.D v17.1.kids) (frk (t3==6) ((Dspec_Put n a0.1.1 a0.1.2.2.2.2.2.2.1 t4).bind fun v18=>Dspec_Mix_4 n t1 (!v18.2) a0 v18.1.inn v18.1.pl.A v18.1.pl.B v18.1.pl.C v18.1.pl.D v18.1.kids) (frk (t3==7) ((Dspec_Put n a0.1.1 a0.1.2.2.2.2.2.2.2 t4).bind fun v19=>Dspec_Mix_4 n t1 (!v19.2) a0 v19.1.inn v19.1.pl.A v19.1.pl.B v19.1.pl.C v19.1.pl.D v19.1.kids) (none))))))))) (frk (t2==1) (frk (t3==0) ((Dspec_Put n a0.1.2.1 a0.1.1 t4).bind fun v20=>Dspec_Mix_4 n t1 (!v20.2) a0 v20.1.inn v20.1.pl.A v20.1.pl.B v20.1.pl.C v20.1.pl.D v20.1.kids) (frk (t3==1) ((Dspec_Put n a0.1.2.1 a0.1.2.1 t4).bind fun v21=>Dspec_Mix_4 n t1 (!v21.2) a0 v21.1.inn v21.1.pl.A v21.1.pl.B v21.1.pl.C v21.1.pl.D v21.1.kids) (frk (t3==2) ((Dspec_Put n a0.1.2.1 a0.1.2.2.1 t4).bind fun v22=>Dspec_Mix_4 n t1 (!v22.2) a0 v22.1.inn v22.1.pl.A v22.1.pl.B v22.1.pl.C v22.1.pl.D v22.1.kids) (frk (t3==3) ((Dspec_Put n a0.1.2.1 a0.1.2.2.2.1 t4).bind fun v23=>Dspec_Mix_4 n t1 (!v23.2) a0 v23.1.inn v23.1.pl.A v23.1.pl.B v23.1.pl.C v23.1.pl.D v23.1.kids) (frk (t3==4) ((Dspec_Put n a0.1.2.1 a0.1.2.2.2.2.1 t4).bind fun v24=>Dspec_Mix_4 n t1 (!v24.2) a0 v24.1.inn v24.1.pl.A v24.1.pl.B v24.1.pl.C v24.1.pl.D v24.1.kids) (frk (t3==5) ((Dspec_Put n a0.1.2.1 a0.1.2.2.2.2.2.1 t4).bind fun v25=>Dspec_Mix_4 n t1 (!v25.2) a0 v25.1.inn v25.1.pl.A v25.1.pl.B v25.1.pl.C v25.1.pl.D v25.1.kids) (frk (t3==6) ((Dspec_Put n a0.1.2.1 a0.1.2.2.2.2.2.2.1 t4).bind fun v26=>Dspec_Mix_4 n t1 (!v26.2) a0 v26.1.inn v26.1.pl.A v26.1.pl.B v26.1.pl.C v26.1.pl.D v26.1.kids) (frk (t3==7) ((Dspec_Put n a0.1.2.1 a0.1.2.2.2.2.2.2.2 t4).bind fun v27=>Dspec_Mix_4 n t1 (!v27.2) a0 v27.1.inn v27.1.pl.A v27.1.pl.B v27.1.pl.C v27.1.pl.D v27.1.kids) (none))))))))) (frk (t2==2) (frk (t3==0) ((Dspec_Put n a0.1.2.2.1 a0.1.1 t4).bind fun v28=>Dspec_Mix_4 n t1 (!v28.2) a0 v28.1.inn v28.1.pl.A v28.1.pl.B v28.1.pl.C v28.1.pl.D v28.1.kids) (frk (t3==1) ((Dspec_Put n a0.1.2.2.1 a0.1.2.1 t4).bind fun v29=>Dspec_Mix_4 n t1 (!v29.2) a0 v29.1.inn v29.1.pl.A v29.1.pl.B v29.1.pl.C v29.1.pl.D v29.1.kids) (frk (t3==2) ((Dspec_Put n a0.1.2.2.1 a0.1.2.2.1 t4).bind fun v30=>Dspec_Mix_4 n t1 (!v30.2) a0 v30.1.inn v30.1.pl.A v30.1.pl.B v30.1.pl.C v30.1.pl.D v30.1.kids) (frk (t3==3) ((Dspec_Put n a0.1.2.2.1 a0.1.2.2.2.1 t4).bind fun v31=>Dspec_Mix_4 n t1 (!v31.2) a0 v31.1.inn v31.1.pl.A v31.1.pl.B v31.1.pl.C v31.1.pl.D v31.1.kids) (frk (t3==4) ((Dspec_Put n a0.1.2.2.1 a0.1.2.2.2.2.1 t4).bind fun v32=>Dspec_Mix_4 n t1 (!v32.2) a0 v32.1.inn v32.1.pl.A v32.1.pl.B v32.1.pl.C v32.1.pl.D v32.1.kids) (frk (t3==5) ((Dspec_Put n a0.1.2.2.1 a0.1.2.2.2.2.2.1 t4).bind fun v33=>Dspec_Mix_4 n t1 (!v33.2) a0 v33.1.inn v33.1.pl.A v33.1.pl.B v33.1.pl.C v33.1.pl.D v33.1.kids) (frk (t3==6) ((Dspec_Put n a0.1.2.2.1 a0.1.2.2.2.2.2.2.1 t4).bind fun v34=>Dspec_Mix_4 n t1 (!v34.2) a0 v34.1.inn v34.1.pl.A v34.1.pl.B v34.1.pl.C v34.1.pl.D v34.1.kids) (frk (t3==7) ((Dspec_Put n a0.1.2.2.1 a0.1.2.2.2.2.2.2.2 t4).bind fun v35=>Dspec_Mix_4 n t1 (!v35.2) a0 v35.1.inn v35.1.pl.A v35.1.pl.B v35.1.pl.C v35.1.pl.D v35.1.kids) (none))))))))) (frk (t2==3) (frk (t3==0) ((Dspec_Put n a0.1.2.2.2.1 a0.1.1 t4).bind fun v36=>Dspec_Mix_4 n t1 (!v36.2) a0 v36.1.inn v36.1.pl.A v36.1.pl.B v36.1.pl.C v36.1.pl.D v36.1.kids) (frk (t3==1) ((Dspec_Put n a0.1.2.2.2.1 a0.1.2.1 t4).bind fun v37=>Dspec_Mix_4 n t1 (!v37.2) a0 v37.1.inn v37.1.pl.A v37.1.pl.B v37.1.pl.C v37.1.pl.D v37.1.kids) (frk (t3==2) ((Dspec_Put n a0.1.2.2.2.1 a0.1.2.2.1 t4).bind fun v38=>Dspec_Mix_4 n t1 (!v38.2) a0 v38.1.inn v38.1.pl.A v38.1.pl.B v38.1.pl.C v38.1.pl.D v38.1.kids) (frk (t3==3) ((Dspec_Put n a0.1.2.2.2.1 a0.1.2.2.2.1 t4).bind fun v39=>Dspec_Mix_4 n t1 (!v39.2) a0 v39.1.inn v39.1.pl.A v39.1.pl.B v39.1.pl.C v39.1.pl.D v39.1.kids) (frk (t3==4) ((Dspec_Put n a0.1.2.2.2.1 a0.1.2.2.2.2.1 t4).bind fun v40=>Dspec_Mix_4 n t1 (!v40.2) a0 v40.1.inn v40.1.pl.A v40.1.pl.B v40.1.pl.C v40.1.pl.D v40.1.kids) (frk (t3==5) ((Dspec_Put n a0.1.2.2.2.1 a0.1.2.2.2.2.2.1 t4).bind fun v41=>Dspec_Mix_4 n t1 (!v41.2) a0 v41.1.inn v41.1.pl.A v41.1.pl.B v41.1.pl.C v41.1.pl.D v41.1.kids) (frk (t3==6) ((Dspec_Put n a0.1.2.2.2.1 a0.1.2.2.2.2.2.2.1 t4).bind fun v42=>Dspec_Mix_4 n t1 (!v42.2) a0 v42.1.inn v42.1.pl.A v42.1.pl.B v42.1.pl.C v42.1.pl.D v42.1.kids) (frk (t3==7) ((Dspec_Put n a0.1.2.2.2.1 a0.1.2.2.2.2.2.2.2 t4).bind fun v43=>Dspec_Mix_4 n t1 (!v43.2) a0 v43.1.inn v43.1.pl.A v43.1.pl.B v43.1.pl.C v43.1.pl.D v43.1.kids) (none))))))))) (frk (t2==4) (frk (t3==0) ((Dspec_Put n a0.1.2.2.2.2.1 a0.1.1 t4).bind fun v44=>Dspec_Mix_4 n t1 (!v44.2) a0 v44.1.inn v44.1.pl.A v44.1.pl.B v44.1.pl.C v44.1.pl.D v44.1.kids) (frk (t3==1) ((Dspec_Put n a0.1.2.2.2.2.1 a0.1.2.1 t4).bind fun v45=>Dspec_Mix_4 n t1 (!v45.2) a0 v45.1.inn v45.1.pl.A v45.1.pl.B v45.1.pl.C v45.1.pl.D v45.1.kids) (frk (t3==2) ((Dspec_Put n a0.1.2.2.2.2.1 a0.1.2.2.1 t4).bind fun v46=>Dspec_Mix_4 n t1 (!v46.2) a0 v46.1.inn v46.1.pl.A v46.1.pl.B v46.1.pl.C v46.1.pl.D v46.1.kids) (frk (t3==3) ((Dspec_Put n a0.1.2.2.2.2.1 a0.1.2.2.2.1 t4).bind fun v47=>Dspec_Mix_4 n t1 (!v47.2) a0 v47.1.inn v47.1.pl.A v47.1.pl.B v47.1.pl.C v47.1.pl.D v47.1.kids) (frk (t3==4) ((Dspec_Put n a0.1.2.2.2.2.1 a0.1.2.2.2.2.1 t4).bind fun v48=>Dspec_Mix_4 n t1 (!v48.2) a0 v48.1.inn v48.1.pl.A v48.1.pl.B v48.1.pl.C v48.1.pl.D v48.1.kids) (frk (t3==5) ((Dspec_Put n a0.1.2.2.2.2.1 a0.1.2.2.2.2.2.1 t4).bind fun v49=>Dspec_Mix_4 n t1 (!v49.2) a0 v49.1.inn v49.1.pl.A v49.1.pl.B v49.1.pl.C v49.1.pl.D v49.1.kids) (frk (t3==6) ((Dspec_Put n a0.1.2.2.2.2.1 a0.1.2.2.2.2.2.2.1 t4).bind fun v50=>Dspec_Mix_4 n t1 (!v50.2) a0 v50.1.inn v50.1.pl.A v50.1.pl.B v50.1.pl.C v50.1.pl.D v50.1.kids) (frk (t3==7) ((Dspec_Put n a0.1.2.2.2.2.1 a0.1.2.2.2.2.2.2.2 t4).bind fun v51=>Dspec_Mix_4 n t1 (!v51.2) a0 v51.1.inn v51.1.pl.A v51.1.pl.B v51.1.pl.C v51.1.pl.D v51.1.kids) (none))))))))) (frk (t2==5) (frk (t3==0) ((Dspec_Put n a0.1.2.2.2.2.2.1 a0.1.1 t4).bind fun v52=>Dspec_Mix_4 n t1 (!v52.2) a0 v52.1.inn v52.1.pl.A v52.1.pl.B v52.1.pl.C v52.1.pl.D v52.1.kids) (frk (t3==1) ((Dspec_Put n a0.1.2.2.2.2.2.1 a0.1.2.1 t4).bind fun v53=>Dspec_Mix_4 n t1 (!v53.2) a0 v53.1.inn v53.1.pl.A v53.1.pl.B v53.1.pl.C v53.1.pl.D v53.1.kids) (frk (t3==2) ((Dspec_Put n a0.1.2.2.2.2.2.1 a0.1.2.2.1 t4).bind fun v54=>Dspec_Mix_4 n t1 (!v54.2) a0 v54.1.inn v54.1.pl.A v54.1.pl.B v54.1.pl.C v54.1.pl.D v54.1.kids) (frk (t3==3) ((Dspec_Put n a0.1.2.2.2.2.2.1 a0.1.2.2.2.1 t4).bind fun v55=>Dspec_Mix_4 n t1 (!v55.2) a0 v55.1.inn v55.1.pl.A v55.1.pl.B v55.1.pl.C v55.1.pl.D v55.1.kids) (frk (t3==4) ((Dspec_Put n a0.1.2.2.2.2.2.1 a0.1.2.2.2.2.1 t4).bind fun v56=>Dspec_Mix_4 n t1 (!v56.2) a0 v56.1.inn v56.1.pl.A v56.1.pl.B v56.1.pl.C v56.1.pl.D v56.1.kids) (frk (t3==5) ((Dspec_Put n a0.1.2.2.2.2.2.1 a0.1.2.2.2.2.2.1 t4).bind fun v57=>Dspec_Mix_4 n t1 (!v57.2) a0 v57.1.inn v57.1.pl.A v57.1.pl.B v57.1.pl.C v57.1.pl.D v57.1.kids) (frk (t3==6) ((Dspec_Put n a0.1.2.2.2.2.2.1 a0.1.2.2.2.2.2.2.1 t4).bind fun v58=>Dspec_Mix_4 n t1 (!v58.2) a0 v58.1.inn v58.1.pl.A v58.1.pl.B v58.1.pl.C v58.1.pl.D v58.1.kids) (frk (t3==7) ((Dspec_Put n a0.1.2.2.2.2.2.1 a0.1.2.2.2.2.2.2.2 t4).bind fun v59=>Dspec_Mix_4 n t1 (!v59.2) a0 v59.1.inn v59.1.pl.A v59.1.pl.B v59.1.pl.C v59.1.pl.D v59.1.kids) (none))))))))) (frk (t2==6) (frk (t3==0) ((Dspec_Put n a0.1.2.2.2.2.2.2.1 a0.1.1 t4).bind fun v60=>Dspec_Mix_4 n t1 (!v60.2) a0 v60.1.inn v60.1.pl.A v60.1.pl.B v60.1.pl.C v60.1.pl.D v60.1.kids) (frk (t3==1) ((Dspec_Put n a0.1.2.2.2.2.2.2.1 a0.1.2.1 t4).bind fun v61=>Dspec_Mix_4 n t1 (!v61.2) a0 v61.1.inn v61.1.pl.A v61.1.pl.B v61.1.pl.C v61.1.pl.D v61.1.kids) (frk (t3==2) ((Dspec_Put n a0.1.2.2.2.2.2.2.1 a0.1.2.2.1 t4).bind fun v62=>Dspec_Mix_4 n t1 (!v62.2) a0 v62.1.inn v62.1.pl.A v62.1.pl.B v62.1.pl.C v62.1.pl.D v62.1.kids) (frk (t3==3) ((Dspec_Put n a0.1.2.2.2.2.2.2.1 a0.1.2.2.2.1 t4).bind fun v63=>Dspec_Mix_4 n t1 (!v63.2) a0 v63.1.inn v63.1.pl.A v63.1.pl.B v63.1.pl.C v63.1.pl.D v63.1.kids) (frk (t3==4) ((Dspec_Put n a0.1.2.2.2.2.2.2.1 a0.1.2.2.2.2.1 t4).bind fun v64=>Dspec_Mix_4 n t1 (!v64.2) a0 v64.1.inn v64.1.pl.A v64.1.pl.B v64.1.pl.C v64.1.pl.D v64.1.kids) (frk (t3==5) ((Dspec_Put n a0.1.2.2.2.2.2.2.1 a0.1.2.2.2.2.2.1 t4).bind fun v65=>Dspec_Mix_4 n t1 (!v65.2) a0 v65.1.inn v65.1.pl.A v65.1.pl.B v65.1.pl.C v65.1.pl.D v65.1.kids) (frk (t3==6) ((Dspec_Put n a0.1.2.2.2.2.2.2.1 a0.1.2.2.2.2.2.2.1 t4).bind fun v66=>Dspec_Mix_4 n t1 (!v66.2) a0 v66.1.inn v66.1.pl.A v66.1.pl.B v66.1.pl.C v66.1.pl.D v66.1.kids) (frk (t3==7) ((Dspec_Put n a0.1.2.2.2.2.2.2.1 a0.1.2.2.2.2.2.2.2 t4).bind fun v67=>Dspec_Mix_4 n t1 (!v67.2) a0 v67.1.inn v67.1.pl.A v67.1.pl.B v67.1.pl.C v67.1.pl.D v67.1.kids) (none))))))))) (frk (t2==7) (frk (t3==0) ((Dspec_Put n a0.1.2.2.2.2.2.2.2 a0.1.1 t4).bind fun v68=>Dspec_Mix_4 n t1 (!v68.2) a0 v68.1.inn v68.1.pl.A v68.1.pl.B v68.1.pl.C v68.1.pl.D v68.1.kids) (frk (t3==1) ((Dspec_Put n a0.1.2.2.2.2.2.2.2 a0.1.2.1 t4).bind fun v69=>Dspec_Mix_4 n t1 (!v69.2) a0 v69.1.inn v69.1.pl.A v69.1.pl.B v69.1.pl.C v69.1.pl.D v69.1.kids) (frk (t3==2) ((Dspec_Put n a0.1.2.2.2.2.2.2.2 a0.1.2.2.1 t4).bind fun v70=>Dspec_Mix_4 n t1 (!v70.2) a0 v70.1.inn v70.1.pl.A v70.1.pl.B v70.1.pl.C v70.1.pl.D v70.1.kids) (frk (t3==3) ((Dspec_Put n a0.1.2.2.2.2.2.2.2 a0.1.2.2.2.1 t4).bind fun v71=>Dspec_Mix_4 n t1 (!v71.2) a0 v71.1.inn v71.1.pl.A v71.1.pl.B v71.1.pl.C v71.1.pl.D v71.1.kids) (frk (t3==4) ((Dspec_Put n a0.1.2.2.2.2.2.2.2 a0.1.2.2.2.2.1 t4).bind fun v72=>Dspec_Mix_4 n t1 (!v72.2) a0 v72.1.inn v72.1.pl.A v72.1.pl.B v72.1.pl.C v72.1.pl.D v72.1.kids) (frk (t3==5) ((Dspec_Put n a0.1.2.2.2.2.2.2.2 a0.1.2.2.2.2.2.1 t4).bind fun v73=>Dspec_Mix_4 n t1 (!v73.2) a0 v73.1.inn v73.1.pl.A v73.1.pl.B v73.1.pl.C v73.1.pl.D v73.1.kids) (frk (t3==6) ((Dspec_Put n a0.1.2.2.2.2.2.2.2 a0.1.2.2.2.2.2.2.1 t4).bind fun v74=>Dspec_Mix_4 n t1 (!v74.2) a0 v74.1.inn v74.1.pl.A v74.1.pl.B v74.1.pl.C v74.1.pl.D v74.1.kids) (frk (t3==7) ((Dspec_Put n a0.1.2.2.2.2.2.2.2 a0.1.2.2.2.2.2.2.2 t4).bind fun v75=>Dspec_Mix_4 n t1 (!v75.2) a0 v75.1.inn v75.1.pl.A v75.1.pl.B v75.1.pl.C v75.1.pl.D v75.1.kids) (none))))))))) (none)))))))))
theorem Tspec_Mix_3{Y}(n:Nat)(t1 t2 t3 t4:Int)(t40:Bool)(a0:Dsk)(r:(Dsk×Int))(h:Dspec_Mix_3 n t1 t2 t3 t4 t40 a0=some r):Wk Tryz.prog H Y 10 [.code (cp [1,0,0,1,1,1] (bodyOf Tryz.f10)),.blk 0,.code (cp [1,1] (bodyOf Tryz.f10))] (FinX Tryz.prog Tryz.f10 [] (.tup [.agg (cT38o r.1),i64 r.2]) []) ⟨[(1,i64 t1),(2,i64 t2),(3,i64 t3),(4,i64 t4),(5,.ptr 5 0),(10,.ptr 10 0),(40,bl t40)],[(5,⟨true,0,(cT38 a0)⟩),(10,⟨true,0,[bl false,i64 0,i64 0,i64 0,i64 0,.nil,bl false,i64 0,i64 0,i64 0,i64 0,.nil,bl false,i64 0,i64 0,i64 0,i64 0,.nil,bl false,i64 0,i64 0,i64 0,i64 0,.nil,bl false,i64 0,i64 0,i64 0,i64 0,.nil,bl false,i64 0,i64 0,i64 0,i64 0,.nil,bl false,i64 0,i64 0,i64 0,i64 0,.nil,bl false,i64 0,i64 0,i64 0,i64 0,.nil,bl false,bl false,bl false,bl false,bl false,bl false,bl false,bl false]⟩)]⟩:=by
 unfold Dspec_Mix_3 at h
 refine x_frk 0 [] onil h (by kernel_rfl) (fun h=>?_) (fun h=>?_)
 ·obtain⟨v8,y8,h⟩:=bm h
  replace h:=sj h;subst h
  exact x_end 7 [(1,.call [] [] (.agg (cT38o v8)) [])] [] (ocons (Tspec_l20Copy (Y:=Y) n a0 _ y8) onil) onil 
 ·refine x_pt 6 [] onil (by kernel_rfl) ?_
  rcases frk_eq h with ⟨hc,hk73⟩ | h
  ·subst hc
   replace h:=hk73
   refine x_pt 4 [] onil (by kernel_rfl) ?_
   rcases frk_eq h with ⟨hc,hk9⟩ | h
   ·subst hc
    replace h:=hk9
    obtain⟨v9,y9,h⟩:=bm h
    exact x_to 17 [(3,.call [] [] (.tup [eS v9.1,bl v9.2]) [])] (ocons (Tspec_Put (Y:=Y) n a0.1.1 a0.1.1 t4 _ y9) onil) (Tspec_Mix_4 n t1 (!v9.2) a0 v9.1.inn v9.1.pl.A v9.1.pl.B v9.1.pl.C v9.1.pl.D v9.1.kids r h) 
   rcases frk_eq h with ⟨hc,hk10⟩ | h
   ·subst hc
    replace h:=hk10
    obtain⟨v13,y13,h⟩:=bm h
    exact x_to 17 [(3,.call [] [] (.tup [eS v13.1,bl v13.2]) [])] (ocons (Tspec_Put (Y:=Y) n a0.1.1 a0.1.2.1 t4 _ y13) onil) (Tspec_Mix_4 n t1 (!v13.2) a0 v13.1.inn v13.1.pl.A v13.1.pl.B v13.1.pl.C v13.1.pl.D v13.1.kids r h) 
   rcases frk_eq h with ⟨hc,hk11⟩ | h
   ·subst hc
    replace h:=hk11
    obtain⟨v14,y14,h⟩:=bm h
    exact x_to 17 [(3,.call [] [] (.tup [eS v14.1,bl v14.2]) [])] (ocons (Tspec_Put (Y:=Y) n a0.1.1 a0.1.2.2.1 t4 _ y14) onil) (Tspec_Mix_4 n t1 (!v14.2) a0 v14.1.inn v14.1.pl.A v14.1.pl.B v14.1.pl.C v14.1.pl.D v14.1.kids r h) 
   rcases frk_eq h with ⟨hc,hk12⟩ | h
   ·subst hc
    replace h:=hk12
    obtain⟨v15,y15,h⟩:=bm h
    exact x_to 17 [(3,.call [] [] (.tup [eS v15.1,bl v15.2]) [])] (ocons (Tspec_Put (Y:=Y) n a0.1.1 a0.1.2.2.2.1 t4 _ y15) onil) (Tspec_Mix_4 n t1 (!v15.2) a0 v15.1.inn v15.1.pl.A v15.1.pl.B v15.1.pl.C v15.1.pl.D v15.1.kids r h) 
   rcases frk_eq h with ⟨hc,hk13⟩ | h
   ·subst hc
    replace h:=hk13
    obtain⟨v16,y16,h⟩:=bm h
    exact x_to 17 [(3,.call [] [] (.tup [eS v16.1,bl v16.2]) [])] (ocons (Tspec_Put (Y:=Y) n a0.1.1 a0.1.2.2.2.2.1 t4 _ y16) onil) (Tspec_Mix_4 n t1 (!v16.2) a0 v16.1.inn v16.1.pl.A v16.1.pl.B v16.1.pl.C v16.1.pl.D v16.1.kids r h) 
   rcases frk_eq h with ⟨hc,hk14⟩ | h
   ·subst hc
    replace h:=hk14
    obtain⟨v17,y17,h⟩:=bm h
    exact x_to 17 [(3,.call [] [] (.tup [eS v17.1,bl v17.2]) [])] (ocons (Tspec_Put (Y:=Y) n a0.1.1 a0.1.2.2.2.2.2.1 t4 _ y17) onil) (Tspec_Mix_4 n t1 (!v17.2) a0 v17.1.inn v17.1.pl.A v17.1.pl.B v17.1.pl.C v17.1.pl.D v17.1.kids r h) 
   rcases frk_eq h with ⟨hc,hk15⟩ | h
   ·subst hc
    replace h:=hk15
    obtain⟨v18,y18,h⟩:=bm h
    exact x_to 17 [(3,.call [] [] (.tup [eS v18.1,bl v18.2]) [])] (ocons (Tspec_Put (Y:=Y) n a0.1.1 a0.1.2.2.2.2.2.2.1 t4 _ y18) onil) (Tspec_Mix_4 n t1 (!v18.2) a0 v18.1.inn v18.1.pl.A v18.1.pl.B v18.1.pl.C v18.1.pl.D v18.1.kids r h) 
   rcases frk_eq h with ⟨hc,hk16⟩ | h
   ·subst hc
    replace h:=hk16
    obtain⟨v19,y19,h⟩:=bm h
    exact x_to 17 [(3,.call [] [] (.tup [eS v19.1,bl v19.2]) [])] (ocons (Tspec_Put (Y:=Y) n a0.1.1 a0.1.2.2.2.2.2.2.2 t4 _ y19) onil) (Tspec_Mix_4 n t1 (!v19.2) a0 v19.1.inn v19.1.pl.A v19.1.pl.B v19.1.pl.C v19.1.pl.D v19.1.kids r h) 
   exact absurd h (by simp)
  rcases frk_eq h with ⟨hc,hk74⟩ | h
  ·subst hc
   replace h:=hk74
   refine x_pt 4 [] onil (by kernel_rfl) ?_
   rcases frk_eq h with ⟨hc,hk17⟩ | h
   ·subst hc
    replace h:=hk17
    obtain⟨v20,y20,h⟩:=bm h
    exact x_to 17 [(3,.call [] [] (.tup [eS v20.1,bl v20.2]) [])] (ocons (Tspec_Put (Y:=Y) n a0.1.2.1 a0.1.1 t4 _ y20) onil) (Tspec_Mix_4 n t1 (!v20.2) a0 v20.1.inn v20.1.pl.A v20.1.pl.B v20.1.pl.C v20.1.pl.D v20.1.kids r h) 
   rcases frk_eq h with ⟨hc,hk18⟩ | h
   ·subst hc
    replace h:=hk18
    obtain⟨v21,y21,h⟩:=bm h
    exact x_to 17 [(3,.call [] [] (.tup [eS v21.1,bl v21.2]) [])] (ocons (Tspec_Put (Y:=Y) n a0.1.2.1 a0.1.2.1 t4 _ y21) onil) (Tspec_Mix_4 n t1 (!v21.2) a0 v21.1.inn v21.1.pl.A v21.1.pl.B v21.1.pl.C v21.1.pl.D v21.1.kids r h) 
   rcases frk_eq h with ⟨hc,hk19⟩ | h
   ·subst hc
    replace h:=hk19
    obtain⟨v22,y22,h⟩:=bm h
    exact x_to 17 [(3,.call [] [] (.tup [eS v22.1,bl v22.2]) [])] (ocons (Tspec_Put (Y:=Y) n a0.1.2.1 a0.1.2.2.1 t4 _ y22) onil) (Tspec_Mix_4 n t1 (!v22.2) a0 v22.1.inn v22.1.pl.A v22.1.pl.B v22.1.pl.C v22.1.pl.D v22.1.kids r h) 
   rcases frk_eq h with ⟨hc,hk20⟩ | h
   ·subst hc
    replace h:=hk20
    obtain⟨v23,y23,h⟩:=bm h
    exact x_to 17 [(3,.call [] [] (.tup [eS v23.1,bl v23.2]) [])] (ocons (Tspec_Put (Y:=Y) n a0.1.2.1 a0.1.2.2.2.1 t4 _ y23) onil) (Tspec_Mix_4 n t1 (!v23.2) a0 v23.1.inn v23.1.pl.A v23.1.pl.B v23.1.pl.C v23.1.pl.D v23.1.kids r h) 
   rcases frk_eq h with ⟨hc,hk21⟩ | h
   ·subst hc
    replace h:=hk21
    obtain⟨v24,y24,h⟩:=bm h
    exact x_to 17 [(3,.call [] [] (.tup [eS v24.1,bl v24.2]) [])] (ocons (Tspec_Put (Y:=Y) n a0.1.2.1 a0.1.2.2.2.2.1 t4 _ y24) onil) (Tspec_Mix_4 n t1 (!v24.2) a0 v24.1.inn v24.1.pl.A v24.1.pl.B v24.1.pl.C v24.1.pl.D v24.1.kids r h) 
   rcases frk_eq h with ⟨hc,hk22⟩ | h
   ·subst hc
    replace h:=hk22
    obtain⟨v25,y25,h⟩:=bm h
    exact x_to 17 [(3,.call [] [] (.tup [eS v25.1,bl v25.2]) [])] (ocons (Tspec_Put (Y:=Y) n a0.1.2.1 a0.1.2.2.2.2.2.1 t4 _ y25) onil) (Tspec_Mix_4 n t1 (!v25.2) a0 v25.1.inn v25.1.pl.A v25.1.pl.B v25.1.pl.C v25.1.pl.D v25.1.kids r h) 
   rcases frk_eq h with ⟨hc,hk23⟩ | h
   ·subst hc
    replace h:=hk23
    obtain⟨v26,y26,h⟩:=bm h
    exact x_to 17 [(3,.call [] [] (.tup [eS v26.1,bl v26.2]) [])] (ocons (Tspec_Put (Y:=Y) n a0.1.2.1 a0.1.2.2.2.2.2.2.1 t4 _ y26) onil) (Tspec_Mix_4 n t1 (!v26.2) a0 v26.1.inn v26.1.pl.A v26.1.pl.B v26.1.pl.C v26.1.pl.D v26.1.kids r h) 
   rcases frk_eq h with ⟨hc,hk24⟩ | h
   ·subst hc
    replace h:=hk24
    obtain⟨v27,y27,h⟩:=bm h
    exact x_to 17 [(3,.call [] [] (.tup [eS v27.1,bl v27.2]) [])] (ocons (Tspec_Put (Y:=Y) n a0.1.2.1 a0.1.2.2.2.2.2.2.2 t4 _ y27) onil) (Tspec_Mix_4 n t1 (!v27.2) a0 v27.1.inn v27.1.pl.A v27.1.pl.B v27.1.pl.C v27.1.pl.D v27.1.kids r h) 
   exact absurd h (by simp)
  rcases frk_eq h with ⟨hc,hk75⟩ | h
  ·subst hc
   replace h:=hk75
   refine x_pt 4 [] onil (by kernel_rfl) ?_
   rcases frk_eq h with ⟨hc,hk25⟩ | h
   ·subst hc
    replace h:=hk25
    obtain⟨v28,y28,h⟩:=bm h
    exact x_to 17 [(3,.call [] [] (.tup [eS v28.1,bl v28.2]) [])] (ocons (Tspec_Put (Y:=Y) n a0.1.2.2.1 a0.1.1 t4 _ y28) onil) (Tspec_Mix_4 n t1 (!v28.2) a0 v28.1.inn v28.1.pl.A v28.1.pl.B v28.1.pl.C v28.1.pl.D v28.1.kids r h) 
   rcases frk_eq h with ⟨hc,hk26⟩ | h
   ·subst hc
    replace h:=hk26
    obtain⟨v29,y29,h⟩:=bm h
    exact x_to 17 [(3,.call [] [] (.tup [eS v29.1,bl v29.2]) [])] (ocons (Tspec_Put (Y:=Y) n a0.1.2.2.1 a0.1.2.1 t4 _ y29) onil) (Tspec_Mix_4 n t1 (!v29.2) a0 v29.1.inn v29.1.pl.A v29.1.pl.B v29.1.pl.C v29.1.pl.D v29.1.kids r h) 
   rcases frk_eq h with ⟨hc,hk27⟩ | h
   ·subst hc
    replace h:=hk27
    obtain⟨v30,y30,h⟩:=bm h
    exact x_to 17 [(3,.call [] [] (.tup [eS v30.1,bl v30.2]) [])] (ocons (Tspec_Put (Y:=Y) n a0.1.2.2.1 a0.1.2.2.1 t4 _ y30) onil) (Tspec_Mix_4 n t1 (!v30.2) a0 v30.1.inn v30.1.pl.A v30.1.pl.B v30.1.pl.C v30.1.pl.D v30.1.kids r h) 
   rcases frk_eq h with ⟨hc,hk28⟩ | h
   ·subst hc
    replace h:=hk28
    obtain⟨v31,y31,h⟩:=bm h
    exact x_to 17 [(3,.call [] [] (.tup [eS v31.1,bl v31.2]) [])] (ocons (Tspec_Put (Y:=Y) n a0.1.2.2.1 a0.1.2.2.2.1 t4 _ y31) onil) (Tspec_Mix_4 n t1 (!v31.2) a0 v31.1.inn v31.1.pl.A v31.1.pl.B v31.1.pl.C v31.1.pl.D v31.1.kids r h) 
   rcases frk_eq h with ⟨hc,hk29⟩ | h
   ·subst hc
    replace h:=hk29
    obtain⟨v32,y32,h⟩:=bm h
    exact x_to 17 [(3,.call [] [] (.tup [eS v32.1,bl v32.2]) [])] (ocons (Tspec_Put (Y:=Y) n a0.1.2.2.1 a0.1.2.2.2.2.1 t4 _ y32) onil) (Tspec_Mix_4 n t1 (!v32.2) a0 v32.1.inn v32.1.pl.A v32.1.pl.B v32.1.pl.C v32.1.pl.D v32.1.kids r h) 
   rcases frk_eq h with ⟨hc,hk30⟩ | h
   ·subst hc
    replace h:=hk30
    obtain⟨v33,y33,h⟩:=bm h
    exact x_to 17 [(3,.call [] [] (.tup [eS v33.1,bl v33.2]) [])] (ocons (Tspec_Put (Y:=Y) n a0.1.2.2.1 a0.1.2.2.2.2.2.1 t4 _ y33) onil) (Tspec_Mix_4 n t1 (!v33.2) a0 v33.1.inn v33.1.pl.A v33.1.pl.B v33.1.pl.C v33.1.pl.D v33.1.kids r h) 
   rcases frk_eq h with ⟨hc,hk31⟩ | h
   ·subst hc
    replace h:=hk31
    obtain⟨v34,y34,h⟩:=bm h
    exact x_to 17 [(3,.call [] [] (.tup [eS v34.1,bl v34.2]) [])] (ocons (Tspec_Put (Y:=Y) n a0.1.2.2.1 a0.1.2.2.2.2.2.2.1 t4 _ y34) onil) (Tspec_Mix_4 n t1 (!v34.2) a0 v34.1.inn v34.1.pl.A v34.1.pl.B v34.1.pl.C v34.1.pl.D v34.1.kids r h) 
   rcases frk_eq h with ⟨hc,hk32⟩ | h
   ·subst hc
    replace h:=hk32
    obtain⟨v35,y35,h⟩:=bm h
    exact x_to 17 [(3,.call [] [] (.tup [eS v35.1,bl v35.2]) [])] (ocons (Tspec_Put (Y:=Y) n a0.1.2.2.1 a0.1.2.2.2.2.2.2.2 t4 _ y35) onil) (Tspec_Mix_4 n t1 (!v35.2) a0 v35.1.inn v35.1.pl.A v35.1.pl.B v35.1.pl.C v35.1.pl.D v35.1.kids r h) 
   exact absurd h (by simp)
  rcases frk_eq h with ⟨hc,hk76⟩ | h
  ·subst hc
   replace h:=hk76
   refine x_pt 4 [] onil (by kernel_rfl) ?_
   rcases frk_eq h with ⟨hc,hk33⟩ | h
   ·subst hc
    replace h:=hk33
    obtain⟨v36,y36,h⟩:=bm h
    exact x_to 17 [(3,.call [] [] (.tup [eS v36.1,bl v36.2]) [])] (ocons (Tspec_Put (Y:=Y) n a0.1.2.2.2.1 a0.1.1 t4 _ y36) onil) (Tspec_Mix_4 n t1 (!v36.2) a0 v36.1.inn v36.1.pl.A v36.1.pl.B v36.1.pl.C v36.1.pl.D v36.1.kids r h) 
   rcases frk_eq h with ⟨hc,hk34⟩ | h
   ·subst hc
    replace h:=hk34
    obtain⟨v37,y37,h⟩:=bm h
    exact x_to 17 [(3,.call [] [] (.tup [eS v37.1,bl v37.2]) [])] (ocons (Tspec_Put (Y:=Y) n a0.1.2.2.2.1 a0.1.2.1 t4 _ y37) onil) (Tspec_Mix_4 n t1 (!v37.2) a0 v37.1.inn v37.1.pl.A v37.1.pl.B v37.1.pl.C v37.1.pl.D v37.1.kids r h) 
   rcases frk_eq h with ⟨hc,hk35⟩ | h
   ·subst hc
    replace h:=hk35
    obtain⟨v38,y38,h⟩:=bm h
    exact x_to 17 [(3,.call [] [] (.tup [eS v38.1,bl v38.2]) [])] (ocons (Tspec_Put (Y:=Y) n a0.1.2.2.2.1 a0.1.2.2.1 t4 _ y38) onil) (Tspec_Mix_4 n t1 (!v38.2) a0 v38.1.inn v38.1.pl.A v38.1.pl.B v38.1.pl.C v38.1.pl.D v38.1.kids r h) 
   rcases frk_eq h with ⟨hc,hk36⟩ | h
   ·subst hc
    replace h:=hk36
    obtain⟨v39,y39,h⟩:=bm h
    exact x_to 17 [(3,.call [] [] (.tup [eS v39.1,bl v39.2]) [])] (ocons (Tspec_Put (Y:=Y) n a0.1.2.2.2.1 a0.1.2.2.2.1 t4 _ y39) onil) (Tspec_Mix_4 n t1 (!v39.2) a0 v39.1.inn v39.1.pl.A v39.1.pl.B v39.1.pl.C v39.1.pl.D v39.1.kids r h) 
   rcases frk_eq h with ⟨hc,hk37⟩ | h
   ·subst hc
    replace h:=hk37
    obtain⟨v40,y40,h⟩:=bm h
    exact x_to 17 [(3,.call [] [] (.tup [eS v40.1,bl v40.2]) [])] (ocons (Tspec_Put (Y:=Y) n a0.1.2.2.2.1 a0.1.2.2.2.2.1 t4 _ y40) onil) (Tspec_Mix_4 n t1 (!v40.2) a0 v40.1.inn v40.1.pl.A v40.1.pl.B v40.1.pl.C v40.1.pl.D v40.1.kids r h) 
   rcases frk_eq h with ⟨hc,hk38⟩ | h
   ·subst hc
    replace h:=hk38
    obtain⟨v41,y41,h⟩:=bm h
    exact x_to 17 [(3,.call [] [] (.tup [eS v41.1,bl v41.2]) [])] (ocons (Tspec_Put (Y:=Y) n a0.1.2.2.2.1 a0.1.2.2.2.2.2.1 t4 _ y41) onil) (Tspec_Mix_4 n t1 (!v41.2) a0 v41.1.inn v41.1.pl.A v41.1.pl.B v41.1.pl.C v41.1.pl.D v41.1.kids r h) 
   rcases frk_eq h with ⟨hc,hk39⟩ | h
   ·subst hc
    replace h:=hk39
    obtain⟨v42,y42,h⟩:=bm h
    exact x_to 17 [(3,.call [] [] (.tup [eS v42.1,bl v42.2]) [])] (ocons (Tspec_Put (Y:=Y) n a0.1.2.2.2.1 a0.1.2.2.2.2.2.2.1 t4 _ y42) onil) (Tspec_Mix_4 n t1 (!v42.2) a0 v42.1.inn v42.1.pl.A v42.1.pl.B v42.1.pl.C v42.1.pl.D v42.1.kids r h) 
   rcases frk_eq h with ⟨hc,hk40⟩ | h
   ·subst hc
    replace h:=hk40
    obtain⟨v43,y43,h⟩:=bm h
    exact x_to 17 [(3,.call [] [] (.tup [eS v43.1,bl v43.2]) [])] (ocons (Tspec_Put (Y:=Y) n a0.1.2.2.2.1 a0.1.2.2.2.2.2.2.2 t4 _ y43) onil) (Tspec_Mix_4 n t1 (!v43.2) a0 v43.1.inn v43.1.pl.A v43.1.pl.B v43.1.pl.C v43.1.pl.D v43.1.kids r h) 
   exact absurd h (by simp)
  rcases frk_eq h with ⟨hc,hk77⟩ | h
  ·subst hc
   replace h:=hk77
   refine x_pt 4 [] onil (by kernel_rfl) ?_
   rcases frk_eq h with ⟨hc,hk41⟩ | h
   ·subst hc
    replace h:=hk41
    obtain⟨v44,y44,h⟩:=bm h
    exact x_to 17 [(3,.call [] [] (.tup [eS v44.1,bl v44.2]) [])] (ocons (Tspec_Put (Y:=Y) n a0.1.2.2.2.2.1 a0.1.1 t4 _ y44) onil) (Tspec_Mix_4 n t1 (!v44.2) a0 v44.1.inn v44.1.pl.A v44.1.pl.B v44.1.pl.C v44.1.pl.D v44.1.kids r h) 
   rcases frk_eq h with ⟨hc,hk42⟩ | h
   ·subst hc
    replace h:=hk42
    obtain⟨v45,y45,h⟩:=bm h
    exact x_to 17 [(3,.call [] [] (.tup [eS v45.1,bl v45.2]) [])] (ocons (Tspec_Put (Y:=Y) n a0.1.2.2.2.2.1 a0.1.2.1 t4 _ y45) onil) (Tspec_Mix_4 n t1 (!v45.2) a0 v45.1.inn v45.1.pl.A v45.1.pl.B v45.1.pl.C v45.1.pl.D v45.1.kids r h) 
   rcases frk_eq h with ⟨hc,hk43⟩ | h
   ·subst hc
    replace h:=hk43
    obtain⟨v46,y46,h⟩:=bm h
    exact x_to 17 [(3,.call [] [] (.tup [eS v46.1,bl v46.2]) [])] (ocons (Tspec_Put (Y:=Y) n a0.1.2.2.2.2.1 a0.1.2.2.1 t4 _ y46) onil) (Tspec_Mix_4 n t1 (!v46.2) a0 v46.1.inn v46.1.pl.A v46.1.pl.B v46.1.pl.C v46.1.pl.D v46.1.kids r h) 
   rcases frk_eq h with ⟨hc,hk44⟩ | h
   ·subst hc
    replace h:=hk44
    obtain⟨v47,y47,h⟩:=bm h
    exact x_to 17 [(3,.call [] [] (.tup [eS v47.1,bl v47.2]) [])] (ocons (Tspec_Put (Y:=Y) n a0.1.2.2.2.2.1 a0.1.2.2.2.1 t4 _ y47) onil) (Tspec_Mix_4 n t1 (!v47.2) a0 v47.1.inn v47.1.pl.A v47.1.pl.B v47.1.pl.C v47.1.pl.D v47.1.kids r h) 
   rcases frk_eq h with ⟨hc,hk45⟩ | h
   ·subst hc
    replace h:=hk45
    obtain⟨v48,y48,h⟩:=bm h
    exact x_to 17 [(3,.call [] [] (.tup [eS v48.1,bl v48.2]) [])] (ocons (Tspec_Put (Y:=Y) n a0.1.2.2.2.2.1 a0.1.2.2.2.2.1 t4 _ y48) onil) (Tspec_Mix_4 n t1 (!v48.2) a0 v48.1.inn v48.1.pl.A v48.1.pl.B v48.1.pl.C v48.1.pl.D v48.1.kids r h) 
   rcases frk_eq h with ⟨hc,hk46⟩ | h
   ·subst hc
    replace h:=hk46
    obtain⟨v49,y49,h⟩:=bm h
    exact x_to 17 [(3,.call [] [] (.tup [eS v49.1,bl v49.2]) [])] (ocons (Tspec_Put (Y:=Y) n a0.1.2.2.2.2.1 a0.1.2.2.2.2.2.1 t4 _ y49) onil) (Tspec_Mix_4 n t1 (!v49.2) a0 v49.1.inn v49.1.pl.A v49.1.pl.B v49.1.pl.C v49.1.pl.D v49.1.kids r h) 
   rcases frk_eq h with ⟨hc,hk47⟩ | h
   ·subst hc
    replace h:=hk47
    obtain⟨v50,y50,h⟩:=bm h
    exact x_to 17 [(3,.call [] [] (.tup [eS v50.1,bl v50.2]) [])] (ocons (Tspec_Put (Y:=Y) n a0.1.2.2.2.2.1 a0.1.2.2.2.2.2.2.1 t4 _ y50) onil) (Tspec_Mix_4 n t1 (!v50.2) a0 v50.1.inn v50.1.pl.A v50.1.pl.B v50.1.pl.C v50.1.pl.D v50.1.kids r h) 
   rcases frk_eq h with ⟨hc,hk48⟩ | h
   ·subst hc
    replace h:=hk48
    obtain⟨v51,y51,h⟩:=bm h
    exact x_to 17 [(3,.call [] [] (.tup [eS v51.1,bl v51.2]) [])] (ocons (Tspec_Put (Y:=Y) n a0.1.2.2.2.2.1 a0.1.2.2.2.2.2.2.2 t4 _ y51) onil) (Tspec_Mix_4 n t1 (!v51.2) a0 v51.1.inn v51.1.pl.A v51.1.pl.B v51.1.pl.C v51.1.pl.D v51.1.kids r h) 
   exact absurd h (by simp)
  rcases frk_eq h with ⟨hc,hk78⟩ | h
  ·subst hc
   replace h:=hk78
   refine x_pt 4 [] onil (by kernel_rfl) ?_
   rcases frk_eq h with ⟨hc,hk49⟩ | h
   ·subst hc
    replace h:=hk49
    obtain⟨v52,y52,h⟩:=bm h
    exact x_to 17 [(3,.call [] [] (.tup [eS v52.1,bl v52.2]) [])] (ocons (Tspec_Put (Y:=Y) n a0.1.2.2.2.2.2.1 a0.1.1 t4 _ y52) onil) (Tspec_Mix_4 n t1 (!v52.2) a0 v52.1.inn v52.1.pl.A v52.1.pl.B v52.1.pl.C v52.1.pl.D v52.1.kids r h) 
   rcases frk_eq h with ⟨hc,hk50⟩ | h
   ·subst hc
    replace h:=hk50
    obtain⟨v53,y53,h⟩:=bm h
    exact x_to 17 [(3,.call [] [] (.tup [eS v53.1,bl v53.2]) [])] (ocons (Tspec_Put (Y:=Y) n a0.1.2.2.2.2.2.1 a0.1.2.1 t4 _ y53) onil) (Tspec_Mix_4 n t1 (!v53.2) a0 v53.1.inn v53.1.pl.A v53.1.pl.B v53.1.pl.C v53.1.pl.D v53.1.kids r h) 
   rcases frk_eq h with ⟨hc,hk51⟩ | h
   ·subst hc
    replace h:=hk51
    obtain⟨v54,y54,h⟩:=bm h
    exact x_to 17 [(3,.call [] [] (.tup [eS v54.1,bl v54.2]) [])] (ocons (Tspec_Put (Y:=Y) n a0.1.2.2.2.2.2.1 a0.1.2.2.1 t4 _ y54) onil) (Tspec_Mix_4 n t1 (!v54.2) a0 v54.1.inn v54.1.pl.A v54.1.pl.B v54.1.pl.C v54.1.pl.D v54.1.kids r h) 
   rcases frk_eq h with ⟨hc,hk52⟩ | h
   ·subst hc
    replace h:=hk52
    obtain⟨v55,y55,h⟩:=bm h
    exact x_to 17 [(3,.call [] [] (.tup [eS v55.1,bl v55.2]) [])] (ocons (Tspec_Put (Y:=Y) n a0.1.2.2.2.2.2.1 a0.1.2.2.2.1 t4 _ y55) onil) (Tspec_Mix_4 n t1 (!v55.2) a0 v55.1.inn v55.1.pl.A v55.1.pl.B v55.1.pl.C v55.1.pl.D v55.1.kids r h) 
   rcases frk_eq h with ⟨hc,hk53⟩ | h
   ·subst hc
    replace h:=hk53
    obtain⟨v56,y56,h⟩:=bm h
    exact x_to 17 [(3,.call [] [] (.tup [eS v56.1,bl v56.2]) [])] (ocons (Tspec_Put (Y:=Y) n a0.1.2.2.2.2.2.1 a0.1.2.2.2.2.1 t4 _ y56) onil) (Tspec_Mix_4 n t1 (!v56.2) a0 v56.1.inn v56.1.pl.A v56.1.pl.B v56.1.pl.C v56.1.pl.D v56.1.kids r h) 
   rcases frk_eq h with ⟨hc,hk54⟩ | h
   ·subst hc
    replace h:=hk54
    obtain⟨v57,y57,h⟩:=bm h
    exact x_to 17 [(3,.call [] [] (.tup [eS v57.1,bl v57.2]) [])] (ocons (Tspec_Put (Y:=Y) n a0.1.2.2.2.2.2.1 a0.1.2.2.2.2.2.1 t4 _ y57) onil) (Tspec_Mix_4 n t1 (!v57.2) a0 v57.1.inn v57.1.pl.A v57.1.pl.B v57.1.pl.C v57.1.pl.D v57.1.kids r h) 
   rcases frk_eq h with ⟨hc,hk55⟩ | h
   ·subst hc
    replace h:=hk55
    obtain⟨v58,y58,h⟩:=bm h
    exact x_to 17 [(3,.call [] [] (.tup [eS v58.1,bl v58.2]) [])] (ocons (Tspec_Put (Y:=Y) n a0.1.2.2.2.2.2.1 a0.1.2.2.2.2.2.2.1 t4 _ y58) onil) (Tspec_Mix_4 n t1 (!v58.2) a0 v58.1.inn v58.1.pl.A v58.1.pl.B v58.1.pl.C v58.1.pl.D v58.1.kids r h) 
   rcases frk_eq h with ⟨hc,hk56⟩ | h
   ·subst hc
    replace h:=hk56
    obtain⟨v59,y59,h⟩:=bm h
    exact x_to 17 [(3,.call [] [] (.tup [eS v59.1,bl v59.2]) [])] (ocons (Tspec_Put (Y:=Y) n a0.1.2.2.2.2.2.1 a0.1.2.2.2.2.2.2.2 t4 _ y59) onil) (Tspec_Mix_4 n t1 (!v59.2) a0 v59.1.inn v59.1.pl.A v59.1.pl.B v59.1.pl.C v59.1.pl.D v59.1.kids r h) 
   exact absurd h (by simp)
  rcases frk_eq h with ⟨hc,hk79⟩ | h
  ·subst hc
   replace h:=hk79
   refine x_pt 4 [] onil (by kernel_rfl) ?_
   rcases frk_eq h with ⟨hc,hk57⟩ | h
   ·subst hc
    replace h:=hk57
    obtain⟨v60,y60,h⟩:=bm h
    exact x_to 17 [(3,.call [] [] (.tup [eS v60.1,bl v60.2]) [])] (ocons (Tspec_Put (Y:=Y) n a0.1.2.2.2.2.2.2.1 a0.1.1 t4 _ y60) onil) (Tspec_Mix_4 n t1 (!v60.2) a0 v60.1.inn v60.1.pl.A v60.1.pl.B v60.1.pl.C v60.1.pl.D v60.1.kids r h) 
   rcases frk_eq h with ⟨hc,hk58⟩ | h
   ·subst hc
    replace h:=hk58
    obtain⟨v61,y61,h⟩:=bm h
    exact x_to 17 [(3,.call [] [] (.tup [eS v61.1,bl v61.2]) [])] (ocons (Tspec_Put (Y:=Y) n a0.1.2.2.2.2.2.2.1 a0.1.2.1 t4 _ y61) onil) (Tspec_Mix_4 n t1 (!v61.2) a0 v61.1.inn v61.1.pl.A v61.1.pl.B v61.1.pl.C v61.1.pl.D v61.1.kids r h) 
   rcases frk_eq h with ⟨hc,hk59⟩ | h
   ·subst hc
    replace h:=hk59
    obtain⟨v62,y62,h⟩:=bm h
    exact x_to 17 [(3,.call [] [] (.tup [eS v62.1,bl v62.2]) [])] (ocons (Tspec_Put (Y:=Y) n a0.1.2.2.2.2.2.2.1 a0.1.2.2.1 t4 _ y62) onil) (Tspec_Mix_4 n t1 (!v62.2) a0 v62.1.inn v62.1.pl.A v62.1.pl.B v62.1.pl.C v62.1.pl.D v62.1.kids r h) 
   rcases frk_eq h with ⟨hc,hk60⟩ | h
   ·subst hc
    replace h:=hk60
    obtain⟨v63,y63,h⟩:=bm h
    exact x_to 17 [(3,.call [] [] (.tup [eS v63.1,bl v63.2]) [])] (ocons (Tspec_Put (Y:=Y) n a0.1.2.2.2.2.2.2.1 a0.1.2.2.2.1 t4 _ y63) onil) (Tspec_Mix_4 n t1 (!v63.2) a0 v63.1.inn v63.1.pl.A v63.1.pl.B v63.1.pl.C v63.1.pl.D v63.1.kids r h) 
   rcases frk_eq h with ⟨hc,hk61⟩ | h
   ·subst hc
    replace h:=hk61
    obtain⟨v64,y64,h⟩:=bm h
    exact x_to 17 [(3,.call [] [] (.tup [eS v64.1,bl v64.2]) [])] (ocons (Tspec_Put (Y:=Y) n a0.1.2.2.2.2.2.2.1 a0.1.2.2.2.2.1 t4 _ y64) onil) (Tspec_Mix_4 n t1 (!v64.2) a0 v64.1.inn v64.1.pl.A v64.1.pl.B v64.1.pl.C v64.1.pl.D v64.1.kids r h) 
   rcases frk_eq h with ⟨hc,hk62⟩ | h
   ·subst hc
    replace h:=hk62
    obtain⟨v65,y65,h⟩:=bm h
    exact x_to 17 [(3,.call [] [] (.tup [eS v65.1,bl v65.2]) [])] (ocons (Tspec_Put (Y:=Y) n a0.1.2.2.2.2.2.2.1 a0.1.2.2.2.2.2.1 t4 _ y65) onil) (Tspec_Mix_4 n t1 (!v65.2) a0 v65.1.inn v65.1.pl.A v65.1.pl.B v65.1.pl.C v65.1.pl.D v65.1.kids r h) 
   rcases frk_eq h with ⟨hc,hk63⟩ | h
   ·subst hc
    replace h:=hk63
    obtain⟨v66,y66,h⟩:=bm h
    exact x_to 17 [(3,.call [] [] (.tup [eS v66.1,bl v66.2]) [])] (ocons (Tspec_Put (Y:=Y) n a0.1.2.2.2.2.2.2.1 a0.1.2.2.2.2.2.2.1 t4 _ y66) onil) (Tspec_Mix_4 n t1 (!v66.2) a0 v66.1.inn v66.1.pl.A v66.1.pl.B v66.1.pl.C v66.1.pl.D v66.1.kids r h) 
   rcases frk_eq h with ⟨hc,hk64⟩ | h
   ·subst hc
    replace h:=hk64
    obtain⟨v67,y67,h⟩:=bm h
    exact x_to 17 [(3,.call [] [] (.tup [eS v67.1,bl v67.2]) [])] (ocons (Tspec_Put (Y:=Y) n a0.1.2.2.2.2.2.2.1 a0.1.2.2.2.2.2.2.2 t4 _ y67) onil) (Tspec_Mix_4 n t1 (!v67.2) a0 v67.1.inn v67.1.pl.A v67.1.pl.B v67.1.pl.C v67.1.pl.D v67.1.kids r h) 
   exact absurd h (by simp)
  rcases frk_eq h with ⟨hc,hk80⟩ | h
  ·subst hc
   replace h:=hk80
   refine x_pt 4 [] onil (by kernel_rfl) ?_
   rcases frk_eq h with ⟨hc,hk65⟩ | h
   ·subst hc
    replace h:=hk65
    obtain⟨v68,y68,h⟩:=bm h
    exact x_to 17 [(3,.call [] [] (.tup [eS v68.1,bl v68.2]) [])] (ocons (Tspec_Put (Y:=Y) n a0.1.2.2.2.2.2.2.2 a0.1.1 t4 _ y68) onil) (Tspec_Mix_4 n t1 (!v68.2) a0 v68.1.inn v68.1.pl.A v68.1.pl.B v68.1.pl.C v68.1.pl.D v68.1.kids r h) 
   rcases frk_eq h with ⟨hc,hk66⟩ | h
   ·subst hc
    replace h:=hk66
    obtain⟨v69,y69,h⟩:=bm h
    exact x_to 17 [(3,.call [] [] (.tup [eS v69.1,bl v69.2]) [])] (ocons (Tspec_Put (Y:=Y) n a0.1.2.2.2.2.2.2.2 a0.1.2.1 t4 _ y69) onil) (Tspec_Mix_4 n t1 (!v69.2) a0 v69.1.inn v69.1.pl.A v69.1.pl.B v69.1.pl.C v69.1.pl.D v69.1.kids r h) 
   rcases frk_eq h with ⟨hc,hk67⟩ | h
   ·subst hc
    replace h:=hk67
    obtain⟨v70,y70,h⟩:=bm h
    exact x_to 17 [(3,.call [] [] (.tup [eS v70.1,bl v70.2]) [])] (ocons (Tspec_Put (Y:=Y) n a0.1.2.2.2.2.2.2.2 a0.1.2.2.1 t4 _ y70) onil) (Tspec_Mix_4 n t1 (!v70.2) a0 v70.1.inn v70.1.pl.A v70.1.pl.B v70.1.pl.C v70.1.pl.D v70.1.kids r h) 
   rcases frk_eq h with ⟨hc,hk68⟩ | h
   ·subst hc
    replace h:=hk68
    obtain⟨v71,y71,h⟩:=bm h
    exact x_to 17 [(3,.call [] [] (.tup [eS v71.1,bl v71.2]) [])] (ocons (Tspec_Put (Y:=Y) n a0.1.2.2.2.2.2.2.2 a0.1.2.2.2.1 t4 _ y71) onil) (Tspec_Mix_4 n t1 (!v71.2) a0 v71.1.inn v71.1.pl.A v71.1.pl.B v71.1.pl.C v71.1.pl.D v71.1.kids r h) 
   rcases frk_eq h with ⟨hc,hk69⟩ | h
   ·subst hc
    replace h:=hk69
    obtain⟨v72,y72,h⟩:=bm h
    exact x_to 17 [(3,.call [] [] (.tup [eS v72.1,bl v72.2]) [])] (ocons (Tspec_Put (Y:=Y) n a0.1.2.2.2.2.2.2.2 a0.1.2.2.2.2.1 t4 _ y72) onil) (Tspec_Mix_4 n t1 (!v72.2) a0 v72.1.inn v72.1.pl.A v72.1.pl.B v72.1.pl.C v72.1.pl.D v72.1.kids r h) 
   rcases frk_eq h with ⟨hc,hk70⟩ | h
   ·subst hc
    replace h:=hk70
    obtain⟨v73,y73,h⟩:=bm h
    exact x_to 17 [(3,.call [] [] (.tup [eS v73.1,bl v73.2]) [])] (ocons (Tspec_Put (Y:=Y) n a0.1.2.2.2.2.2.2.2 a0.1.2.2.2.2.2.1 t4 _ y73) onil) (Tspec_Mix_4 n t1 (!v73.2) a0 v73.1.inn v73.1.pl.A v73.1.pl.B v73.1.pl.C v73.1.pl.D v73.1.kids r h) 
   rcases frk_eq h with ⟨hc,hk71⟩ | h
   ·subst hc
    replace h:=hk71
    obtain⟨v74,y74,h⟩:=bm h
    exact x_to 17 [(3,.call [] [] (.tup [eS v74.1,bl v74.2]) [])] (ocons (Tspec_Put (Y:=Y) n a0.1.2.2.2.2.2.2.2 a0.1.2.2.2.2.2.2.1 t4 _ y74) onil) (Tspec_Mix_4 n t1 (!v74.2) a0 v74.1.inn v74.1.pl.A v74.1.pl.B v74.1.pl.C v74.1.pl.D v74.1.kids r h) 
   rcases frk_eq h with ⟨hc,hk72⟩ | h
   ·subst hc
    replace h:=hk72
    obtain⟨v75,y75,h⟩:=bm h
    exact x_to 17 [(3,.call [] [] (.tup [eS v75.1,bl v75.2]) [])] (ocons (Tspec_Put (Y:=Y) n a0.1.2.2.2.2.2.2.2 a0.1.2.2.2.2.2.2.2 t4 _ y75) onil) (Tspec_Mix_4 n t1 (!v75.2) a0 v75.1.inn v75.1.pl.A v75.1.pl.B v75.1.pl.C v75.1.pl.D v75.1.kids r h) 
   exact absurd h (by simp)
  exact absurd h (by simp)
def Dspec_Mix_1(n:Nat)(t1 t2 t3 t4:Int)(t14:Bool)(a0:Dsk):Option (Dsk×Int) :=
 frk t14 ((Dspec_l20Copy n a0).bind fun v6=>some (v6,1)) (frk (t2==0) (frk (!a0.2.1) (Dspec_Mix_2 n a0) (frk (t3==0) (Dspec_Mix_3 n t1 0 0 t4 (!a0.2.1) a0) (frk (t3==1) (Dspec_Mix_3 n t1 0 1 t4 (!a0.2.2.1) a0) (frk (t3==2) (Dspec_Mix_3 n t1 0 2 t4 (!a0.2.2.2.1) a0) (frk (t3==3) (Dspec_Mix_3 n t1 0 3 t4 (!a0.2.2.2.2.1) a0) (frk (t3==4) (Dspec_Mix_3 n t1 0 4 t4 (!a0.2.2.2.2.2.1) a0) (frk (t3==5) (Dspec_Mix_3 n t1 0 5 t4 (!a0.2.2.2.2.2.2.1) a0) (frk (t3==6) (Dspec_Mix_3 n t1 0 6 t4 (!a0.2.2.2.2.2.2.2.1) a0) (frk (t3==7) (Dspec_Mix_3 n t1 0 7 t4 (!a0.2.2.2.2.2.2.2.2) a0) (none)))))))))) (frk (t2==1) (frk (!a0.2.2.1) (Dspec_Mix_2 n a0) (frk (t3==0) (Dspec_Mix_3 n t1 1 0 t4 (!a0.2.1) a0) (frk (t3==1) (Dspec_Mix_3 n t1 1 1 t4 (!a0.2.2.1) a0) (frk (t3==2) (Dspec_Mix_3 n t1 1 2 t4 (!a0.2.2.2.1) a0) (frk (t3==3) (Dspec_Mix_3 n t1 1 3 t4 (!a0.2.2.2.2.1) a0) (frk (t3==4) (Dspec_Mix_3 n t1 1 4 t4 (!a0.2.2.2.2.2.1) a0) (frk (t3==5) (Dspec_Mix_3 n t1 1 5 t4 (!a0.2.2.2.2.2.2.1) a0) (frk (t3==6) (Dspec_Mix_3 n t1 1 6 t4 (!a0.2.2.2.2.2.2.2.1) a0) (frk (t3==7) (Dspec_Mix_3 n t1 1 7 t4 (!a0.2.2.2.2.2.2.2.2) a0) (none)))))))))) (frk (t2==2) (frk (!a0.2.2.2.1) (Dspec_Mix_2 n a0) (frk (t3==0) (Dspec_Mix_3 n t1 2 0 t4 (!a0.2.1) a0) (frk (t3==1) (Dspec_Mix_3 n t1 2 1 t4 (!a0.2.2.1) a0) (frk (t3==2) (Dspec_Mix_3 n t1 2 2 t4 (!a0.2.2.2.1) a0) (frk (t3==3) (Dspec_Mix_3 n t1 2 3 t4 (!a0.2.2.2.2.1) a0) (frk (t3==4) (Dspec_Mix_3 n t1 2 4 t4 (!a0.2.2.2.2.2.1) a0) (frk (t3==5) (Dspec_Mix_3 n t1 2 5 t4 (!a0.2.2.2.2.2.2.1) a0) (frk (t3==6) (Dspec_Mix_3 n t1 2 6 t4 (!a0.2.2.2.2.2.2.2.1) a0) (frk (t3==7) (Dspec_Mix_3 n t1 2 7 t4 (!a0.2.2.2.2.2.2.2.2) a0) (none)))))))))) (frk (t2==3) (frk (!a0.2.2.2.2.1) (Dspec_Mix_2 n a0) (frk (t3==0) (Dspec_Mix_3 n t1 3 0 t4 (!a0.2.1) a0) (frk (t3==1) (Dspec_Mix_3 n t1 3 1 t4 (!a0.2.2.1) a0) (frk (t3==2) (Dspec_Mix_3 n t1 3 2 t4 (!a0.2.2.2.1) a0) (frk (t3==3) (Dspec_Mix_3 n t1 3 3 t4 (!a0.2.2.2.2.1) a0) (frk (t3==4) (Dspec_Mix_3 n t1 3 4 t4 (!a0.2.2.2.2.2.1) a0) (frk (t3==5) (Dspec_Mix_3 n t1 3 5 t4 (!a0.2.2.2.2.2.2.1) a0) (frk (t3==6) (Dspec_Mix_3 n t1 3 6 t4 (!a0.2.2.2.2.2.2.2.1) a0) (frk (t3==7) (Dspec_Mix_3 n t1 3 7 t4 (!a0.2.2.2.2.2.2.2.2) a0) (none)))))))))) (frk (t2==4) (frk (!a0.2.2.2.2.2.1) (Dspec_Mix_2 n a0) (frk (t3==0) (Dspec_Mix_3 n t1 4 0 t4 (!a0.2.1) a0) (frk (t3==1) (Dspec_Mix_3 n t1 4 1 t4 (!a0.2.2.1) a0) (frk (t3==2) (Dspec_Mix_3 n t1 4 2 t4 (!a0.2.2.2.1) a0) (frk (t3==3) (Dspec_Mix_3 n t1 4 3 t4 (!a0.2.2.2.2.1) a0) (frk (t3==4) (Dspec_Mix_3 n t1 4 4 t4 (!a0.2.2.2.2.2.1) a0) (frk (t3==5) (Dspec_Mix_3 n t1 4 5 t4 (!a0.2.2.2.2.2.2.1) a0) (frk (t3==6) (Dspec_Mix_3 n t1 4 6 t4 (!a0.2.2.2.2.2.2.2.1) a0) (frk (t3==7) (Dspec_Mix_3 n t1 4 7 t4 (!a0.2.2.2.2.2.2.2.2) a0) (none)))))))))) (frk (t2==5) (frk (!a0.2.2.2.2.2.2.1) (Dspec_Mix_2 n a0) (frk (t3==0) (Dspec_Mix_3 n t1 5 0 t4 (!a0.2.1) a0) (frk (t3==1) (Dspec_Mix_3 n t1 5 1 t4 (!a0.2.2.1) a0) (frk (t3==2) (Dspec_Mix_3 n t1 5 2 t4 (!a0.2.2.2.1) a0) (frk (t3==3) (Dspec_Mix_3 n t1 5 3 t4 (!a0.2.2.2.2.1) a0) (frk (t3==4) (Dspec_Mix_3 n t1 5 4 t4 (!a0.2.2.2.2.2.1) a0) (frk (t3==5) (Dspec_Mix_3 n t1 5 5 t4 (!a0.2.2.2.2.2.2.1) a0) (frk (t3==6) (Dspec_Mix_3 n t1 5 6 t4 (!a0.2.2.2.2.2.2.2.1) a0) (frk (t3==7) (Dspec_Mix_3 n t1 5 7 t4 (!a0.2.2.2.2.2.2.2.2) a0) (none)))))))))) (frk (t2==6) (frk (!a0.2.2.2.2.2.2.2.1) (Dspec_Mix_2 n a0) (frk (t3==0) (Dspec_Mix_3 n t1 6 0 t4 (!a0.2.1) a0) (frk (t3==1) (Dspec_Mix_3 n t1 6 1 t4 (!a0.2.2.1) a0) (frk (t3==2) (Dspec_Mix_3 n t1 6 2 t4 (!a0.2.2.2.1) a0) (frk (t3==3) (Dspec_Mix_3 n t1 6 3 t4 (!a0.2.2.2.2.1) a0) (frk (t3==4) (Dspec_Mix_3 n t1 6 4 t4 (!a0.2.2.2.2.2.1) a0) (frk (t3==5) (Dspec_Mix_3 n t1 6 5 t4 (!a0.2.2.2.2.2.2.1) a0) (frk (t3==6) (Dspec_Mix_3 n t1 6 6 t4 (!a0.2.2.2.2.2.2.2.1) a0) (frk (t3==7) (Dspec_Mix_3 n t1 6 7 t4 (!a0.2.2.2.2.2.2.2.2) a0) (none)))))))))) (frk (t2==7) (frk (!a0.2.2.2.2.2.2.2.2) (Dspec_Mix_2 n a0) (frk (t3==0) (Dspec_Mix_3 n t1 7 0 t4 (!a0.2.1) a0) (frk (t3==1) (Dspec_Mix_3 n t1 7 1 t4 (!a0.2.2.1) a0) (frk (t3==2) (Dspec_Mix_3 n t1 7 2 t4 (!a0.2.2.2.1) a0) (frk (t3==3) (Dspec_Mix_3 n t1 7 3 t4 (!a0.2.2.2.2.1) a0) (frk (t3==4) (Dspec_Mix_3 n t1 7 4 t4 (!a0.2.2.2.2.2.1) a0) (frk (t3==5) (Dspec_Mix_3 n t1 7 5 t4 (!a0.2.2.2.2.2.2.1) a0) (frk (t3==6) (Dspec_Mix_3 n t1 7 6 t4 (!a0.2.2.2.2.2.2.2.1) a0) (frk (t3==7) (Dspec_Mix_3 n t1 7 7 t4 (!a0.2.2.2.2.2.2.2.2) a0) (none)))))))))) (none)))))))))
theorem Tspec_Mix_1{Y}(n:Nat)(t1 t2 t3 t4:Int)(t14:Bool)(a0:Dsk)(r:(Dsk×Int))(h:Dspec_Mix_1 n t1 t2 t3 t4 t14 a0=some r):Wk Tryz.prog H Y 10 [.code (cp [1,0,0,1] (bodyOf Tryz.f10)),.blk 0,.code (cp [1,1] (bodyOf Tryz.f10))] (FinX Tryz.prog Tryz.f10 [] (.tup [.agg (cT38o r.1),i64 r.2]) []) ⟨[(1,i64 t1),(2,i64 t2),(3,i64 t3),(4,i64 t4),(5,.ptr 5 0),(10,.ptr 10 0),(14,bl t14)],[(5,⟨true,0,(cT38 a0)⟩),(10,⟨true,0,[bl false,i64 0,i64 0,i64 0,i64 0,.nil,bl false,i64 0,i64 0,i64 0,i64 0,.nil,bl false,i64 0,i64 0,i64 0,i64 0,.nil,bl false,i64 0,i64 0,i64 0,i64 0,.nil,bl false,i64 0,i64 0,i64 0,i64 0,.nil,bl false,i64 0,i64 0,i64 0,i64 0,.nil,bl false,i64 0,i64 0,i64 0,i64 0,.nil,bl false,i64 0,i64 0,i64 0,i64 0,.nil,bl false,bl false,bl false,bl false,bl false,bl false,bl false,bl false]⟩)]⟩:=by
 unfold Dspec_Mix_1 at h
 refine x_frk 0 [] onil h (by kernel_rfl) (fun h=>?_) (fun h=>?_)
 ·obtain⟨v6,y6,h⟩:=bm h
  replace h:=sj h;subst h
  exact x_end 7 [(1,.call [] [] (.agg (cT38o v6)) [])] [] (ocons (Tspec_l20Copy (Y:=Y) n a0 _ y6) onil) onil 
 ·refine x_pt 4 [] onil (by kernel_rfl) ?_
  rcases frk_eq h with ⟨hc,hk145⟩ | h
  ·subst hc
   replace h:=hk145
   refine x_frk 4 [] onil h (by kernel_rfl) (fun h=>?_) (fun h=>?_)
   ·exact x_to 10 [] onil (Tspec_Mix_2 n a0 r h) 
   ·refine x_pt 2 [] onil (by kernel_rfl) ?_
    rcases frk_eq h with ⟨hc,hk81⟩ | h
    ·subst hc
     replace h:=hk81
     exact x_to 6 [] onil (Tspec_Mix_3 n t1 0 0 t4 (!a0.2.1) a0 r h) 
    rcases frk_eq h with ⟨hc,hk82⟩ | h
    ·subst hc
     replace h:=hk82
     exact x_to 6 [] onil (Tspec_Mix_3 n t1 0 1 t4 (!a0.2.2.1) a0 r h) 
    rcases frk_eq h with ⟨hc,hk83⟩ | h
    ·subst hc
     replace h:=hk83
     exact x_to 6 [] onil (Tspec_Mix_3 n t1 0 2 t4 (!a0.2.2.2.1) a0 r h) 
    rcases frk_eq h with ⟨hc,hk84⟩ | h
    ·subst hc
     replace h:=hk84
     exact x_to 6 [] onil (Tspec_Mix_3 n t1 0 3 t4 (!a0.2.2.2.2.1) a0 r h) 
    rcases frk_eq h with ⟨hc,hk85⟩ | h
    ·subst hc
     replace h:=hk85
     exact x_to 6 [] onil (Tspec_Mix_3 n t1 0 4 t4 (!a0.2.2.2.2.2.1) a0 r h) 
    rcases frk_eq h with ⟨hc,hk86⟩ | h
    ·subst hc
     replace h:=hk86
     exact x_to 6 [] onil (Tspec_Mix_3 n t1 0 5 t4 (!a0.2.2.2.2.2.2.1) a0 r h) 
    rcases frk_eq h with ⟨hc,hk87⟩ | h
    ·subst hc
     replace h:=hk87
     exact x_to 6 [] onil (Tspec_Mix_3 n t1 0 6 t4 (!a0.2.2.2.2.2.2.2.1) a0 r h) 
    rcases frk_eq h with ⟨hc,hk88⟩ | h
    ·subst hc
     replace h:=hk88
     exact x_to 6 [] onil (Tspec_Mix_3 n t1 0 7 t4 (!a0.2.2.2.2.2.2.2.2) a0 r h) 
    exact absurd h (by simp)
  rcases frk_eq h with ⟨hc,hk146⟩ | h
  ·subst hc
   replace h:=hk146
   refine x_frk 4 [] onil h (by kernel_rfl) (fun h=>?_) (fun h=>?_)
   ·exact x_to 10 [] onil (Tspec_Mix_2 n a0 r h) 
   ·refine x_pt 2 [] onil (by kernel_rfl) ?_
    rcases frk_eq h with ⟨hc,hk89⟩ | h
    ·subst hc
     replace h:=hk89
     exact x_to 6 [] onil (Tspec_Mix_3 n t1 1 0 t4 (!a0.2.1) a0 r h) 
    rcases frk_eq h with ⟨hc,hk90⟩ | h
    ·subst hc
     replace h:=hk90
     exact x_to 6 [] onil (Tspec_Mix_3 n t1 1 1 t4 (!a0.2.2.1) a0 r h) 
    rcases frk_eq h with ⟨hc,hk91⟩ | h
    ·subst hc
     replace h:=hk91
     exact x_to 6 [] onil (Tspec_Mix_3 n t1 1 2 t4 (!a0.2.2.2.1) a0 r h) 
    rcases frk_eq h with ⟨hc,hk92⟩ | h
    ·subst hc
     replace h:=hk92
     exact x_to 6 [] onil (Tspec_Mix_3 n t1 1 3 t4 (!a0.2.2.2.2.1) a0 r h) 
    rcases frk_eq h with ⟨hc,hk93⟩ | h
    ·subst hc
     replace h:=hk93
     exact x_to 6 [] onil (Tspec_Mix_3 n t1 1 4 t4 (!a0.2.2.2.2.2.1) a0 r h) 
    rcases frk_eq h with ⟨hc,hk94⟩ | h
    ·subst hc
     replace h:=hk94
     exact x_to 6 [] onil (Tspec_Mix_3 n t1 1 5 t4 (!a0.2.2.2.2.2.2.1) a0 r h) 
    rcases frk_eq h with ⟨hc,hk95⟩ | h
    ·subst hc
     replace h:=hk95
     exact x_to 6 [] onil (Tspec_Mix_3 n t1 1 6 t4 (!a0.2.2.2.2.2.2.2.1) a0 r h) 
    rcases frk_eq h with ⟨hc,hk96⟩ | h
    ·subst hc
     replace h:=hk96
     exact x_to 6 [] onil (Tspec_Mix_3 n t1 1 7 t4 (!a0.2.2.2.2.2.2.2.2) a0 r h) 
    exact absurd h (by simp)
  rcases frk_eq h with ⟨hc,hk147⟩ | h
  ·subst hc
   replace h:=hk147
   refine x_frk 4 [] onil h (by kernel_rfl) (fun h=>?_) (fun h=>?_)
   ·exact x_to 10 [] onil (Tspec_Mix_2 n a0 r h) 
   ·refine x_pt 2 [] onil (by kernel_rfl) ?_
    rcases frk_eq h with ⟨hc,hk97⟩ | h
    ·subst hc
     replace h:=hk97
     exact x_to 6 [] onil (Tspec_Mix_3 n t1 2 0 t4 (!a0.2.1) a0 r h) 
    rcases frk_eq h with ⟨hc,hk98⟩ | h
    ·subst hc
     replace h:=hk98
     exact x_to 6 [] onil (Tspec_Mix_3 n t1 2 1 t4 (!a0.2.2.1) a0 r h) 
    rcases frk_eq h with ⟨hc,hk99⟩ | h
    ·subst hc
     replace h:=hk99
     exact x_to 6 [] onil (Tspec_Mix_3 n t1 2 2 t4 (!a0.2.2.2.1) a0 r h) 
    rcases frk_eq h with ⟨hc,hk100⟩ | h
    ·subst hc
     replace h:=hk100
     exact x_to 6 [] onil (Tspec_Mix_3 n t1 2 3 t4 (!a0.2.2.2.2.1) a0 r h) 
    rcases frk_eq h with ⟨hc,hk101⟩ | h
    ·subst hc
     replace h:=hk101
     exact x_to 6 [] onil (Tspec_Mix_3 n t1 2 4 t4 (!a0.2.2.2.2.2.1) a0 r h) 
    rcases frk_eq h with ⟨hc,hk102⟩ | h
    ·subst hc
     replace h:=hk102
     exact x_to 6 [] onil (Tspec_Mix_3 n t1 2 5 t4 (!a0.2.2.2.2.2.2.1) a0 r h) 
    rcases frk_eq h with ⟨hc,hk103⟩ | h
    ·subst hc
     replace h:=hk103
     exact x_to 6 [] onil (Tspec_Mix_3 n t1 2 6 t4 (!a0.2.2.2.2.2.2.2.1) a0 r h) 
    rcases frk_eq h with ⟨hc,hk104⟩ | h
    ·subst hc
     replace h:=hk104
     exact x_to 6 [] onil (Tspec_Mix_3 n t1 2 7 t4 (!a0.2.2.2.2.2.2.2.2) a0 r h) 
    exact absurd h (by simp)
  rcases frk_eq h with ⟨hc,hk148⟩ | h
  ·subst hc
   replace h:=hk148
   refine x_frk 4 [] onil h (by kernel_rfl) (fun h=>?_) (fun h=>?_)
   ·exact x_to 10 [] onil (Tspec_Mix_2 n a0 r h) 
   ·refine x_pt 2 [] onil (by kernel_rfl) ?_
    rcases frk_eq h with ⟨hc,hk105⟩ | h
    ·subst hc
     replace h:=hk105
     exact x_to 6 [] onil (Tspec_Mix_3 n t1 3 0 t4 (!a0.2.1) a0 r h) 
    rcases frk_eq h with ⟨hc,hk106⟩ | h
    ·subst hc
     replace h:=hk106
     exact x_to 6 [] onil (Tspec_Mix_3 n t1 3 1 t4 (!a0.2.2.1) a0 r h) 
    rcases frk_eq h with ⟨hc,hk107⟩ | h
    ·subst hc
     replace h:=hk107
     exact x_to 6 [] onil (Tspec_Mix_3 n t1 3 2 t4 (!a0.2.2.2.1) a0 r h) 
    rcases frk_eq h with ⟨hc,hk108⟩ | h
    ·subst hc
     replace h:=hk108
     exact x_to 6 [] onil (Tspec_Mix_3 n t1 3 3 t4 (!a0.2.2.2.2.1) a0 r h) 
    rcases frk_eq h with ⟨hc,hk109⟩ | h
    ·subst hc
     replace h:=hk109
     exact x_to 6 [] onil (Tspec_Mix_3 n t1 3 4 t4 (!a0.2.2.2.2.2.1) a0 r h) 
    rcases frk_eq h with ⟨hc,hk110⟩ | h
    ·subst hc
     replace h:=hk110
     exact x_to 6 [] onil (Tspec_Mix_3 n t1 3 5 t4 (!a0.2.2.2.2.2.2.1) a0 r h) 
    rcases frk_eq h with ⟨hc,hk111⟩ | h
    ·subst hc
     replace h:=hk111
     exact x_to 6 [] onil (Tspec_Mix_3 n t1 3 6 t4 (!a0.2.2.2.2.2.2.2.1) a0 r h) 
    rcases frk_eq h with ⟨hc,hk112⟩ | h
    ·subst hc
     replace h:=hk112
     exact x_to 6 [] onil (Tspec_Mix_3 n t1 3 7 t4 (!a0.2.2.2.2.2.2.2.2) a0 r h) 
    exact absurd h (by simp)
  rcases frk_eq h with ⟨hc,hk149⟩ | h
  ·subst hc
   replace h:=hk149
   refine x_frk 4 [] onil h (by kernel_rfl) (fun h=>?_) (fun h=>?_)
   ·exact x_to 10 [] onil (Tspec_Mix_2 n a0 r h) 
   ·refine x_pt 2 [] onil (by kernel_rfl) ?_
    rcases frk_eq h with ⟨hc,hk113⟩ | h
    ·subst hc
     replace h:=hk113
     exact x_to 6 [] onil (Tspec_Mix_3 n t1 4 0 t4 (!a0.2.1) a0 r h) 
    rcases frk_eq h with ⟨hc,hk114⟩ | h
    ·subst hc
     replace h:=hk114
     exact x_to 6 [] onil (Tspec_Mix_3 n t1 4 1 t4 (!a0.2.2.1) a0 r h) 
    rcases frk_eq h with ⟨hc,hk115⟩ | h
    ·subst hc
     replace h:=hk115
     exact x_to 6 [] onil (Tspec_Mix_3 n t1 4 2 t4 (!a0.2.2.2.1) a0 r h) 
    rcases frk_eq h with ⟨hc,hk116⟩ | h
    ·subst hc
     replace h:=hk116
     exact x_to 6 [] onil (Tspec_Mix_3 n t1 4 3 t4 (!a0.2.2.2.2.1) a0 r h) 
    rcases frk_eq h with ⟨hc,hk117⟩ | h
    ·subst hc
     replace h:=hk117
     exact x_to 6 [] onil (Tspec_Mix_3 n t1 4 4 t4 (!a0.2.2.2.2.2.1) a0 r h) 
    rcases frk_eq h with ⟨hc,hk118⟩ | h
    ·subst hc
     replace h:=hk118
     exact x_to 6 [] onil (Tspec_Mix_3 n t1 4 5 t4 (!a0.2.2.2.2.2.2.1) a0 r h) 
    rcases frk_eq h with ⟨hc,hk119⟩ | h
    ·subst hc
     replace h:=hk119
     exact x_to 6 [] onil (Tspec_Mix_3 n t1 4 6 t4 (!a0.2.2.2.2.2.2.2.1) a0 r h) 
    rcases frk_eq h with ⟨hc,hk120⟩ | h
    ·subst hc
     replace h:=hk120
     exact x_to 6 [] onil (Tspec_Mix_3 n t1 4 7 t4 (!a0.2.2.2.2.2.2.2.2) a0 r h) 
    exact absurd h (by simp)
  rcases frk_eq h with ⟨hc,hk150⟩ | h
  ·subst hc
   replace h:=hk150
   refine x_frk 4 [] onil h (by kernel_rfl) (fun h=>?_) (fun h=>?_)
   ·exact x_to 10 [] onil (Tspec_Mix_2 n a0 r h) 
   ·refine x_pt 2 [] onil (by kernel_rfl) ?_
    rcases frk_eq h with ⟨hc,hk121⟩ | h
    ·subst hc
     replace h:=hk121
     exact x_to 6 [] onil (Tspec_Mix_3 n t1 5 0 t4 (!a0.2.1) a0 r h) 
    rcases frk_eq h with ⟨hc,hk122⟩ | h
    ·subst hc
     replace h:=hk122
     exact x_to 6 [] onil (Tspec_Mix_3 n t1 5 1 t4 (!a0.2.2.1) a0 r h) 
    rcases frk_eq h with ⟨hc,hk123⟩ | h
    ·subst hc
     replace h:=hk123
     exact x_to 6 [] onil (Tspec_Mix_3 n t1 5 2 t4 (!a0.2.2.2.1) a0 r h) 
    rcases frk_eq h with ⟨hc,hk124⟩ | h
    ·subst hc
     replace h:=hk124
     exact x_to 6 [] onil (Tspec_Mix_3 n t1 5 3 t4 (!a0.2.2.2.2.1) a0 r h) 
    rcases frk_eq h with ⟨hc,hk125⟩ | h
    ·subst hc
     replace h:=hk125
     exact x_to 6 [] onil (Tspec_Mix_3 n t1 5 4 t4 (!a0.2.2.2.2.2.1) a0 r h) 
    rcases frk_eq h with ⟨hc,hk126⟩ | h
    ·subst hc
     replace h:=hk126
     exact x_to 6 [] onil (Tspec_Mix_3 n t1 5 5 t4 (!a0.2.2.2.2.2.2.1) a0 r h) 
    rcases frk_eq h with ⟨hc,hk127⟩ | h
    ·subst hc
     replace h:=hk127
     exact x_to 6 [] onil (Tspec_Mix_3 n t1 5 6 t4 (!a0.2.2.2.2.2.2.2.1) a0 r h) 
    rcases frk_eq h with ⟨hc,hk128⟩ | h
    ·subst hc
     replace h:=hk128
     exact x_to 6 [] onil (Tspec_Mix_3 n t1 5 7 t4 (!a0.2.2.2.2.2.2.2.2) a0 r h) 
    exact absurd h (by simp)
  rcases frk_eq h with ⟨hc,hk151⟩ | h
  ·subst hc
   replace h:=hk151
   refine x_frk 4 [] onil h (by kernel_rfl) (fun h=>?_) (fun h=>?_)
   ·exact x_to 10 [] onil (Tspec_Mix_2 n a0 r h) 
   ·refine x_pt 2 [] onil (by kernel_rfl) ?_
    rcases frk_eq h with ⟨hc,hk129⟩ | h
    ·subst hc
     replace h:=hk129
     exact x_to 6 [] onil (Tspec_Mix_3 n t1 6 0 t4 (!a0.2.1) a0 r h) 
    rcases frk_eq h with ⟨hc,hk130⟩ | h
    ·subst hc
     replace h:=hk130
     exact x_to 6 [] onil (Tspec_Mix_3 n t1 6 1 t4 (!a0.2.2.1) a0 r h) 
    rcases frk_eq h with ⟨hc,hk131⟩ | h
    ·subst hc
     replace h:=hk131
     exact x_to 6 [] onil (Tspec_Mix_3 n t1 6 2 t4 (!a0.2.2.2.1) a0 r h) 
    rcases frk_eq h with ⟨hc,hk132⟩ | h
    ·subst hc
     replace h:=hk132
     exact x_to 6 [] onil (Tspec_Mix_3 n t1 6 3 t4 (!a0.2.2.2.2.1) a0 r h) 
    rcases frk_eq h with ⟨hc,hk133⟩ | h
    ·subst hc
     replace h:=hk133
     exact x_to 6 [] onil (Tspec_Mix_3 n t1 6 4 t4 (!a0.2.2.2.2.2.1) a0 r h) 
    rcases frk_eq h with ⟨hc,hk134⟩ | h
    ·subst hc
     replace h:=hk134
     exact x_to 6 [] onil (Tspec_Mix_3 n t1 6 5 t4 (!a0.2.2.2.2.2.2.1) a0 r h) 
    rcases frk_eq h with ⟨hc,hk135⟩ | h
    ·subst hc
     replace h:=hk135
     exact x_to 6 [] onil (Tspec_Mix_3 n t1 6 6 t4 (!a0.2.2.2.2.2.2.2.1) a0 r h) 
    rcases frk_eq h with ⟨hc,hk136⟩ | h
    ·subst hc
     replace h:=hk136
     exact x_to 6 [] onil (Tspec_Mix_3 n t1 6 7 t4 (!a0.2.2.2.2.2.2.2.2) a0 r h) 
    exact absurd h (by simp)
  rcases frk_eq h with ⟨hc,hk152⟩ | h
  ·subst hc
   replace h:=hk152
   refine x_frk 4 [] onil h (by kernel_rfl) (fun h=>?_) (fun h=>?_)
   ·exact x_to 10 [] onil (Tspec_Mix_2 n a0 r h) 
   ·refine x_pt 2 [] onil (by kernel_rfl) ?_
    rcases frk_eq h with ⟨hc,hk137⟩ | h
    ·subst hc
     replace h:=hk137
     exact x_to 6 [] onil (Tspec_Mix_3 n t1 7 0 t4 (!a0.2.1) a0 r h) 
    rcases frk_eq h with ⟨hc,hk138⟩ | h
    ·subst hc
     replace h:=hk138
     exact x_to 6 [] onil (Tspec_Mix_3 n t1 7 1 t4 (!a0.2.2.1) a0 r h) 
    rcases frk_eq h with ⟨hc,hk139⟩ | h
    ·subst hc
     replace h:=hk139
     exact x_to 6 [] onil (Tspec_Mix_3 n t1 7 2 t4 (!a0.2.2.2.1) a0 r h) 
    rcases frk_eq h with ⟨hc,hk140⟩ | h
    ·subst hc
     replace h:=hk140
     exact x_to 6 [] onil (Tspec_Mix_3 n t1 7 3 t4 (!a0.2.2.2.2.1) a0 r h) 
    rcases frk_eq h with ⟨hc,hk141⟩ | h
    ·subst hc
     replace h:=hk141
     exact x_to 6 [] onil (Tspec_Mix_3 n t1 7 4 t4 (!a0.2.2.2.2.2.1) a0 r h) 
    rcases frk_eq h with ⟨hc,hk142⟩ | h
    ·subst hc
     replace h:=hk142
     exact x_to 6 [] onil (Tspec_Mix_3 n t1 7 5 t4 (!a0.2.2.2.2.2.2.1) a0 r h) 
    rcases frk_eq h with ⟨hc,hk143⟩ | h
    ·subst hc
     replace h:=hk143
     exact x_to 6 [] onil (Tspec_Mix_3 n t1 7 6 t4 (!a0.2.2.2.2.2.2.2.1) a0 r h) 
    rcases frk_eq h with ⟨hc,hk144⟩ | h
    ·subst hc
     replace h:=hk144
     exact x_to 6 [] onil (Tspec_Mix_3 n t1 7 7 t4 (!a0.2.2.2.2.2.2.2.2) a0 r h) 
    exact absurd h (by simp)
  exact absurd h (by simp)
def Dspec_Mix(n:Nat)(a0:Dsk)(a1 a2 a3 a4:Int):Option (Dsk×Int) :=
 (Dspec_DeskOk n a0).bind fun v0=>frk (!v0) (Dspec_Mix_0 n a0) ((Dspec_l20At a1).bind fun v2=>frk (!v2) (Dspec_Mix_0 n a0) ((Dspec_l20At a2).bind fun v3=>frk (!v3) (Dspec_Mix_0 n a0) ((Dspec_l20At a3).bind fun v4=>frk (!v4) (Dspec_Mix_0 n a0) ((Dspec_l1In a4 1 4).bind fun v5=>Dspec_Mix_1 n a1 a2 a3 a4 (!v5) a0))))
theorem Tspec_Mix{Y}(n:Nat)(a0:Dsk)(a1 a2 a3 a4:Int)(r:(Dsk×Int))(h:Dspec_Mix n a0 a1 a2 a3 a4=some r):Big Tryz.prog H Y (.call 10 [.agg (cT38 a0),i64 a1,i64 a2,i64 a3,i64 a4] (lk []) (.tup [.agg (cT38o r.1),i64 r.2]) (lk [])):=by
 unfold Dspec_Mix at h
 refine x_call (fn:=Tryz.f10) (c:=bodyOf Tryz.f10) (bs0:=[]) Tryz.func10 (by kernel_rfl) (by kernel_rfl) ?_
 obtain⟨v0,y0,h⟩:=bm h
 refine x_frk 14 [(4,.call [] [] (bl v0) [])] (ocons (Tspec_DeskOk (Y:=Y) n a0 _ y0) onil) h (by kernel_rfl) (fun h=>?_) (fun h=>?_)
 ·exact x_to 23 [] onil (Tspec_Mix_0 n a0 r h) 
 ·obtain⟨v2,y2,h⟩:=bm h
  refine x_frk 5 [(1,.call [] [] (bl v2) [])] (ocons (Tspec_l20At (Y:=Y) a1 _ y2) onil) h (by kernel_rfl) (fun h=>?_) (fun h=>?_)
  ·exact x_to 18 [] onil (Tspec_Mix_0 n a0 r h) 
  ·obtain⟨v3,y3,h⟩:=bm h
   refine x_frk 5 [(1,.call [] [] (bl v3) [])] (ocons (Tspec_l20At (Y:=Y) a2 _ y3) onil) h (by kernel_rfl) (fun h=>?_) (fun h=>?_)
   ·exact x_to 13 [] onil (Tspec_Mix_0 n a0 r h) 
   ·obtain⟨v4,y4,h⟩:=bm h
    refine x_frk 5 [(1,.call [] [] (bl v4) [])] (ocons (Tspec_l20At (Y:=Y) a3 _ y4) onil) h (by kernel_rfl) (fun h=>?_) (fun h=>?_)
    ·exact x_to 8 [] onil (Tspec_Mix_0 n a0 r h) 
    ·obtain⟨v5,y5,h⟩:=bm h
     exact x_to 6 [(1,.call [] [] (bl v5) [])] (ocons (Tspec_l1In (Y:=Y) a4 1 4 _ y5) onil) (Tspec_Mix_1 n a1 a2 a3 a4 (!v5) a0 r h) 
def Dimpl_inRange(a0 a1 a2:Int):Option Bool :=
 frk (decide (a0≥a1)) (some (decide (a0≤a2))) (some false)
theorem Timpl_inRange{Y}(a0 a1 a2:Int)(r:Bool)(h:Dimpl_inRange a0 a1 a2=some r):Big Tryz.prog H Y (.call 123 [i64 a0,i64 a1,i64 a2] (lk []) (bl r) (lk [])):=by
 unfold Dimpl_inRange at h
 refine x_call (fn:=Tryz.f123) (c:=bodyOf Tryz.f123) (bs0:=[]) Tryz.func123 (by kernel_rfl) (by kernel_rfl) ?_
 refine x_frk 10 [] onil h (by kernel_rfl) (fun h=>?_) (fun h=>?_)
 ·replace h:=sj h;subst h
  exact x_end 6 [] [] onil onil 
 ·replace h:=sj h;subst h
  exact x_end 6 [] [] onil onil 
def Dimpl_isPlace(a0:Int):Option Bool :=
 (Dimpl_inRange a0 0 7).bind fun v0=>some v0
theorem Timpl_isPlace{Y}(a0:Int)(r:Bool)(h:Dimpl_isPlace a0=some r):Big Tryz.prog H Y (.call 59 [i64 a0] (lk []) (bl r) (lk [])):=by
 unfold Dimpl_isPlace at h
 refine x_call (fn:=Tryz.f59) (c:=bodyOf Tryz.f59) (bs0:=[]) Tryz.func59 (by kernel_rfl) (by kernel_rfl) ?_
 obtain⟨v0,y0,h⟩:=bm h
 replace h:=sj h;subst h
 exact x_end 10 [(2,.call [] [] (bl v0) [])] [] (ocons (Timpl_inRange (Y:=Y) a0 0 7 _ y0) onil) onil 
def Dimpl_copySolid_0(_n:Nat)(self:Sol→Option Sol)(t12:List Sol)(t13:Int)(_za:Bool)(_zb _zc _zd _ze:Int)(zg:Bool)(zh zi zj zah:Int)(rec0:(Int×List Sol)→Option Sol)(a:(Int×List Sol)):Option Sol :=
 match a with
 | (t14,l635)=>frk (decide (t14<t13)) ((lget t12 t14).bind fun v0=>(self v0).bind fun v1=>chk (apB 64 (l635.length+1)) (rec0 (w64 (t14+1),(l635++[v1])))) (some (Sol.mk zg (Pl.mk zh zi zj zah) l635))
theorem Timpl_copySolid_0{Y}(n:Nat)(self:Sol→Option Sol)(hself:∀(a:Sol) (r:Sol),self a=some r→Big Tryz.prog H Y (.call 124 [eF a] (lk []) (eS r) (lk [])))(t12:List Sol)(t13:Int)(za:Bool)(zb zc zd ze:Int)(zg:Bool)(zh zi zj zah:Int):∀(m:Nat) (a:(Int×List Sol)) (r:Sol),loopN (Dimpl_copySolid_0 n self t12 t13 za zb zc zd ze zg zh zi zj zah) m a=some r→Wk Tryz.prog H Y 124 [.code (cp [1,1,0,1,0] (bodyOf Tryz.f124)),.blk 0,.code (cp [1,1,1] (bodyOf Tryz.f124))] (FinX Tryz.prog Tryz.f124 [] (eS r) []) ⟨[(2,.ptr 2 0),(3,.ptr 3 0),(12,.sl false 6 t12.length ((eSol false).f t12)),(13,i64 t13),(14,i64 a.1)],[(2,⟨true,0,[bl za,i64 zb,i64 zc,i64 zd,i64 ze,.nil]⟩),(3,⟨true,0,[bl zg,i64 zh,i64 zi,i64 zj,i64 zah,.msl 635 a.2.length]⟩),(635,⟨true,6,(eSol true).f a.2⟩)]⟩:=by
 refine loopN_ind (fun _rec0 hrec0 a r h=>?_)
 obtain⟨t14,l635⟩:=a
 unfold Dimpl_copySolid_0 at h
 refine x_frk 6 [] onil h (by kernel_rfl) (fun h=>?_) (fun h=>?_)
 ·obtain⟨v0,y0,h⟩:=bm h
  obtain⟨v1,y1,h⟩:=bm h
  obtain⟨c2,h⟩:=chk_some h
  exact x_to 28 [(0,.val (.cptr ((eSol false).c v0++(eSol false).f ((t12).drop (Int.toNat t14+1))))),(6,.call [] [] (eS v1) []),(1,.fixb 22 ⟨true,6,(eSol true).f [v1]⟩),(0,.app true (List.length (l635++[v1])) ((eSol true).f (l635++[v1]))),(4,.ren 23 635)] (ocons (ix (eSol false) y0) (ocons (hself v0 _ y1) (ocons (boxSol true true [v1]) (ocons (len_row' (L:=l635) (eSol true)) (ocons (app_one (L:=l635) (M:=[v1]) (eSol true) c2) (ocons (app_new (L:=l635) (M:=[v1]) (eSol true)) (ocons (app_m (L:=l635) (M:=[v1]) (eSol true) rfl) (ocons (len_row' (L:=[v1]) (eSol true)) (ocons (show 23<1000∧635<1000 by decide) onil))))))))) (hrec0 (w64 (t14+1),(l635++[v1])) r h) 
 ·replace h:=sj h;subst h
  exact x_end 6 [] [] onil (ocons (len_row (L:=l635) (eSol true)) onil) 
def Dimpl_copySolid_b(n:Nat)(self:Sol→Option Sol)(a:Sol):Option Sol :=
 match a with
 | a0=>loopN (Dimpl_copySolid_0 n self a0.kids (a0.kids.length:Int) false 0 0 0 0 a0.inn a0.pl.A a0.pl.B a0.pl.C a0.pl.D) n (0,[])
def Dimpl_copySolid(n:Nat)(a0:Sol):Option Sol:=loopN (Dimpl_copySolid_b n) n a0
theorem Timpl_copySolid_b{Y}(n:Nat):∀(m:Nat) (a:Sol) (r:Sol),loopN (Dimpl_copySolid_b n) m a=some r→∀(_:Unit),Big Tryz.prog H Y (.call 124 [eF a] (lk []) (eS r) (lk [])):=by
 refine loopN_ind (fun self hs a r h=>?_)
 have hself:∀(a:Sol) (r:Sol),self a=some r→Big Tryz.prog H Y (.call 124 [eF a] (lk []) (eS r) (lk [])):=fun a r h=>hs a r h ()
 intro _
 obtain⟨a0,rfl⟩:∃x,x=a:=⟨a,rfl⟩
 unfold Dimpl_copySolid_b at h
 refine x_call (fn:=Tryz.f124) (c:=bodyOf Tryz.f124) (bs0:=[]) Tryz.func124 (by kernel_rfl) (by kernel_rfl) ?_
 exact x_to 25 [(9,.virtc 3 ⟨true,0,[bl a0.inn,i64 a0.pl.A,i64 a0.pl.B,i64 a0.pl.C,i64 a0.pl.D,.nil]⟩ 5 635 6)] (ocons (rflB ⟨true,0,[bl a0.inn,i64 a0.pl.A,i64 a0.pl.B,i64 a0.pl.C,i64 a0.pl.D,.nil]⟩) (ocons (⟨rfl,rfl,by decide,by decide,by decide⟩:(⟨true,0,[bl a0.inn,i64 a0.pl.A,i64 a0.pl.B,i64 a0.pl.C,i64 a0.pl.D,.nil]⟩:Box).cs[5]?=some .nil∧(⟨true,0,[bl a0.inn,i64 a0.pl.A,i64 a0.pl.B,i64 a0.pl.C,i64 a0.pl.D,.nil]⟩:Box).sz=0∧3≠635∧635<1000∧6≠0) onil)) (Timpl_copySolid_0 n self hself a0.kids (a0.kids.length:Int) false 0 0 0 0 a0.inn a0.pl.A a0.pl.B a0.pl.C a0.pl.D n (0,[]) r h) 
theorem Timpl_copySolid{Y}(n:Nat)(a0:Sol)(r:Sol)(h:Dimpl_copySolid n a0=some r):Big Tryz.prog H Y (.call 124 [eF a0] (lk []) (eS r) (lk [])):=Timpl_copySolid_b n n a0 r h ()
def Dimpl_copyDesk(n:Nat)(a0:Dsk):Option Dsk :=
 (Dimpl_copySolid n a0.1.1).bind fun v0=>(Dimpl_copySolid n a0.1.2.1).bind fun v1=>(Dimpl_copySolid n a0.1.2.2.1).bind fun v2=>(Dimpl_copySolid n a0.1.2.2.2.1).bind fun v3=>(Dimpl_copySolid n a0.1.2.2.2.2.1).bind fun v4=>(Dimpl_copySolid n a0.1.2.2.2.2.2.1).bind fun v5=>(Dimpl_copySolid n a0.1.2.2.2.2.2.2.1).bind fun v6=>(Dimpl_copySolid n a0.1.2.2.2.2.2.2.2).bind fun v7=>some ((v0,v1,v2,v3,v4,v5,v6,v7),a0.2)
theorem Timpl_copyDesk{Y}(n:Nat)(a0:Dsk)(r:Dsk)(h:Dimpl_copyDesk n a0=some r):Big Tryz.prog H Y (.call 61 [.agg (cT38 a0)] (lk []) (.agg (cT38o r)) (lk [])):=by
 unfold Dimpl_copyDesk at h
 refine x_call (fn:=Tryz.f61) (c:=bodyOf Tryz.f61) (bs0:=[]) Tryz.func61 (by kernel_rfl) (by kernel_rfl) ?_
 obtain⟨v0,y0,h⟩:=bm h
 obtain⟨v1,y1,h⟩:=bm h
 obtain⟨v2,y2,h⟩:=bm h
 obtain⟨v3,y3,h⟩:=bm h
 obtain⟨v4,y4,h⟩:=bm h
 obtain⟨v5,y5,h⟩:=bm h
 obtain⟨v6,y6,h⟩:=bm h
 obtain⟨v7,y7,h⟩:=bm h
 replace h:=sj h;subst h
 exact x_end 282 [(13,.call [] [] (eS v0) []),(13,.call [] [] (eS v1) []),(13,.call [] [] (eS v2) []),(13,.call [] [] (eS v3) []),(13,.call [] [] (eS v4) []),(13,.call [] [] (eS v5) []),(13,.call [] [] (eS v6) []),(13,.call [] [] (eS v7) [])] [] (ocons (Timpl_copySolid (Y:=Y) n a0.1.1 _ y0) (ocons (Timpl_copySolid (Y:=Y) n a0.1.2.1 _ y1) (ocons (Timpl_copySolid (Y:=Y) n a0.1.2.2.1 _ y2) (ocons (Timpl_copySolid (Y:=Y) n a0.1.2.2.2.1 _ y3) (ocons (Timpl_copySolid (Y:=Y) n a0.1.2.2.2.2.1 _ y4) (ocons (Timpl_copySolid (Y:=Y) n a0.1.2.2.2.2.2.1 _ y5) (ocons (Timpl_copySolid (Y:=Y) n a0.1.2.2.2.2.2.2.1 _ y6) (ocons (Timpl_copySolid (Y:=Y) n a0.1.2.2.2.2.2.2.2 _ y7) onil)))))))) onil 
def Dimpl_isOp(a0:Int):Option Bool :=
 (Dimpl_inRange a0 1 4).bind fun v0=>some v0
theorem Timpl_isOp{Y}(a0:Int)(r:Bool)(h:Dimpl_isOp a0=some r):Big Tryz.prog H Y (.call 60 [i64 a0] (lk []) (bl r) (lk [])):=by
 unfold Dimpl_isOp at h
 refine x_call (fn:=Tryz.f60) (c:=bodyOf Tryz.f60) (bs0:=[]) Tryz.func60 (by kernel_rfl) (by kernel_rfl) ?_
 obtain⟨v0,y0,h⟩:=bm h
 replace h:=sj h;subst h
 exact x_end 10 [(2,.call [] [] (bl v0) [])] [] (ocons (Timpl_inRange (Y:=Y) a0 1 4 _ y0) onil) onil 
def Dimpl_Solid_isLeaf(a0:Sol):Option Bool :=
 some ((a0.kids.length:Int)==0)
theorem Timpl_Solid_isLeaf{Y}(a0:Sol)(q0:List AV)(r:Bool)(h:Dimpl_Solid_isLeaf a0=some r):Big Tryz.prog H Y (.call 127 [.cptr ([bl a0.inn,i64 a0.pl.A,i64 a0.pl.B,i64 a0.pl.C,i64 a0.pl.D,.sl false 6 a0.kids.length ((eSol false).f a0.kids)]++q0)] (lk []) (bl r) (lk [])):=by
 unfold Dimpl_Solid_isLeaf at h
 refine x_call (fn:=Tryz.f127) (c:=bodyOf Tryz.f127) (bs0:=[]) Tryz.func127 (by kernel_rfl) (by kernel_rfl) ?_
 replace h:=sj h;subst h
 exact x_end 14 [] [] onil onil 
def Dimpl_isCoef(a0:Int):Option Bool :=
 (Dimpl_inRange a0 (-500) 500).bind fun v0=>some v0
theorem Timpl_isCoef{Y}(a0:Int)(r:Bool)(h:Dimpl_isCoef a0=some r):Big Tryz.prog H Y (.call 189 [i64 a0] (lk []) (bl r) (lk [])):=by
 unfold Dimpl_isCoef at h
 refine x_call (fn:=Tryz.f189) (c:=bodyOf Tryz.f189) (bs0:=[]) Tryz.func189 (by kernel_rfl) (by kernel_rfl) ?_
 obtain⟨v0,y0,h⟩:=bm h
 replace h:=sj h;subst h
 exact x_end 10 [(2,.call [] [] (bl v0) [])] [] (ocons (Timpl_inRange (Y:=Y) a0 (-500) 500 _ y0) onil) onil 
def Dimpl_divisor_0(_n:Nat)(rec0:(Int×Int)→Option Int)(_t6:List Int)(_t7 t8:Int)(rec1:(Int×Int)→Option Int)(a:(Int×Int)):Option Int :=
 match a with
 | (t3,t5)=>frk (t5 != 0) ((rm .i64 t3 t5).bind fun v1=>rec1 (t5,v1)) (rec0 (t3,w64 (t8+1)))
theorem Timpl_divisor_0{Y}(n:Nat)(rec0:(Int×Int)→Option Int)(t6:List Int)(t7:Int)(hrec0:∀(a:(Int×Int)) (r:Int),rec0 a=some r→Wk Tryz.prog H Y 175 [.code (cp [1,1,0,1,0] (bodyOf Tryz.f175)),.blk 0,.code (cp [1,1,1] (bodyOf Tryz.f175))] (FinX Tryz.prog Tryz.f175 [] (i64 r) []) ⟨[(3,i64 a.1),(6,.sl false 1 t6.length ((eInt).f t6)),(7,i64 t7),(8,i64 a.2)],[]⟩)(t8:Int):∀(m:Nat) (a:(Int×Int)) (r:Int),loopN (Dimpl_divisor_0 n rec0 t6 t7 t8) m a=some r→Wk Tryz.prog H Y 175 [.code (cp [1,1,0,1,0,0,1,1,0,0,1,1,0] (bodyOf Tryz.f175)),.blk 2,.blk 1,.code (cp [1,1,0,1,0,0,1,1,1] (bodyOf Tryz.f175)),.lp (cp [1,1,0,1,0] (bodyOf Tryz.f175)),.blk 0,.code (cp [1,1,1] (bodyOf Tryz.f175))] (FinX Tryz.prog Tryz.f175 [] (i64 r) []) ⟨[(3,i64 a.1),(5,i64 a.2),(6,.sl false 1 t6.length ((eInt).f t6)),(7,i64 t7),(8,i64 t8)],[]⟩:=by
 refine loopN_ind (fun _rec1 hrec1 a r h=>?_)
 obtain⟨t3,t5⟩:=a
 unfold Dimpl_divisor_0 at h
 refine x_frk 7 [] onil h (by kernel_rfl) (fun h=>?_) (fun h=>?_)
 ·obtain⟨v1,y1,h⟩:=bm h
  exact x_to 12 [(3,.val (i64 v1))] (ocons (rmOk y1) onil) (hrec1 (t5,v1) r h) 
 ·exact x_to 7 [] onil (hrec0 (t3,w64 (t8+1)) r h) 
def Dimpl_divisor_1(n:Nat)(t6:List Int)(t7:Int)(rec0:(Int×Int)→Option Int)(a:(Int×Int)):Option Int :=
 match a with
 | (t3,t8)=>frk (decide (t8<t7)) ((lget t6 t8).bind fun v0=>loopN (Dimpl_divisor_0 n rec0 t6 t7 t8) n (t3,maxN v0 [w64 (0-v0)])) (some t3)
theorem Timpl_divisor_1{Y}(n:Nat)(t6:List Int)(t7:Int):∀(m:Nat) (a:(Int×Int)) (r:Int),loopN (Dimpl_divisor_1 n t6 t7) m a=some r→Wk Tryz.prog H Y 175 [.code (cp [1,1,0,1,0] (bodyOf Tryz.f175)),.blk 0,.code (cp [1,1,1] (bodyOf Tryz.f175))] (FinX Tryz.prog Tryz.f175 [] (i64 r) []) ⟨[(3,i64 a.1),(6,.sl false 1 t6.length ((eInt).f t6)),(7,i64 t7),(8,i64 a.2)],[]⟩:=by
 refine loopN_ind (fun rec0 hrec0 a r h=>?_)
 obtain⟨t3,t8⟩:=a
 unfold Dimpl_divisor_1 at h
 refine x_frk 6 [] onil h (by kernel_rfl) (fun h=>?_) (fun h=>?_)
 ·obtain⟨v0,y0,h⟩:=bm h
  exact x_to 18 [(0,.val (.cptr (eInt.c v0++(eInt).f ((t6).drop (Int.toNat t8+1))))),(5,.val (.lit (.int .i64 (maxN v0 [w64 (0-v0)]))))] (ocons (ix eInt y0) (ocons (maxNok .i64 [w64 (0-v0)] v0) onil)) (Timpl_divisor_0 n rec0 t6 t7 hrec0 t8 n (t3,maxN v0 [w64 (0-v0)]) r h) 
 ·replace h:=sj h;subst h
  exact x_end 6 [] [] onil onil 
def Dimpl_divisor(n:Nat)(a0:(List Int)):Option Int :=
 loopN (Dimpl_divisor_1 n a0 (a0.length:Int)) n (0,0)
theorem Timpl_divisor{Y}(n:Nat)(a0:(List Int))(r:Int)(h:Dimpl_divisor n a0=some r):Big Tryz.prog H Y (.call 175 [.sl false 1 a0.length ((eInt).f a0)] (lk []) (i64 r) (lk [])):=by
 unfold Dimpl_divisor at h
 refine x_call (fn:=Tryz.f175) (c:=bodyOf Tryz.f175) (bs0:=[]) Tryz.func175 (by kernel_rfl) (by kernel_rfl) ?_
 exact x_to 16 [] onil (Timpl_divisor_1 n a0 (a0.length:Int) n (0,0) r h) 
def Dimpl_PlaneOk_0(n:Nat)(t24:Bool)(zab zac zad zae:Int):Option Bool :=
 frk t24 (some false) (frk (zab != 0) ((Dimpl_divisor n [zab,zac,zad,zae]).bind fun v4=>some (v4==1)) (frk (zac != 0) ((Dimpl_divisor n [zab,zac,zad,zae]).bind fun v5=>some (v5==1)) (frk (zad != 0) ((Dimpl_divisor n [zab,zac,zad,zae]).bind fun v6=>some (v6==1)) (some false))))
theorem Timpl_PlaneOk_0{Y}(n:Nat)(t24:Bool)(zab zac zad zae:Int)(r:Bool)(h:Dimpl_PlaneOk_0 n t24 zab zac zad zae=some r):Wk Tryz.prog H Y 167 [.code (cp [1,0,1] (bodyOf Tryz.f167)),.code (cp [1,1] (bodyOf Tryz.f167))] (FinX Tryz.prog Tryz.f167 [] (bl r) []) ⟨[(1,.ptr 1 0),(24,bl t24)],[(1,⟨true,0,[i64 zab,i64 zac,i64 zad,i64 zae]⟩)]⟩:=by
 unfold Dimpl_PlaneOk_0 at h
 refine x_frk 0 [] onil h (by kernel_rfl) (fun h=>?_) (fun h=>?_)
 ·replace h:=sj h;subst h
  exact x_end 4 [] [] onil onil 
 ·refine x_frk 7 [] onil h (by kernel_rfl) (fun h=>?_) (fun h=>?_)
  ·obtain⟨v4,y4,h⟩:=bm h
   replace h:=sj h;subst h
   exact x_end 24 [(19,.call [] [(eInt).f [zab,zac,zad,zae]] (i64 v4) [])] [] (ocons (Timpl_divisor (Y:=Y) n [zab,zac,zad,zae] _ y4) (ocons (len_row (L:=[zab,zac,zad,zae]) eInt) (ocons (Enc.share eInt eInt sInt [zab,zac,zad,zae]) onil))) onil 
  ·refine x_frk 5 [] onil h (by kernel_rfl) (fun h=>?_) (fun h=>?_)
   ·obtain⟨v5,y5,h⟩:=bm h
    replace h:=sj h;subst h
    exact x_end 19 [(14,.call [] [(eInt).f [zab,zac,zad,zae]] (i64 v5) [])] [] (ocons (Timpl_divisor (Y:=Y) n [zab,zac,zad,zae] _ y5) (ocons (len_row (L:=[zab,zac,zad,zae]) eInt) (ocons (Enc.share eInt eInt sInt [zab,zac,zad,zae]) onil))) onil 
   ·refine x_frk 5 [] onil h (by kernel_rfl) (fun h=>?_) (fun h=>?_)
    ·obtain⟨v6,y6,h⟩:=bm h
     replace h:=sj h;subst h
     exact x_end 14 [(9,.call [] [(eInt).f [zab,zac,zad,zae]] (i64 v6) [])] [] (ocons (Timpl_divisor (Y:=Y) n [zab,zac,zad,zae] _ y6) (ocons (len_row (L:=[zab,zac,zad,zae]) eInt) (ocons (Enc.share eInt eInt sInt [zab,zac,zad,zae]) onil))) onil 
    ·replace h:=sj h;subst h
     exact x_end 14 [] [] onil onil 
def Dimpl_PlaneOk(n:Nat)(a0:Pl):Option Bool :=
 (Dimpl_isCoef a0.A).bind fun v0=>frk (!v0) (some false) ((Dimpl_isCoef a0.B).bind fun v1=>frk (!v1) (some false) ((Dimpl_isCoef a0.C).bind fun v2=>frk (!v2) (some false) ((Dimpl_isCoef a0.D).bind fun v3=>Dimpl_PlaneOk_0 n (!v3) a0.A a0.B a0.C a0.D)))
theorem Timpl_PlaneOk{Y}(n:Nat)(a0:Pl)(r:Bool)(h:Dimpl_PlaneOk n a0=some r):Big Tryz.prog H Y (.call 167 [.agg [i64 a0.A,i64 a0.B,i64 a0.C,i64 a0.D]] (lk []) (bl r) (lk [])):=by
 unfold Dimpl_PlaneOk at h
 refine x_call (fn:=Tryz.f167) (c:=bodyOf Tryz.f167) (bs0:=[]) Tryz.func167 (by kernel_rfl) (by kernel_rfl) ?_
 obtain⟨v0,y0,h⟩:=bm h
 refine x_frk 13 [(4,.call [] [] (bl v0) [])] (ocons (Timpl_isCoef (Y:=Y) a0.A _ y0) onil) h (by kernel_rfl) (fun h=>?_) (fun h=>?_)
 ·replace h:=sj h;subst h
  exact x_end 23 [] [] onil onil 
 ·obtain⟨v1,y1,h⟩:=bm h
  refine x_frk 6 [(2,.call [] [] (bl v1) [])] (ocons (Timpl_isCoef (Y:=Y) a0.B _ y1) onil) h (by kernel_rfl) (fun h=>?_) (fun h=>?_)
  ·replace h:=sj h;subst h
   exact x_end 17 [] [] onil onil 
  ·obtain⟨v2,y2,h⟩:=bm h
   refine x_frk 6 [(2,.call [] [] (bl v2) [])] (ocons (Timpl_isCoef (Y:=Y) a0.C _ y2) onil) h (by kernel_rfl) (fun h=>?_) (fun h=>?_)
   ·replace h:=sj h;subst h
    exact x_end 11 [] [] onil onil 
   ·obtain⟨v3,y3,h⟩:=bm h
    exact x_to 6 [(2,.call [] [] (bl v3) [])] (ocons (Timpl_isCoef (Y:=Y) a0.D _ y3) onil) (Timpl_PlaneOk_0 n (!v3) a0.A a0.B a0.C a0.D r h) 
def Dimpl_flip(a0:Pl):Option Pl :=
 some (Pl.mk (w64 (0-a0.A)) (w64 (0-a0.B)) (w64 (0-a0.C)) (w64 (0-a0.D)))
theorem Timpl_flip{Y}(a0:Pl)(r:Pl)(h:Dimpl_flip a0=some r):Big Tryz.prog H Y (.call 163 [.agg [i64 a0.A,i64 a0.B,i64 a0.C,i64 a0.D]] (lk []) (.agg [i64 r.A,i64 r.B,i64 r.C,i64 r.D]) (lk [])):=by
 unfold Dimpl_flip at h
 refine x_call (fn:=Tryz.f163) (c:=bodyOf Tryz.f163) (bs0:=[]) Tryz.func163 (by kernel_rfl) (by kernel_rfl) ?_
 replace h:=sj h;subst h
 exact x_end 22 [] [] onil onil 
def Dimpl_normal(a0:Pl):Option (Int×Int×Int) :=
 some (a0.A,a0.B,a0.C)
theorem Timpl_normal{Y}(a0:Pl)(r:(Int×Int×Int))(h:Dimpl_normal a0=some r):Big Tryz.prog H Y (.call 144 [.agg [i64 a0.A,i64 a0.B,i64 a0.C,i64 a0.D]] (lk []) (.agg [i64 r.1,i64 r.2.1,i64 r.2.2]) (lk [])):=by
 unfold Dimpl_normal at h
 refine x_call (fn:=Tryz.f144) (c:=bodyOf Tryz.f144) (bs0:=[]) Tryz.func144 (by kernel_rfl) (by kernel_rfl) ?_
 replace h:=sj h;subst h
 exact x_end 16 [] [] onil onil 
def Dimpl_crossOf(a0:(Int×Int×Int))(a1:(Int×Int×Int)):Option (Int×Int×Int) :=
 some (w64 ((w64 (a0.2.1*a1.2.2))-(w64 (a0.2.2*a1.2.1))),w64 ((w64 (a0.2.2*a1.1))-(w64 (a0.1*a1.2.2))),w64 ((w64 (a0.1*a1.2.1))-(w64 (a0.2.1*a1.1))))
theorem Timpl_crossOf{Y}(a0:(Int×Int×Int))(a1:(Int×Int×Int))(r:(Int×Int×Int))(h:Dimpl_crossOf a0 a1=some r):Big Tryz.prog H Y (.call 143 [.agg [i64 a0.1,i64 a0.2.1,i64 a0.2.2],.agg [i64 a1.1,i64 a1.2.1,i64 a1.2.2]] (lk []) (.agg [i64 r.1,i64 r.2.1,i64 r.2.2]) (lk [])):=by
 unfold Dimpl_crossOf at h
 refine x_call (fn:=Tryz.f143) (c:=bodyOf Tryz.f143) (bs0:=[]) Tryz.func143 (by kernel_rfl) (by kernel_rfl) ?_
 replace h:=sj h;subst h
 exact x_end 44 [] [] onil onil 
def Dimpl_dot(a0:(Int×Int×Int))(a1:(Int×Int×Int)):Option Int :=
 some (w64 ((w64 ((w64 (a0.1*a1.1))+(w64 (a0.2.1*a1.2.1))))+(w64 (a0.2.2*a1.2.2))))
theorem Timpl_dot{Y}(a0:(Int×Int×Int))(a1:(Int×Int×Int))(r:Int)(h:Dimpl_dot a0 a1=some r):Big Tryz.prog H Y (.call 195 [.agg [i64 a0.1,i64 a0.2.1,i64 a0.2.2],.agg [i64 a1.1,i64 a1.2.1,i64 a1.2.2]] (lk []) (i64 r) (lk [])):=by
 unfold Dimpl_dot at h
 refine x_call (fn:=Tryz.f195) (c:=bodyOf Tryz.f195) (bs0:=[]) Tryz.func195 (by kernel_rfl) (by kernel_rfl) ?_
 replace h:=sj h;subst h
 exact x_end 27 [] [] onil onil 
def Dcmp_isNaN(a0:Int):Option Bool :=
 some (a0 != a0)
theorem Tcmp_isNaN{Y}(a0:Int)(r:Bool)(h:Dcmp_isNaN a0=some r):Big Tryz.prog H Y (.call 231 [i64 a0] (lk []) (bl r) (lk [])):=by
 unfold Dcmp_isNaN at h
 refine x_call (fn:=Tryz.f231) (c:=bodyOf Tryz.f231) (bs0:=[]) Tryz.func231 (by kernel_rfl) (by kernel_rfl) ?_
 replace h:=sj h;subst h
 exact x_end 11 [] [] onil onil 
def Dcmp_Compare(a0 a1:Int):Option Int :=
 (Dcmp_isNaN a0).bind fun v0=>(Dcmp_isNaN a1).bind fun v1=>frk v0 (frk v1 (some 0) (some (-1))) (frk v1 (some 1) (frk (decide (a0<a1)) (some (-1)) (frk (decide (a0>a1)) (some 1) (some 0))))
theorem Tcmp_Compare{Y}(a0 a1 r:Int)(h:Dcmp_Compare a0 a1=some r):Big Tryz.prog H Y (.call 200 [i64 a0,i64 a1] (lk []) (i64 r) (lk [])):=by
 unfold Dcmp_Compare at h
 refine x_call (fn:=Tryz.f200) (c:=bodyOf Tryz.f200) (bs0:=[]) Tryz.func200 (by kernel_rfl) (by kernel_rfl) ?_
 obtain⟨v0,y0,h⟩:=bm h
 obtain⟨v1,y1,h⟩:=bm h
 refine x_frk 21 [(2,.call [] [] (bl v0) []),(2,.call [] [] (bl v1) [])] (ocons (Tcmp_isNaN (Y:=Y) a0 _ y0) (ocons (Tcmp_isNaN (Y:=Y) a1 _ y1) onil)) h (by kernel_rfl) (fun h=>?_) (fun h=>?_)
 ·refine x_frk 5 [] onil h (by kernel_rfl) (fun h=>?_) (fun h=>?_)
  ·replace h:=sj h;subst h
   exact x_end 4 [] [] onil onil 
  ·replace h:=sj h;subst h
   exact x_end 5 [] [] onil onil 
 ·refine x_frk 6 [] onil h (by kernel_rfl) (fun h=>?_) (fun h=>?_)
  ·replace h:=sj h;subst h
   exact x_end 4 [] [] onil onil 
  ·refine x_frk 8 [] onil h (by kernel_rfl) (fun h=>?_) (fun h=>?_)
   ·replace h:=sj h;subst h
    exact x_end 4 [] [] onil onil 
   ·refine x_frk 8 [] onil h (by kernel_rfl) (fun h=>?_) (fun h=>?_)
    ·replace h:=sj h;subst h
     exact x_end 4 [] [] onil onil 
    ·replace h:=sj h;subst h
     exact x_end 5 [] [] onil onil 
def Dimpl_sign(a0:Int):Option Int :=
 (Dcmp_Compare a0 0).bind fun v0=>some v0
theorem Timpl_sign{Y}(a0 r:Int)(h:Dimpl_sign a0=some r):Big Tryz.prog H Y (.call 214 [i64 a0] (lk []) (i64 r) (lk [])):=by
 unfold Dimpl_sign at h
 refine x_call (fn:=Tryz.f214) (c:=bodyOf Tryz.f214) (bs0:=[]) Tryz.func214 (by kernel_rfl) (by kernel_rfl) ?_
 obtain⟨v0,y0,h⟩:=bm h
 replace h:=sj h;subst h
 exact x_end 10 [(2,.call [] [] (i64 v0) [])] [] (ocons (Tcmp_Compare (Y:=Y) a0 0 _ y0) onil) onil 
def Dimpl_parallel(a0:Pl)(a1:Pl):Option Int :=
 (Dimpl_normal a0).bind fun v0=>(Dimpl_normal a1).bind fun v1=>(Dimpl_crossOf v0 v1).bind fun v2=>frk (!(v2.1==0&&(v2.2.1==0&&(v2.2.2==0&&true)))) (some 0) ((Dimpl_normal a0).bind fun v3=>(Dimpl_normal a1).bind fun v4=>(Dimpl_dot v3 v4).bind fun v5=>(Dimpl_sign v5).bind fun v6=>some v6)
theorem Timpl_parallel{Y}(a0:Pl)(a1:Pl)(r:Int)(h:Dimpl_parallel a0 a1=some r):Big Tryz.prog H Y (.call 242 [.agg [i64 a0.A,i64 a0.B,i64 a0.C,i64 a0.D],.agg [i64 a1.A,i64 a1.B,i64 a1.C,i64 a1.D]] (lk []) (i64 r) (lk [])):=by
 unfold Dimpl_parallel at h
 refine x_call (fn:=Tryz.f242) (c:=bodyOf Tryz.f242) (bs0:=[]) Tryz.func242 (by kernel_rfl) (by kernel_rfl) ?_
 obtain⟨v0,y0,h⟩:=bm h
 obtain⟨v1,y1,h⟩:=bm h
 obtain⟨v2,y2,h⟩:=bm h
 refine x_frk 17 [(4,.call [] [] (.agg [i64 v0.1,i64 v0.2.1,i64 v0.2.2]) []),(1,.call [] [] (.agg [i64 v1.1,i64 v1.2.1,i64 v1.2.2]) []),(0,.call [] [] (.agg [i64 v2.1,i64 v2.2.1,i64 v2.2.2]) [])] (ocons (Timpl_normal (Y:=Y) a0 _ y0) (ocons (Timpl_normal (Y:=Y) a1 _ y1) (ocons (Timpl_crossOf (Y:=Y) v0 v1 _ y2) onil))) h (by kernel_rfl) (fun h=>?_) (fun h=>?_)
 ·replace h:=sj h;subst h
  exact x_end 4 [] [] onil onil 
 ·obtain⟨v3,y3,h⟩:=bm h
  obtain⟨v4,y4,h⟩:=bm h
  obtain⟨v5,y5,h⟩:=bm h
  obtain⟨v6,y6,h⟩:=bm h
  replace h:=sj h;subst h
  exact x_end 11 [(1,.call [] [] (.agg [i64 v3.1,i64 v3.2.1,i64 v3.2.2]) []),(1,.call [] [] (.agg [i64 v4.1,i64 v4.2.1,i64 v4.2.2]) []),(0,.call [] [] (i64 v5) []),(0,.call [] [] (i64 v6) [])] [] (ocons (Timpl_normal (Y:=Y) a0 _ y3) (ocons (Timpl_normal (Y:=Y) a1 _ y4) (ocons (Timpl_dot (Y:=Y) v3 v4 _ y5) (ocons (Timpl_sign (Y:=Y) v5 _ y6) onil)))) onil 
def Dimpl_clash2(_n:Nat)(a0:Pl)(a1:Pl):Option Bool :=
 (Dimpl_parallel a0 a1).bind fun v0=>frk (decide (v0≥0)) (some false) ((Dimpl_normal a0).bind fun v1=>(Dimpl_normal a1).bind fun v2=>frk (v1.1 != 0) (some (decide ((w64 ((w64 (a0.D*(maxN v2.1 [w64 (0-v2.1)])))+(w64 (a1.D*(maxN v1.1 [w64 (0-v1.1)])))))≤0))) (frk (v1.2.1 != 0) (some (decide ((w64 ((w64 (a0.D*(maxN v2.2.1 [w64 (0-v2.2.1)])))+(w64 (a1.D*(maxN v1.2.1 [w64 (0-v1.2.1)])))))≤0))) (frk (v1.2.2 != 0) (some (decide ((w64 ((w64 (a0.D*(maxN v2.2.2 [w64 (0-v2.2.2)])))+(w64 (a1.D*(maxN v1.2.2 [w64 (0-v1.2.2)])))))≤0))) (some false))))
theorem Timpl_clash2{Y}(n:Nat)(a0:Pl)(a1:Pl)(r:Bool)(h:Dimpl_clash2 n a0 a1=some r):Big Tryz.prog H Y (.call 210 [.agg [i64 a0.A,i64 a0.B,i64 a0.C,i64 a0.D],.agg [i64 a1.A,i64 a1.B,i64 a1.C,i64 a1.D]] (lk []) (bl r) (lk [])):=by
 unfold Dimpl_clash2 at h
 refine x_call (fn:=Tryz.f210) (c:=bodyOf Tryz.f210) (bs0:=[]) Tryz.func210 (by kernel_rfl) (by kernel_rfl) ?_
 obtain⟨v0,y0,h⟩:=bm h
 refine x_frk 14 [(5,.call [] [] (i64 v0) [])] (ocons (Timpl_parallel (Y:=Y) a0 a1 _ y0) onil) h (by kernel_rfl) (fun h=>?_) (fun h=>?_)
 ·replace h:=sj h;subst h
  exact x_end 4 [] [] onil onil 
 ·obtain⟨v1,y1,h⟩:=bm h
  obtain⟨v2,y2,h⟩:=bm h
  refine x_frk 40 [(1,.call [] [] (.agg [i64 v1.1,i64 v1.2.1,i64 v1.2.2]) []),(1,.call [] [] (.agg [i64 v2.1,i64 v2.2.1,i64 v2.2.2]) [])] (ocons (Timpl_normal (Y:=Y) a0 _ y1) (ocons (Timpl_normal (Y:=Y) a1 _ y2) onil)) h (by kernel_rfl) (fun h=>?_) (fun h=>?_)
  ·replace h:=sj h;subst h
   exact x_end 28 [(9,.val (.lit (.int .i64 (maxN v2.1 [w64 (0-v2.1)])))),(10,.val (.lit (.int .i64 (maxN v1.1 [w64 (0-v1.1)]))))] [] (ocons (maxNok .i64 [w64 (0-v2.1)] v2.1) (ocons (maxNok .i64 [w64 (0-v1.1)] v1.1) onil)) onil 
  ·refine x_frk 29 [] onil h (by kernel_rfl) (fun h=>?_) (fun h=>?_)
   ·replace h:=sj h;subst h
    exact x_end 28 [(9,.val (.lit (.int .i64 (maxN v2.2.1 [w64 (0-v2.2.1)])))),(10,.val (.lit (.int .i64 (maxN v1.2.1 [w64 (0-v1.2.1)]))))] [] (ocons (maxNok .i64 [w64 (0-v2.2.1)] v2.2.1) (ocons (maxNok .i64 [w64 (0-v1.2.1)] v1.2.1) onil)) onil 
   ·refine x_frk 29 [] onil h (by kernel_rfl) (fun h=>?_) (fun h=>?_)
    ·replace h:=sj h;subst h
     exact x_end 28 [(9,.val (.lit (.int .i64 (maxN v2.2.2 [w64 (0-v2.2.2)])))),(10,.val (.lit (.int .i64 (maxN v1.2.2 [w64 (0-v1.2.2)]))))] [] (ocons (maxNok .i64 [w64 (0-v2.2.2)] v2.2.2) (ocons (maxNok .i64 [w64 (0-v1.2.2)] v1.2.2) onil)) onil 
    ·replace h:=sj h;subst h
     exact x_end 19 [] [] onil onil 
def Dimpl_det(a0:(Int×Int×Int))(a1:(Int×Int×Int))(a2:(Int×Int×Int)):Option Int :=
 (Dimpl_crossOf a1 a2).bind fun v0=>(Dimpl_dot a0 v0).bind fun v1=>some v1
theorem Timpl_det{Y}(a0:(Int×Int×Int))(a1:(Int×Int×Int))(a2:(Int×Int×Int))(r:Int)(h:Dimpl_det a0 a1 a2=some r):Big Tryz.prog H Y (.call 194 [.agg [i64 a0.1,i64 a0.2.1,i64 a0.2.2],.agg [i64 a1.1,i64 a1.2.1,i64 a1.2.2],.agg [i64 a2.1,i64 a2.2.1,i64 a2.2.2]] (lk []) (i64 r) (lk [])):=by
 unfold Dimpl_det at h
 refine x_call (fn:=Tryz.f194) (c:=bodyOf Tryz.f194) (bs0:=[]) Tryz.func194 (by kernel_rfl) (by kernel_rfl) ?_
 obtain⟨v0,y0,h⟩:=bm h
 obtain⟨v1,y1,h⟩:=bm h
 replace h:=sj h;subst h
 exact x_end 16 [(7,.call [] [] (.agg [i64 v0.1,i64 v0.2.1,i64 v0.2.2]) []),(0,.call [] [] (i64 v1) [])] [] (ocons (Timpl_crossOf (Y:=Y) a1 a2 _ y0) (ocons (Timpl_dot (Y:=Y) a0 v0 _ y1) onil)) onil 
def Dimpl_weighs_0(_n:Nat)(rec0:(Int×Int)→Option Bool)(t1:List Int)(_t5:Int)(_t13:List Int)(_t14 t6 t7 t8 t15:Int)(t27:Bool):Option Bool :=
 frk t27 (some false) ((lget t1 t7).bind fun v4=>rec0 (w64 (t6+(w64 (t8*v4))),w64 (t15+1)))
theorem Timpl_weighs_0{Y}(n:Nat)(rec0:(Int×Int)→Option Bool)(t1:List Int)(t5:Int)(t13:List Int)(t14:Int)(hrec0:∀(a:(Int×Int)) (r:Bool),rec0 a=some r→Wk Tryz.prog H Y 243 [.code (cp [1,1,1,0,1,0] (bodyOf Tryz.f243)),.blk 0,.code (cp [1,1,1,1] (bodyOf Tryz.f243))] (FinX Tryz.prog Tryz.f243 [] (bl r) []) ⟨[(1,.sl false 1 t1.length ((eInt).f t1)),(5,i64 t5),(6,i64 a.1),(13,.sl false 1 t13.length ((eInt).f t13)),(14,i64 t14),(15,i64 a.2)],[]⟩)(t6 t7 t8 t15:Int)(t27 r:Bool)(h:Dimpl_weighs_0 n rec0 t1 t5 t13 t14 t6 t7 t8 t15 t27=some r):Wk Tryz.prog H Y 243 [.code (cp [1,1,1,0,1,0,0,1,1,0,0,1,0,1] (bodyOf Tryz.f243)),.code (cp [1,1,1,0,1,0,0,1,1,0,0,1,1] (bodyOf Tryz.f243)),.blk 1,.code (cp [1,1,1,0,1,0,0,1,1,1] (bodyOf Tryz.f243)),.lp (cp [1,1,1,0,1,0] (bodyOf Tryz.f243)),.blk 0,.code (cp [1,1,1,1] (bodyOf Tryz.f243))] (FinX Tryz.prog Tryz.f243 [] (bl r) []) ⟨[(1,.sl false 1 t1.length ((eInt).f t1)),(5,i64 t5),(6,i64 t6),(7,i64 t7),(8,i64 t8),(13,.sl false 1 t13.length ((eInt).f t13)),(14,i64 t14),(15,i64 t15),(27,bl t27)],[]⟩:=by
 unfold Dimpl_weighs_0 at h
 refine x_frk 0 [] onil h (by kernel_rfl) (fun h=>?_) (fun h=>?_)
 ·replace h:=sj h;subst h
  exact x_end 4 [] [] onil onil 
 ·obtain⟨v4,y4,h⟩:=bm h
  exact x_to 18 [(4,.val (.cptr (eInt.c v4++(eInt).f ((t1).drop (Int.toNat t7+1)))))] (ocons (ix eInt y4) onil) (hrec0 (w64 (t6+(w64 (t8*v4))),w64 (t15+1)) r h) 
def Dimpl_weighs_1(n:Nat)(t1:List Int)(t5:Int)(t13:List Int)(t14:Int)(rec0:(Int×Int)→Option Bool)(a:(Int×Int)):Option Bool :=
 match a with
 | (t6,t15)=>frk (decide (t15<t14)) ((lget t13 t15).bind fun v2=>frk (t5==0) (some false) ((Dimpl_sign v2).bind fun v3=>Dimpl_weighs_0 n rec0 t1 t5 t13 t14 t6 t15 v2 t15 (v3 != t5))) (some (decide ((w64 (t6*t5))≤0)))
theorem Timpl_weighs_1{Y}(n:Nat)(t1:List Int)(t5:Int)(t13:List Int)(t14:Int):∀(m:Nat) (a:(Int×Int)) (r:Bool),loopN (Dimpl_weighs_1 n t1 t5 t13 t14) m a=some r→Wk Tryz.prog H Y 243 [.code (cp [1,1,1,0,1,0] (bodyOf Tryz.f243)),.blk 0,.code (cp [1,1,1,1] (bodyOf Tryz.f243))] (FinX Tryz.prog Tryz.f243 [] (bl r) []) ⟨[(1,.sl false 1 t1.length ((eInt).f t1)),(5,i64 t5),(6,i64 a.1),(13,.sl false 1 t13.length ((eInt).f t13)),(14,i64 t14),(15,i64 a.2)],[]⟩:=by
 refine loopN_ind (fun rec0 hrec0 a r h=>?_)
 obtain⟨t6,t15⟩:=a
 unfold Dimpl_weighs_1 at h
 refine x_frk 6 [] onil h (by kernel_rfl) (fun h=>?_) (fun h=>?_)
 ·obtain⟨v2,y2,h⟩:=bm h
  refine x_frk 17 [(1,.val (.cptr (eInt.c v2++(eInt).f ((t13).drop (Int.toNat t15+1)))))] (ocons (ix eInt y2) onil) h (by kernel_rfl) (fun h=>?_) (fun h=>?_)
  ·replace h:=sj h;subst h
   exact x_end 11 [] [] onil onil 
  ·obtain⟨v3,y3,h⟩:=bm h
   exact x_to 6 [(1,.call [] [] (i64 v3) [])] (ocons (Timpl_sign (Y:=Y) v2 _ y3) onil) (Timpl_weighs_0 n rec0 t1 t5 t13 t14 hrec0 t6 t15 v2 t15 (v3 != t5) r h) 
 ·replace h:=sj h;subst h
  exact x_end 9 [] [] onil onil 
def Dimpl_weighs(n:Nat)(a0:(List Int))(a1:(List Int)):Option Bool :=
 (lget a0 0).bind fun v0=>(Dimpl_sign v0).bind fun v1=>loopN (Dimpl_weighs_1 n a1 v1 a0 (a0.length:Int)) n (0,0)
theorem Timpl_weighs{Y}(n:Nat)(a0:(List Int))(a1:(List Int))(r:Bool)(h:Dimpl_weighs n a0 a1=some r):Big Tryz.prog H Y (.call 243 [.sl false 1 a0.length ((eInt).f a0),.sl false 1 a1.length ((eInt).f a1)] (lk []) (bl r) (lk [])):=by
 unfold Dimpl_weighs at h
 refine x_call (fn:=Tryz.f243) (c:=bodyOf Tryz.f243) (bs0:=[]) Tryz.func243 (by kernel_rfl) (by kernel_rfl) ?_
 obtain⟨v0,y0,h⟩:=bm h
 obtain⟨v1,y1,h⟩:=bm h
 exact x_to 24 [(2,.val (.cptr (eInt.c v0++(eInt).f ((a0).drop (Int.toNat 0+1))))),(1,.call [] [] (i64 v1) [])] (ocons (ix eInt y0) (ocons (Timpl_sign (Y:=Y) v0 _ y1) onil)) (Timpl_weighs_1 n a1 v1 a0 (a0.length:Int) n (0,0) r h) 
def Dimpl_clash3(n:Nat)(a0:Pl)(a1:Pl)(a2:Pl):Option Bool :=
 (Dimpl_normal a0).bind fun v0=>(Dimpl_normal a1).bind fun v1=>(Dimpl_normal a2).bind fun v2=>(Dimpl_det v0 v1 v2).bind fun v3=>frk (v3 != 0) (some false) ((Dimpl_crossOf v0 v1).bind fun v4=>(Dimpl_crossOf v1 v2).bind fun v5=>(Dimpl_dot v5 v4).bind fun v6=>(Dimpl_crossOf v2 v0).bind fun v7=>(Dimpl_dot v7 v4).bind fun v8=>(Dimpl_dot v4 v4).bind fun v9=>(Dimpl_weighs n [v6,v8,v9] [a0.D,a1.D,a2.D]).bind fun v10=>some v10)
theorem Timpl_clash3{Y}(n:Nat)(a0:Pl)(a1:Pl)(a2:Pl)(r:Bool)(h:Dimpl_clash3 n a0 a1 a2=some r):Big Tryz.prog H Y (.call 211 [.agg [i64 a0.A,i64 a0.B,i64 a0.C,i64 a0.D],.agg [i64 a1.A,i64 a1.B,i64 a1.C,i64 a1.D],.agg [i64 a2.A,i64 a2.B,i64 a2.C,i64 a2.D]] (lk []) (bl r) (lk [])):=by
 unfold Dimpl_clash3 at h
 refine x_call (fn:=Tryz.f211) (c:=bodyOf Tryz.f211) (bs0:=[]) Tryz.func211 (by kernel_rfl) (by kernel_rfl) ?_
 obtain⟨v0,y0,h⟩:=bm h
 obtain⟨v1,y1,h⟩:=bm h
 obtain⟨v2,y2,h⟩:=bm h
 obtain⟨v3,y3,h⟩:=bm h
 refine x_frk 31 [(5,.call [] [] (.agg [i64 v0.1,i64 v0.2.1,i64 v0.2.2]) []),(1,.call [] [] (.agg [i64 v1.1,i64 v1.2.1,i64 v1.2.2]) []),(1,.call [] [] (.agg [i64 v2.1,i64 v2.2.1,i64 v2.2.2]) []),(9,.call [] [] (i64 v3) [])] (ocons (Timpl_normal (Y:=Y) a0 _ y0) (ocons (Timpl_normal (Y:=Y) a1 _ y1) (ocons (Timpl_normal (Y:=Y) a2 _ y2) (ocons (Timpl_det (Y:=Y) v0 v1 v2 _ y3) onil)))) h (by kernel_rfl) (fun h=>?_) (fun h=>?_)
 ·replace h:=sj h;subst h
  exact x_end 4 [] [] onil onil 
 ·obtain⟨v4,y4,h⟩:=bm h
  obtain⟨v5,y5,h⟩:=bm h
  obtain⟨v6,y6,h⟩:=bm h
  obtain⟨v7,y7,h⟩:=bm h
  obtain⟨v8,y8,h⟩:=bm h
  obtain⟨v9,y9,h⟩:=bm h
  obtain⟨v10,y10,h⟩:=bm h
  replace h:=sj h;subst h
  exact x_end 35 [(2,.call [] [] (.agg [i64 v4.1,i64 v4.2.1,i64 v4.2.2]) []),(4,.call [] [] (.agg [i64 v5.1,i64 v5.2.1,i64 v5.2.2]) []),(1,.call [] [] (i64 v6) []),(2,.call [] [] (.agg [i64 v7.1,i64 v7.2.1,i64 v7.2.2]) []),(1,.call [] [] (i64 v8) []),(2,.call [] [] (i64 v9) []),(8,.call [] [(eInt).f [a0.D,a1.D,a2.D],(eInt).f [v6,v8,v9]] (bl v10) [])] [] (ocons (Timpl_crossOf (Y:=Y) v0 v1 _ y4) (ocons (Timpl_crossOf (Y:=Y) v1 v2 _ y5) (ocons (Timpl_dot (Y:=Y) v5 v4 _ y6) (ocons (Timpl_crossOf (Y:=Y) v2 v0 _ y7) (ocons (Timpl_dot (Y:=Y) v7 v4 _ y8) (ocons (Timpl_dot (Y:=Y) v4 v4 _ y9) (ocons (Timpl_weighs (Y:=Y) n [v6,v8,v9] [a0.D,a1.D,a2.D] _ y10) (ocons (len_row (L:=[v6,v8,v9]) eInt) (ocons (Enc.share eInt eInt sInt [v6,v8,v9]) (ocons (len_row (L:=[a0.D,a1.D,a2.D]) eInt) (ocons (Enc.share eInt eInt sInt [a0.D,a1.D,a2.D]) onil))))))))))) onil 
def Dimpl_det3(a0:Pl)(a1:Pl)(a2:Pl):Option Int :=
 (Dimpl_normal a0).bind fun v0=>(Dimpl_normal a1).bind fun v1=>(Dimpl_normal a2).bind fun v2=>(Dimpl_det v0 v1 v2).bind fun v3=>some v3
theorem Timpl_det3{Y}(a0:Pl)(a1:Pl)(a2:Pl)(r:Int)(h:Dimpl_det3 a0 a1 a2=some r):Big Tryz.prog H Y (.call 196 [.agg [i64 a0.A,i64 a0.B,i64 a0.C,i64 a0.D],.agg [i64 a1.A,i64 a1.B,i64 a1.C,i64 a1.D],.agg [i64 a2.A,i64 a2.B,i64 a2.C,i64 a2.D]] (lk []) (i64 r) (lk [])):=by
 unfold Dimpl_det3 at h
 refine x_call (fn:=Tryz.f196) (c:=bodyOf Tryz.f196) (bs0:=[]) Tryz.func196 (by kernel_rfl) (by kernel_rfl) ?_
 obtain⟨v0,y0,h⟩:=bm h
 obtain⟨v1,y1,h⟩:=bm h
 obtain⟨v2,y2,h⟩:=bm h
 obtain⟨v3,y3,h⟩:=bm h
 replace h:=sj h;subst h
 exact x_end 18 [(5,.call [] [] (.agg [i64 v0.1,i64 v0.2.1,i64 v0.2.2]) []),(1,.call [] [] (.agg [i64 v1.1,i64 v1.2.1,i64 v1.2.2]) []),(1,.call [] [] (.agg [i64 v2.1,i64 v2.2.1,i64 v2.2.2]) []),(0,.call [] [] (i64 v3) [])] [] (ocons (Timpl_normal (Y:=Y) a0 _ y0) (ocons (Timpl_normal (Y:=Y) a1 _ y1) (ocons (Timpl_normal (Y:=Y) a2 _ y2) (ocons (Timpl_det (Y:=Y) v0 v1 v2 _ y3) onil)))) onil 
def Dimpl_clash4(n:Nat)(a0:Pl)(a1:Pl)(a2:Pl)(a3:Pl):Option Bool :=
 (Dimpl_det3 a1 a2 a3).bind fun v0=>(Dimpl_det3 a0 a2 a3).bind fun v1=>(Dimpl_det3 a0 a1 a3).bind fun v2=>(Dimpl_det3 a0 a1 a2).bind fun v3=>(Dimpl_weighs n [v0,w64 (0-v1),v2,w64 (0-v3)] [a0.D,a1.D,a2.D,a3.D]).bind fun v4=>some v4
theorem Timpl_clash4{Y}(n:Nat)(a0:Pl)(a1:Pl)(a2:Pl)(a3:Pl)(r:Bool)(h:Dimpl_clash4 n a0 a1 a2 a3=some r):Big Tryz.prog H Y (.call 212 [.agg [i64 a0.A,i64 a0.B,i64 a0.C,i64 a0.D],.agg [i64 a1.A,i64 a1.B,i64 a1.C,i64 a1.D],.agg [i64 a2.A,i64 a2.B,i64 a2.C,i64 a2.D],.agg [i64 a3.A,i64 a3.B,i64 a3.C,i64 a3.D]] (lk []) (bl r) (lk [])):=by
 unfold Dimpl_clash4 at h
 refine x_call (fn:=Tryz.f212) (c:=bodyOf Tryz.f212) (bs0:=[]) Tryz.func212 (by kernel_rfl) (by kernel_rfl) ?_
 obtain⟨v0,y0,h⟩:=bm h
 obtain⟨v1,y1,h⟩:=bm h
 obtain⟨v2,y2,h⟩:=bm h
 obtain⟨v3,y3,h⟩:=bm h
 obtain⟨v4,y4,h⟩:=bm h
 replace h:=sj h;subst h
 exact x_end 46 [(8,.call [] [] (i64 v0) []),(3,.call [] [] (i64 v1) []),(4,.call [] [] (i64 v2) []),(3,.call [] [] (i64 v3) []),(13,.call [] [(eInt).f [a0.D,a1.D,a2.D,a3.D],(eInt).f [v0,w64 (0-v1),v2,w64 (0-v3)]] (bl v4) [])] [] (ocons (Timpl_det3 (Y:=Y) a1 a2 a3 _ y0) (ocons (Timpl_det3 (Y:=Y) a0 a2 a3 _ y1) (ocons (Timpl_det3 (Y:=Y) a0 a1 a3 _ y2) (ocons (Timpl_det3 (Y:=Y) a0 a1 a2 _ y3) (ocons (Timpl_weighs (Y:=Y) n [v0,w64 (0-v1),v2,w64 (0-v3)] [a0.D,a1.D,a2.D,a3.D] _ y4) (ocons (len_row (L:=[v0,w64 (0-v1),v2,w64 (0-v3)]) eInt) (ocons (Enc.share eInt eInt sInt [v0,w64 (0-v1),v2,w64 (0-v3)]) (ocons (len_row (L:=[a0.D,a1.D,a2.D,a3.D]) eInt) (ocons (Enc.share eInt eInt sInt [a0.D,a1.D,a2.D,a3.D]) onil))))))))) onil 
def Dimpl_room_0(n:Nat)(rec1:Int→Option Bool)(_rec0:Int→Option Bool)(_t13:Int)(_t23:List Pl)(_t24 zam zan zao zap:Int)(_t0:List Pl)(_t11:List Pl)(_t12 zg zh zi zj t25:Int)(t36:List Pl)(t37 zv zw zx zar:Int)(rec2:Int→Option Bool)(a:Int):Option Bool :=
 match a with
 | t38=>frk (decide (t38<t37)) ((lget t36 t38).bind fun v6=>(Dimpl_clash4 n v6 (Pl.mk zv zw zx zar) (Pl.mk zam zan zao zap) (Pl.mk zg zh zi zj)).bind fun v7=>frk v7 (some false) (rec2 (w64 (t38+1)))) (rec1 (w64 (t25+1)))
theorem Timpl_room_0{Y}(n:Nat)(rec1:Int→Option Bool)(rec0:Int→Option Bool)(t13:Int)(t23:List Pl)(t24 zam zan zao zap:Int)(t0:List Pl)(t11:List Pl)(t12 zg zh zi zj:Int)(hrec1:∀(a:Int) (r:Bool),rec1 a=some r→Wk Tryz.prog H Y 168 [.code (cp [1,0,1,0,0,1,1,0,0,1,1,1,0] (bodyOf Tryz.f168)),.blk 2,.blk 1,.code (cp [1,0,1,0,0,1,1,1] (bodyOf Tryz.f168)),.lp (cp [1,0,1,0] (bodyOf Tryz.f168)),.blk 0,.code (cp [1,1] (bodyOf Tryz.f168))] (FinX Tryz.prog Tryz.f168 [] (bl r) []) ⟨[(0,.sl false 4 t0.length ((ePl).f t0)),(3,.ptr 3 0),(6,.ptr 6 0),(11,.sl false 4 t11.length ((ePl).f t11)),(12,i64 t12),(13,i64 t13),(23,.sl false 4 t23.length ((ePl).f t23)),(24,i64 t24),(25,i64 a)],[(3,⟨true,0,[i64 zg,i64 zh,i64 zi,i64 zj]⟩),(6,⟨true,0,[i64 zam,i64 zan,i64 zao,i64 zap]⟩)]⟩)(_hrec0:∀(a:Int) (r:Bool),rec0 a=some r→Wk Tryz.prog H Y 168 [.code (cp [1,0,1,0] (bodyOf Tryz.f168)),.blk 0,.code (cp [1,1] (bodyOf Tryz.f168))] (FinX Tryz.prog Tryz.f168 [] (bl r) []) ⟨[(0,.sl false 4 t0.length ((ePl).f t0)),(3,.ptr 3 0),(11,.sl false 4 t11.length ((ePl).f t11)),(12,i64 t12),(13,i64 a)],[(3,⟨true,0,[i64 zg,i64 zh,i64 zi,i64 zj]⟩)]⟩)(t25:Int)(t36:List Pl)(t37 zv zw zx zar:Int):∀(m:Nat) (a:Int) (r:Bool),loopN (Dimpl_room_0 n rec1 rec0 t13 t23 t24 zam zan zao zap t0 t11 t12 zg zh zi zj t25 t36 t37 zv zw zx zar) m a=some r→Wk Tryz.prog H Y 168 [.code (cp [1,0,1,0,0,1,1,0,0,1,1,1,0,0,1,1,0,0,1,1,1,0] (bodyOf Tryz.f168)),.blk 4,.blk 3,.code (cp [1,0,1,0,0,1,1,0,0,1,1,1,0,0,1,1,1] (bodyOf Tryz.f168)),.lp (cp [1,0,1,0,0,1,1,0,0,1,1,1,0] (bodyOf Tryz.f168)),.blk 2,.blk 1,.code (cp [1,0,1,0,0,1,1,1] (bodyOf Tryz.f168)),.lp (cp [1,0,1,0] (bodyOf Tryz.f168)),.blk 0,.code (cp [1,1] (bodyOf Tryz.f168))] (FinX Tryz.prog Tryz.f168 [] (bl r) []) ⟨[(0,.sl false 4 t0.length ((ePl).f t0)),(3,.ptr 3 0),(6,.ptr 6 0),(8,.ptr 8 0),(11,.sl false 4 t11.length ((ePl).f t11)),(12,i64 t12),(13,i64 t13),(23,.sl false 4 t23.length ((ePl).f t23)),(24,i64 t24),(25,i64 t25),(36,.sl false 4 t36.length ((ePl).f t36)),(37,i64 t37),(38,i64 a)],[(3,⟨true,0,[i64 zg,i64 zh,i64 zi,i64 zj]⟩),(6,⟨true,0,[i64 zam,i64 zan,i64 zao,i64 zap]⟩),(8,⟨true,0,[i64 zv,i64 zw,i64 zx,i64 zar]⟩)]⟩:=by
 refine loopN_ind (fun _rec2 hrec2 a r h=>?_)
 obtain⟨t38,rfl⟩:∃x,x=a:=⟨a,rfl⟩
 unfold Dimpl_room_0 at h
 refine x_frk 6 [] onil h (by kernel_rfl) (fun h=>?_) (fun h=>?_)
 ·obtain⟨v6,y6,h⟩:=bm h
  obtain⟨v7,y7,h⟩:=bm h
  refine x_frk 18 [(0,.val (.cptr (ePl.c v6++(ePl).f ((t36).drop (Int.toNat t38+1))))),(7,.call [] [] (bl v7) [])] (ocons (ix ePl y6) (ocons (Timpl_clash4 (Y:=Y) n v6 (Pl.mk zv zw zx zar) (Pl.mk zam zan zao zap) (Pl.mk zg zh zi zj) _ y7) onil)) h (by kernel_rfl) (fun h=>?_) (fun h=>?_)
  ·replace h:=sj h;subst h
   exact x_end 4 [] [] onil onil 
  ·exact x_to 7 [] onil (hrec2 (w64 (t38+1)) r h) 
 ·exact x_to 7 [] onil (hrec1 (w64 (t25+1)) r h) 
def Dimpl_room_1(n:Nat)(rec0:Int→Option Bool)(t0:List Pl)(t11:List Pl)(t12 zg zh zi zj t13:Int)(t23:List Pl)(t24 zam zan zao zap:Int)(rec1:Int→Option Bool)(a:Int):Option Bool :=
 match a with
 | t25=>frk (decide (t25<t24)) ((lget t23 t25).bind fun v3=>(Dimpl_clash3 n v3 (Pl.mk zam zan zao zap) (Pl.mk zg zh zi zj)).bind fun v4=>frk v4 (some false) ((lsl t0 0 t25).bind fun v5=>loopN (Dimpl_room_0 n rec1 rec0 t13 t23 t24 zam zan zao zap t0 t11 t12 zg zh zi zj t25 v5 (v5.length:Int) v3.A v3.B v3.C v3.D) n 0)) (rec0 (w64 (t13+1)))
theorem Timpl_room_1{Y}(n:Nat)(rec0:Int→Option Bool)(t0:List Pl)(t11:List Pl)(t12 zg zh zi zj:Int)(hrec0:∀(a:Int) (r:Bool),rec0 a=some r→Wk Tryz.prog H Y 168 [.code (cp [1,0,1,0] (bodyOf Tryz.f168)),.blk 0,.code (cp [1,1] (bodyOf Tryz.f168))] (FinX Tryz.prog Tryz.f168 [] (bl r) []) ⟨[(0,.sl false 4 t0.length ((ePl).f t0)),(3,.ptr 3 0),(11,.sl false 4 t11.length ((ePl).f t11)),(12,i64 t12),(13,i64 a)],[(3,⟨true,0,[i64 zg,i64 zh,i64 zi,i64 zj]⟩)]⟩)(t13:Int)(t23:List Pl)(t24 zam zan zao zap:Int):∀(m:Nat) (a:Int) (r:Bool),loopN (Dimpl_room_1 n rec0 t0 t11 t12 zg zh zi zj t13 t23 t24 zam zan zao zap) m a=some r→Wk Tryz.prog H Y 168 [.code (cp [1,0,1,0,0,1,1,0,0,1,1,1,0] (bodyOf Tryz.f168)),.blk 2,.blk 1,.code (cp [1,0,1,0,0,1,1,1] (bodyOf Tryz.f168)),.lp (cp [1,0,1,0] (bodyOf Tryz.f168)),.blk 0,.code (cp [1,1] (bodyOf Tryz.f168))] (FinX Tryz.prog Tryz.f168 [] (bl r) []) ⟨[(0,.sl false 4 t0.length ((ePl).f t0)),(3,.ptr 3 0),(6,.ptr 6 0),(11,.sl false 4 t11.length ((ePl).f t11)),(12,i64 t12),(13,i64 t13),(23,.sl false 4 t23.length ((ePl).f t23)),(24,i64 t24),(25,i64 a)],[(3,⟨true,0,[i64 zg,i64 zh,i64 zi,i64 zj]⟩),(6,⟨true,0,[i64 zam,i64 zan,i64 zao,i64 zap]⟩)]⟩:=by
 refine loopN_ind (fun rec1 hrec1 a r h=>?_)
 obtain⟨t25,rfl⟩:∃x,x=a:=⟨a,rfl⟩
 unfold Dimpl_room_1 at h
 refine x_frk 6 [] onil h (by kernel_rfl) (fun h=>?_) (fun h=>?_)
 ·obtain⟨v3,y3,h⟩:=bm h
  obtain⟨v4,y4,h⟩:=bm h
  refine x_frk 20 [(1,.val (.cptr (ePl.c v3++(ePl).f ((t23).drop (Int.toNat t25+1))))),(7,.call [] [] (bl v4) [])] (ocons (ix ePl y3) (ocons (Timpl_clash3 (Y:=Y) n v3 (Pl.mk zam zan zao zap) (Pl.mk zg zh zi zj) _ y4) onil)) h (by kernel_rfl) (fun h=>?_) (fun h=>?_)
  ·replace h:=sj h;subst h
   exact x_end 4 [] [] onil onil 
  ·obtain⟨v5,y5,h⟩:=bm h
   exact x_to 10 [(2,.val (.sl false 4 v5.length ((ePl).f v5)))] (ocons (slF ePl y5) onil) (Timpl_room_0 n rec1 rec0 t13 t23 t24 zam zan zao zap t0 t11 t12 zg zh zi zj hrec1 hrec0 t25 v5 (v5.length:Int) v3.A v3.B v3.C v3.D n 0 r h) 
 ·exact x_to 7 [] onil (hrec0 (w64 (t13+1)) r h) 
def Dimpl_room_2(n:Nat)(t0:List Pl)(t11:List Pl)(t12 zg zh zi zj:Int)(rec0:Int→Option Bool)(a:Int):Option Bool :=
 match a with
 | t13=>frk (decide (t13<t12)) ((lget t11 t13).bind fun v0=>(Dimpl_clash2 n v0 (Pl.mk zg zh zi zj)).bind fun v1=>frk v1 (some false) ((lsl t0 0 t13).bind fun v2=>loopN (Dimpl_room_1 n rec0 t0 t11 t12 zg zh zi zj t13 v2 (v2.length:Int) v0.A v0.B v0.C v0.D) n 0)) (some true)
theorem Timpl_room_2{Y}(n:Nat)(t0:List Pl)(t11:List Pl)(t12 zg zh zi zj:Int):∀(m:Nat) (a:Int) (r:Bool),loopN (Dimpl_room_2 n t0 t11 t12 zg zh zi zj) m a=some r→Wk Tryz.prog H Y 168 [.code (cp [1,0,1,0] (bodyOf Tryz.f168)),.blk 0,.code (cp [1,1] (bodyOf Tryz.f168))] (FinX Tryz.prog Tryz.f168 [] (bl r) []) ⟨[(0,.sl false 4 t0.length ((ePl).f t0)),(3,.ptr 3 0),(11,.sl false 4 t11.length ((ePl).f t11)),(12,i64 t12),(13,i64 a)],[(3,⟨true,0,[i64 zg,i64 zh,i64 zi,i64 zj]⟩)]⟩:=by
 refine loopN_ind (fun rec0 hrec0 a r h=>?_)
 obtain⟨t13,rfl⟩:∃x,x=a:=⟨a,rfl⟩
 unfold Dimpl_room_2 at h
 refine x_frk 6 [] onil h (by kernel_rfl) (fun h=>?_) (fun h=>?_)
 ·obtain⟨v0,y0,h⟩:=bm h
  obtain⟨v1,y1,h⟩:=bm h
  refine x_frk 19 [(1,.val (.cptr (ePl.c v0++(ePl).f ((t11).drop (Int.toNat t13+1))))),(6,.call [] [] (bl v1) [])] (ocons (ix ePl y0) (ocons (Timpl_clash2 (Y:=Y) n v0 (Pl.mk zg zh zi zj) _ y1) onil)) h (by kernel_rfl) (fun h=>?_) (fun h=>?_)
  ·replace h:=sj h;subst h
   exact x_end 4 [] [] onil onil 
  ·obtain⟨v2,y2,h⟩:=bm h
   exact x_to 10 [(2,.val (.sl false 4 v2.length ((ePl).f v2)))] (ocons (slF ePl y2) onil) (Timpl_room_1 n rec0 t0 t11 t12 zg zh zi zj hrec0 t13 v2 (v2.length:Int) v0.A v0.B v0.C v0.D n 0 r h) 
 ·replace h:=sj h;subst h
  exact x_end 5 [] [] onil onil 
def Dimpl_room(n:Nat)(a0:(List Pl))(a1:Pl):Option Bool :=
 loopN (Dimpl_room_2 n a0 a0 (a0.length:Int) a1.A a1.B a1.C a1.D) n 0
theorem Timpl_room{Y}(n:Nat)(a0:(List Pl))(a1:Pl)(r:Bool)(h:Dimpl_room n a0 a1=some r):Big Tryz.prog H Y (.call 168 [.sl false 4 a0.length ((ePl).f a0),.agg [i64 a1.A,i64 a1.B,i64 a1.C,i64 a1.D]] (lk []) (bl r) (lk [])):=by
 unfold Dimpl_room at h
 refine x_call (fn:=Tryz.f168) (c:=bodyOf Tryz.f168) (bs0:=[]) Tryz.func168 (by kernel_rfl) (by kernel_rfl) ?_
 exact x_to 13 [] onil (Timpl_room_2 n a0 a0 (a0.length:Int) a1.A a1.B a1.C a1.D n 0 r h) 
def Dimpl_with(a0:(List Pl))(a1:Pl):Option (List Pl) :=
 chk (apB 32 (0+a0.length)) (chk (apB 32 (([]++a0).length+1)) (some (([]++a0)++[a1])))
theorem Timpl_with{Y}(a0:(List Pl))(a1:Pl)(r:(List Pl))(h:Dimpl_with a0 a1=some r):Big Tryz.prog H Y (.call 162 [.sl false 4 a0.length ((ePl).f a0),.agg [i64 a1.A,i64 a1.B,i64 a1.C,i64 a1.D]] (lk []) (.sl true 4 r.length ((ePl).f r)) (lk [])):=by
 unfold Dimpl_with at h
 refine x_call (fn:=Tryz.f162) (c:=bodyOf Tryz.f162) (bs0:=[]) Tryz.func162 (by kernel_rfl) (by kernel_rfl) ?_
 obtain⟨c0,h⟩:=chk_some h
 obtain⟨c1,h⟩:=chk_some h
 replace h:=sj h;subst h
 exact x_end 15 [(4,.app false (List.length ([]++a0)) ((ePl).f ([]++a0))),(2,.app false (List.length (([]++a0)++[a1])) ((ePl).f (([]++a0)++[a1])))] [] (ocons (len_row' (L:=[]) ePl) (ocons (app_one (L:=[]) (M:=a0) ePl c0) (ocons (app_new (L:=[]) (M:=a0) ePl) (ocons (app_m (L:=[]) (M:=a0) ePl rfl) (ocons (len_row' (L:=a0) ePl) (ocons (len_row' (L:=([]++a0)) ePl) (ocons (app_one (L:=([]++a0)) (M:=[a1]) ePl c1) (ocons (app_new (L:=([]++a0)) (M:=[a1]) ePl) (ocons (app_m (L:=([]++a0)) (M:=[a1]) ePl rfl) (ocons (len_row' (L:=[a1]) ePl) (ocons (Enc.noOwn ePl (fun _=>rfl) [a1]) onil))))))))))) (ocons (len_row (L:=(([]++a0)++[a1])) ePl) onil) 
def Dimpl_checker_right_1(_n:Nat)(self:(Int×Sol×(List Pl))→Option (Bool×Int))(t2:List Pl)(t59 _zk:Bool)(zl zm zn zai:Int)(zaj:List Sol)(zs zt zu zdf zat:Int):Option (Bool×Int) :=
 frk t59 (some (false,zat)) ((lget zaj 0).bind fun v5=>(Dimpl_with t2 (Pl.mk zl zm zn zai)).bind fun v6=>(self (zat,v5,v6)).bind fun v7=>frk v7.1 ((lget zaj 1).bind fun v8=>(Dimpl_with t2 (Pl.mk zs zt zu zdf)).bind fun v9=>(self (v7.2,v8,v9)).bind fun v10=>some v10) (some (false,v7.2)))
theorem Timpl_checker_right_1{Y}(n:Nat)(self:(Int×Sol×(List Pl))→Option (Bool×Int))(hself:∀(a:(Int×Sol×(List Pl))) (r:(Bool×Int)),self a=some r→Big Tryz.prog H Y (.call 113 [.ptr 1000 0,eF a.2.1,.sl false 4 a.2.2.length ((ePl).f a.2.2)] (lk [(1000,⟨true,0,[i64 a.1]⟩)]) (bl r.1) (lk [(1000,⟨true,0,[i64 r.2]⟩)])))(t2:List Pl)(t59 zk:Bool)(zl zm zn zai:Int)(zaj:List Sol)(zs zt zu zdf zat:Int)(r:(Bool×Int))(h:Dimpl_checker_right_1 n self t2 t59 zk zl zm zn zai zaj zs zt zu zdf zat=some r):Wk Tryz.prog H Y 113 [.code (cp [1,1,1,1,1,0,1] (bodyOf Tryz.f113)),.code (cp [1,1,1,1,1,1] (bodyOf Tryz.f113))] (FinX Tryz.prog Tryz.f113 [(1000,⟨true,0,[.bad]⟩)] (bl r.1) [(1000,⟨true,0,[i64 r.2]⟩)]) ⟨[(0,.ptr 1000 0),(2,.sl false 4 t2.length ((ePl).f t2)),(4,.ptr 4 0),(7,.ptr 7 0),(59,bl t59)],[(4,⟨true,0,[bl zk,i64 zl,i64 zm,i64 zn,i64 zai,.sl false 6 zaj.length ((eSol false).f zaj)]⟩),(7,⟨true,0,[i64 zs,i64 zt,i64 zu,i64 zdf]⟩),(1000,⟨true,0,[i64 zat]⟩)]⟩:=by
 unfold Dimpl_checker_right_1 at h
 refine x_frk 0 [] onil h (by kernel_rfl) (fun h=>?_) (fun h=>?_)
 ·replace h:=sj h;subst h
  exact x_end 4 [] [] onil onil 
 ·obtain⟨v5,y5,h⟩:=bm h
  obtain⟨v6,y6,h⟩:=bm h
  obtain⟨v7,y7,h⟩:=bm h
  refine x_frk 14 [(3,.val (.cptr ((eSol false).c v5++(eSol false).f ((zaj).drop (Int.toNat 0+1))))),(4,.call [] [] (.sl false 4 v6.length ((ePl).f v6)) []),(0,.call [] [] (bl v7.1) [(1000,⟨true,0,[i64 v7.2]⟩)])] (ocons (ix (eSol false) y5) (ocons (shSl (L:=v6) ePl ePl sPl (Timpl_with (Y:=Y) t2 (Pl.mk zl zm zn zai) _ y6)) (ocons (hself (zat,v5,v6) _ y7) onil))) h (by kernel_rfl) (fun h=>?_) (fun h=>?_)
  ·obtain⟨v8,y8,h⟩:=bm h
   obtain⟨v9,y9,h⟩:=bm h
   obtain⟨v10,y10,h⟩:=bm h
   replace h:=sj h;subst h
   exact x_end 12 [(3,.val (.cptr ((eSol false).c v8++(eSol false).f ((zaj).drop (Int.toNat 1+1))))),(3,.call [] [] (.sl false 4 v9.length ((ePl).f v9)) []),(0,.call [] [] (bl v10.1) [(1000,⟨true,0,[i64 v10.2]⟩)])] [] (ocons (ix (eSol false) y8) (ocons (shSl (L:=v9) ePl ePl sPl (Timpl_with (Y:=Y) t2 (Pl.mk zs zt zu zdf) _ y9)) (ocons (hself (v7.2,v8,v9) _ y10) onil))) onil 
  ·replace h:=sj h;subst h
   exact x_end 12 [] [] onil onil 
def Dimpl_checker_right_0(n:Nat)(self:(Int×Sol×(List Pl))→Option (Bool×Int))(t2:List Pl)(t45 zk:Bool)(zl zm zn zai:Int)(zaj:List Sol)(zat:Int):Option (Bool×Int) :=
 frk t45 (some (false,zat)) ((Dimpl_flip (Pl.mk zl zm zn zai)).bind fun v2=>(Dimpl_room n t2 (Pl.mk zl zm zn zai)).bind fun v3=>frk (!v3) (some (false,zat)) ((Dimpl_room n t2 v2).bind fun v4=>Dimpl_checker_right_1 n self t2 (!v4) zk zl zm zn zai zaj v2.A v2.B v2.C v2.D zat))
theorem Timpl_checker_right_0{Y}(n:Nat)(self:(Int×Sol×(List Pl))→Option (Bool×Int))(hself:∀(a:(Int×Sol×(List Pl))) (r:(Bool×Int)),self a=some r→Big Tryz.prog H Y (.call 113 [.ptr 1000 0,eF a.2.1,.sl false 4 a.2.2.length ((ePl).f a.2.2)] (lk [(1000,⟨true,0,[i64 a.1]⟩)]) (bl r.1) (lk [(1000,⟨true,0,[i64 r.2]⟩)])))(t2:List Pl)(t45 zk:Bool)(zl zm zn zai:Int)(zaj:List Sol)(zat:Int)(r:(Bool×Int))(h:Dimpl_checker_right_0 n self t2 t45 zk zl zm zn zai zaj zat=some r):Wk Tryz.prog H Y 113 [.code (cp [1,1,1,0,1] (bodyOf Tryz.f113)),.code (cp [1,1,1,1] (bodyOf Tryz.f113))] (FinX Tryz.prog Tryz.f113 [(1000,⟨true,0,[.bad]⟩)] (bl r.1) [(1000,⟨true,0,[i64 r.2]⟩)]) ⟨[(0,.ptr 1000 0),(2,.sl false 4 t2.length ((ePl).f t2)),(4,.ptr 4 0),(45,bl t45)],[(4,⟨true,0,[bl zk,i64 zl,i64 zm,i64 zn,i64 zai,.sl false 6 zaj.length ((eSol false).f zaj)]⟩),(1000,⟨true,0,[i64 zat]⟩)]⟩:=by
 unfold Dimpl_checker_right_0 at h
 refine x_frk 0 [] onil h (by kernel_rfl) (fun h=>?_) (fun h=>?_)
 ·replace h:=sj h;subst h
  exact x_end 4 [] [] onil onil 
 ·obtain⟨v2,y2,h⟩:=bm h
  obtain⟨v3,y3,h⟩:=bm h
  refine x_frk 18 [(2,.call [] [] (.agg [i64 v2.A,i64 v2.B,i64 v2.C,i64 v2.D]) []),(5,.call [] [] (bl v3) [])] (ocons (Timpl_flip (Y:=Y) (Pl.mk zl zm zn zai) _ y2) (ocons (Timpl_room (Y:=Y) n t2 (Pl.mk zl zm zn zai) _ y3) onil)) h (by kernel_rfl) (fun h=>?_) (fun h=>?_)
  ·replace h:=sj h;subst h
   exact x_end 11 [] [] onil onil 
  ·obtain⟨v4,y4,h⟩:=bm h
   exact x_to 6 [(2,.call [] [] (bl v4) [])] (ocons (Timpl_room (Y:=Y) n t2 v2 _ y4) onil) (Timpl_checker_right_1 n self hself t2 (!v4) zk zl zm zn zai zaj v2.A v2.B v2.C v2.D zat r h) 
def Dimpl_checker_right_b(n:Nat)(self:(Int×Sol×(List Pl))→Option (Bool×Int))(a:(Int×Sol×(List Pl))):Option (Bool×Int) :=
 match a with
 | (a0,a1,a2)=>(Dimpl_Solid_isLeaf a1).bind fun v0=>frk v0 (some ((a1.pl.A==0&&(a1.pl.B==0&&(a1.pl.C==0&&(a1.pl.D==0&&true)))),a0)) (frk a1.inn (some (false,w64 (a0+1))) (frk ((a1.kids.length:Int) != 2) (some (false,w64 (a0+1))) (frk (decide ((w64 (a0+1))>300)) (some (false,w64 (a0+1))) (frk (decide ((a2.length:Int)≥24)) (some (false,w64 (a0+1))) ((Dimpl_PlaneOk n a1.pl).bind fun v1=>Dimpl_checker_right_0 n self a2 (!v1) a1.inn a1.pl.A a1.pl.B a1.pl.C a1.pl.D a1.kids (w64 (a0+1)))))))
def Dimpl_checker_right(n:Nat)(a0:Int)(a1:Sol)(a2:(List Pl)):Option (Bool×Int):=loopN (Dimpl_checker_right_b n) n (a0,a1,a2)
theorem Timpl_checker_right_b{Y}(n:Nat):∀(m:Nat) (a:(Int×Sol×(List Pl))) (r:(Bool×Int)),loopN (Dimpl_checker_right_b n) m a=some r→∀(_:Unit),Big Tryz.prog H Y (.call 113 [.ptr 1000 0,eF a.2.1,.sl false 4 a.2.2.length ((ePl).f a.2.2)] (lk [(1000,⟨true,0,[i64 a.1]⟩)]) (bl r.1) (lk [(1000,⟨true,0,[i64 r.2]⟩)])):=by
 refine loopN_ind (fun self hs a r h=>?_)
 have hself:∀(a:(Int×Sol×(List Pl))) (r:(Bool×Int)),self a=some r→Big Tryz.prog H Y (.call 113 [.ptr 1000 0,eF a.2.1,.sl false 4 a.2.2.length ((ePl).f a.2.2)] (lk [(1000,⟨true,0,[i64 a.1]⟩)]) (bl r.1) (lk [(1000,⟨true,0,[i64 r.2]⟩)])):=fun a r h=>hs a r h ()
 intro _
 obtain⟨a0,a1,a2⟩:=a
 unfold Dimpl_checker_right_b at h
 refine x_call (fn:=Tryz.f113) (c:=bodyOf Tryz.f113) (bs0:=[(1000,⟨true,0,[.bad]⟩)]) Tryz.func113 (by kernel_rfl) (by kernel_rfl) ?_
 obtain⟨v0,y0,h⟩:=bm h
 refine x_frk 10 [(2,.call [] [] (bl v0) [])] (ocons (Timpl_Solid_isLeaf (Y:=Y) a1 [] _ y0) onil) h (by kernel_rfl) (fun h=>?_) (fun h=>?_)
 ·replace h:=sj h;subst h
  exact x_end 8 [] [] onil onil 
 ·refine x_frk 18 [] onil h (by kernel_rfl) (fun h=>?_) (fun h=>?_)
  ·replace h:=sj h;subst h
   exact x_end 29 [] [] onil onil 
  ·refine x_frk 6 [] onil h (by kernel_rfl) (fun h=>?_) (fun h=>?_)
   ·replace h:=sj h;subst h
    exact x_end 23 [] [] onil onil 
   ·refine x_frk 7 [] onil h (by kernel_rfl) (fun h=>?_) (fun h=>?_)
    ·replace h:=sj h;subst h
     exact x_end 16 [] [] onil onil 
    ·refine x_frk 5 [] onil h (by kernel_rfl) (fun h=>?_) (fun h=>?_)
     ·replace h:=sj h;subst h
      exact x_end 11 [] [] onil onil 
     ·obtain⟨v1,y1,h⟩:=bm h
      exact x_to 6 [(2,.call [] [] (bl v1) [])] (ocons (Timpl_PlaneOk (Y:=Y) n a1.pl _ y1) onil) (Timpl_checker_right_0 n self hself a2 (!v1) a1.inn a1.pl.A a1.pl.B a1.pl.C a1.pl.D a1.kids (w64 (a0+1)) r h) 
theorem Timpl_checker_right{Y}(n:Nat)(a0:Int)(a1:Sol)(a2:(List Pl))(r:(Bool×Int))(h:Dimpl_checker_right n a0 a1 a2=some r):Big Tryz.prog H Y (.call 113 [.ptr 1000 0,eF a1,.sl false 4 a2.length ((ePl).f a2)] (lk [(1000,⟨true,0,[i64 a0]⟩)]) (bl r.1) (lk [(1000,⟨true,0,[i64 r.2]⟩)])):=Timpl_checker_right_b n n (a0,a1,a2) r h ()
def Dimpl_SolidOk(n:Nat)(a0:Sol):Option Bool :=
 (Dimpl_checker_right n 0 a0 []).bind fun v0=>some v0.1
theorem Timpl_SolidOk{Y}(n:Nat)(a0:Sol)(r:Bool)(h:Dimpl_SolidOk n a0=some r):Big Tryz.prog H Y (.call 47 [eF a0] (lk []) (bl r) (lk [])):=by
 unfold Dimpl_SolidOk at h
 refine x_call (fn:=Tryz.f47) (c:=bodyOf Tryz.f47) (bs0:=[]) Tryz.func47 (by kernel_rfl) (by kernel_rfl) ?_
 obtain⟨v0,y0,h⟩:=bm h
 replace h:=sj h;subst h
 exact x_end 15 [(4,.call [(false,4)] [] (bl v0.1) [(1000,⟨true,0,[i64 v0.2]⟩)])] [] (ocons (Timpl_checker_right (Y:=Y) n 0 a0 [] _ y0) onil) onil 
def Dslices_EqualFuncfimpl_SameTree_in_0(_n:Nat)(self:(Sol×Sol)→Option Bool)(t1 t15:List Sol)(t16:Int)(rec0:Int→Option Bool)(a:Int):Option Bool :=
 match a with
 | t17=>frk (decide (t17<t16)) ((lget t15 t17).bind fun v0=>(lget t1 t17).bind fun v1=>(self (v0,v1)).bind fun v2=>frk (!v2) (some false) (rec0 (w64 (t17+1)))) (some true)
theorem Tslices_EqualFuncfimpl_SameTree_in_0{Y}(n:Nat)(self:(Sol×Sol)→Option Bool)(hself:∀(a:(Sol×Sol)) (r:Bool),self a=some r→Big Tryz.prog H Y (.call 40 [eF a.1,eF a.2] (lk []) (bl r) (lk [])))(t1 t15:List Sol)(t16:Int):∀(m:Nat) (a:Int) (r:Bool),loopN (Dslices_EqualFuncfimpl_SameTree_in_0 n self t1 t15 t16) m a=some r→Wk Tryz.prog H Y 106 [.code (cp [1,1,0,1,0] (bodyOf Tryz.f106)),.blk 0,.code (cp [1,1,1] (bodyOf Tryz.f106))] (FinX Tryz.prog Tryz.f106 [] (bl r) []) ⟨[(1,.sl false 6 t1.length ((eSol false).f t1)),(2,.lit (.func (.func 40) #[] #[])),(15,.sl false 6 t15.length ((eSol false).f t15)),(16,i64 t16),(17,i64 a)],[]⟩:=by
 refine loopN_ind (fun _rec0 hrec0 a r h=>?_)
 obtain⟨t17,rfl⟩:∃x,x=a:=⟨a,rfl⟩
 unfold Dslices_EqualFuncfimpl_SameTree_in_0 at h
 refine x_frk 6 [] onil h (by kernel_rfl) (fun h=>?_) (fun h=>?_)
 ·obtain⟨v0,y0,h⟩:=bm h
  obtain⟨v1,y1,h⟩:=bm h
  obtain⟨v2,y2,h⟩:=bm h
  refine x_frk 29 [(1,.val (.cptr ((eSol false).c v0++(eSol false).f ((t15).drop (Int.toNat t17+1))))),(6,.val (.cptr ((eSol false).c v1++(eSol false).f ((t1).drop (Int.toNat t17+1))))),(6,.call [] [] (bl v2) [])] (ocons (ix (eSol false) y0) (ocons (ix (eSol false) y1) (ocons (hself (v0,v1) _ y2) onil))) h (by kernel_rfl) (fun h=>?_) (fun h=>?_)
  ·replace h:=sj h;subst h
   exact x_end 4 [] [] onil onil 
  ·exact x_to 7 [] onil (hrec0 (w64 (t17+1)) r h) 
 ·replace h:=sj h;subst h
  exact x_end 5 [] [] onil onil 
def Dslices_EqualFuncfimpl_SameTree_in(n:Nat)(self:(Sol×Sol)→Option Bool)(a0:(List Sol))(a1:(List Sol)):Option Bool :=
 frk ((a0.length:Int) != (a1.length:Int)) (some false) (loopN (Dslices_EqualFuncfimpl_SameTree_in_0 n self a1 a0 (a0.length:Int)) n 0)
theorem Tslices_EqualFuncfimpl_SameTree_in{Y}(n:Nat)(self:(Sol×Sol)→Option Bool)(hself:∀(a:(Sol×Sol)) (r:Bool),self a=some r→Big Tryz.prog H Y (.call 40 [eF a.1,eF a.2] (lk []) (bl r) (lk [])))(a0:(List Sol))(a1:(List Sol))(r:Bool)(h:Dslices_EqualFuncfimpl_SameTree_in n self a0 a1=some r):Big Tryz.prog H Y (.call 106 [.sl false 6 a0.length ((eSol false).f a0),.sl false 6 a1.length ((eSol false).f a1),.lit (.func (.func 40) #[] #[])] (lk []) (bl r) (lk [])):=by
 unfold Dslices_EqualFuncfimpl_SameTree_in at h
 refine x_call (fn:=Tryz.f106) (c:=bodyOf Tryz.f106) (bs0:=[]) Tryz.func106 (by kernel_rfl) (by kernel_rfl) ?_
 refine x_frk 13 [] onil h (by kernel_rfl) (fun h=>?_) (fun h=>?_)
 ·replace h:=sj h;subst h
  exact x_end 4 [] [] onil onil 
 ·exact x_to 9 [] onil (Tslices_EqualFuncfimpl_SameTree_in_0 n self hself a1 a0 (a0.length:Int) n 0 r h) 
def Dimpl_SameTree_b(n:Nat)(self:(Sol×Sol)→Option Bool)(a:(Sol×Sol)):Option Bool :=
 match a with
 | (a0,a1)=>frk (a0.inn==a1.inn) (frk (a0.pl.A==a1.pl.A&&(a0.pl.B==a1.pl.B&&(a0.pl.C==a1.pl.C&&(a0.pl.D==a1.pl.D&&true)))) ((Dslices_EqualFuncfimpl_SameTree_in n self a0.kids a1.kids).bind fun v0=>some v0) (some false)) (some false)
def Dimpl_SameTree(n:Nat)(a0:Sol)(a1:Sol):Option Bool:=loopN (Dimpl_SameTree_b n) n (a0,a1)
theorem Timpl_SameTree_b{Y}(n:Nat):∀(m:Nat) (a:(Sol×Sol)) (r:Bool),loopN (Dimpl_SameTree_b n) m a=some r→∀(_:Unit),Big Tryz.prog H Y (.call 40 [eF a.1,eF a.2] (lk []) (bl r) (lk [])):=by
 refine loopN_ind (fun self hs a r h=>?_)
 have hself:∀(a:(Sol×Sol)) (r:Bool),self a=some r→Big Tryz.prog H Y (.call 40 [eF a.1,eF a.2] (lk []) (bl r) (lk [])):=fun a r h=>hs a r h ()
 intro _
 obtain⟨a0,a1⟩:=a
 unfold Dimpl_SameTree_b at h
 refine x_call (fn:=Tryz.f40) (c:=bodyOf Tryz.f40) (bs0:=[]) Tryz.func40 (by kernel_rfl) (by kernel_rfl) ?_
 refine x_frk 14 [] onil h (by kernel_rfl) (fun h=>?_) (fun h=>?_)
 ·refine x_frk 7 [] onil h (by kernel_rfl) (fun h=>?_) (fun h=>?_)
  ·obtain⟨v0,y0,h⟩:=bm h
   replace h:=sj h;subst h
   exact x_end 8 [(4,.call [] [] (bl v0) [])] [] (ocons (Tslices_EqualFuncfimpl_SameTree_in (Y:=Y) n self hself a0.kids a1.kids _ y0) onil) onil 
  ·replace h:=sj h;subst h
   exact x_end 8 [] [] onil onil 
 ·replace h:=sj h;subst h
  exact x_end 15 [] [] onil onil 
theorem Timpl_SameTree{Y}(n:Nat)(a0:Sol)(a1:Sol)(r:Bool)(h:Dimpl_SameTree n a0 a1=some r):Big Tryz.prog H Y (.call 40 [eF a0,eF a1] (lk []) (bl r) (lk [])):=Timpl_SameTree_b n n (a0,a1) r h ()
def Dimpl_Solid_nodes_b(_n:Nat)(self:Sol→Option Int)(a:Sol):Option Int :=
 match a with
 | a0=>(Dimpl_Solid_isLeaf a0).bind fun v0=>frk v0 (some 0) ((lget a0.kids 0).bind fun v1=>(self v1).bind fun v2=>(lget a0.kids 1).bind fun v3=>(self v3).bind fun v4=>some (w64 ((w64 (1+v2))+v4)))
def Dimpl_Solid_nodes(n:Nat)(a0:Sol):Option Int:=loopN (Dimpl_Solid_nodes_b n) n a0
theorem Timpl_Solid_nodes_b{Y}(n:Nat):∀(m:Nat) (a:Sol) (r:Int),loopN (Dimpl_Solid_nodes_b n) m a=some r→∀(q0:List AV),Big Tryz.prog H Y (.call 108 [.cptr ([bl a.inn,i64 a.pl.A,i64 a.pl.B,i64 a.pl.C,i64 a.pl.D,.sl false 6 a.kids.length ((eSol false).f a.kids)]++q0)] (lk []) (i64 r) (lk [])):=by
 refine loopN_ind (fun self hs a r h=>?_)
 have hself:∀(a:Sol) (q0:List AV) (r:Int),self a=some r→Big Tryz.prog H Y (.call 108 [.cptr ([bl a.inn,i64 a.pl.A,i64 a.pl.B,i64 a.pl.C,i64 a.pl.D,.sl false 6 a.kids.length ((eSol false).f a.kids)]++q0)] (lk []) (i64 r) (lk [])):=fun a q0 r h=>hs a r h q0
 intro q0
 obtain⟨a0,rfl⟩:∃x,x=a:=⟨a,rfl⟩
 unfold Dimpl_Solid_nodes_b at h
 refine x_call (fn:=Tryz.f108) (c:=bodyOf Tryz.f108) (bs0:=[]) Tryz.func108 (by kernel_rfl) (by kernel_rfl) ?_
 obtain⟨v0,y0,h⟩:=bm h
 refine x_frk 10 [(2,.call [] [] (bl v0) [])] (ocons (Timpl_Solid_isLeaf (Y:=Y) a0 q0 _ y0) onil) h (by kernel_rfl) (fun h=>?_) (fun h=>?_)
 ·replace h:=sj h;subst h
  exact x_end 4 [] [] onil onil 
 ·obtain⟨v1,y1,h⟩:=bm h
  obtain⟨v2,y2,h⟩:=bm h
  obtain⟨v3,y3,h⟩:=bm h
  obtain⟨v4,y4,h⟩:=bm h
  replace h:=sj h;subst h
  exact x_end 19 [(4,.val (.cptr ((eSol false).c v1++(eSol false).f ((a0.kids).drop (Int.toNat 0+1))))),(0,.call [] [] (i64 v2) []),(5,.val (.cptr ((eSol false).c v3++(eSol false).f ((a0.kids).drop (Int.toNat 1+1))))),(0,.call [] [] (i64 v4) [])] [] (ocons (ix (eSol false) y1) (ocons (hself v1 ((eSol false).f ((a0.kids).drop (Int.toNat 0+1))) _ y2) (ocons (ix (eSol false) y3) (ocons (hself v3 ((eSol false).f ((a0.kids).drop (Int.toNat 1+1))) _ y4) onil)))) onil 
theorem Timpl_Solid_nodes{Y}(n:Nat)(a0:Sol)(q0:List AV)(r:Int)(h:Dimpl_Solid_nodes n a0=some r):Big Tryz.prog H Y (.call 108 [.cptr ([bl a0.inn,i64 a0.pl.A,i64 a0.pl.B,i64 a0.pl.C,i64 a0.pl.D,.sl false 6 a0.kids.length ((eSol false).f a0.kids)]++q0)] (lk []) (i64 r) (lk [])):=Timpl_Solid_nodes_b n n a0 r h q0
def Dimpl_Desk_held(n:Nat)(a0:Dsk):Option Int :=
 (Dimpl_Solid_nodes n a0.1.1).bind fun v0=>(Dimpl_Solid_nodes n a0.1.2.1).bind fun v1=>(Dimpl_Solid_nodes n a0.1.2.2.1).bind fun v2=>(Dimpl_Solid_nodes n a0.1.2.2.2.1).bind fun v3=>(Dimpl_Solid_nodes n a0.1.2.2.2.2.1).bind fun v4=>(Dimpl_Solid_nodes n a0.1.2.2.2.2.2.1).bind fun v5=>(Dimpl_Solid_nodes n a0.1.2.2.2.2.2.2.1).bind fun v6=>(Dimpl_Solid_nodes n a0.1.2.2.2.2.2.2.2).bind fun v7=>some (w64 ((w64 ((w64 ((w64 ((w64 ((w64 ((w64 ((w64 (0+v0))+v1))+v2))+v3))+v4))+v5))+v6))+v7))
theorem Timpl_Desk_held{Y}(n:Nat)(a0:Dsk)(q0:List AV)(r:Int)(h:Dimpl_Desk_held n a0=some r):Big Tryz.prog H Y (.call 105 [.cptr ([bl a0.1.1.inn,i64 a0.1.1.pl.A,i64 a0.1.1.pl.B,i64 a0.1.1.pl.C,i64 a0.1.1.pl.D,.sl false 6 a0.1.1.kids.length ((eSol false).f a0.1.1.kids),bl a0.1.2.1.inn,i64 a0.1.2.1.pl.A,i64 a0.1.2.1.pl.B,i64 a0.1.2.1.pl.C,i64 a0.1.2.1.pl.D,.sl false 6 a0.1.2.1.kids.length ((eSol false).f a0.1.2.1.kids),bl a0.1.2.2.1.inn,i64 a0.1.2.2.1.pl.A,i64 a0.1.2.2.1.pl.B,i64 a0.1.2.2.1.pl.C,i64 a0.1.2.2.1.pl.D,.sl false 6 a0.1.2.2.1.kids.length ((eSol false).f a0.1.2.2.1.kids),bl a0.1.2.2.2.1.inn,i64 a0.1.2.2.2.1.pl.A,i64 a0.1.2.2.2.1.pl.B,i64 a0.1.2.2.2.1.pl.C,i64 a0.1.2.2.2.1.pl.D,.sl false 6 a0.1.2.2.2.1.kids.length ((eSol false).f a0.1.2.2.2.1.kids),bl a0.1.2.2.2.2.1.inn,i64 a0.1.2.2.2.2.1.pl.A,i64 a0.1.2.2.2.2.1.pl.B,i64 a0.1.2.2.2.2.1.pl.C,i64 a0.1.2.2.2.2.1.pl.D,.sl false 6 a0.1.2.2.2.2.1.kids.length ((eSol false).f a0.1.2.2.2.2.1.kids),bl a0.1.2.2.2.2.2.1.inn,i64 a0.1.2.2.2.2.2.1.pl.A,i64 a0.1.2.2.2.2.2.1.pl.B,i64 a0.1.2.2.2.2.2.1.pl.C,i64 a0.1.2.2.2.2.2.1.pl.D,.sl false 6 a0.1.2.2.2.2.2.1.kids.length ((eSol false).f a0.1.2.2.2.2.2.1.kids),bl a0.1.2.2.2.2.2.2.1.inn,i64 a0.1.2.2.2.2.2.2.1.pl.A,i64 a0.1.2.2.2.2.2.2.1.pl.B,i64 a0.1.2.2.2.2.2.2.1.pl.C,i64 a0.1.2.2.2.2.2.2.1.pl.D,.sl false 6 a0.1.2.2.2.2.2.2.1.kids.length ((eSol false).f a0.1.2.2.2.2.2.2.1.kids),bl a0.1.2.2.2.2.2.2.2.inn,i64 a0.1.2.2.2.2.2.2.2.pl.A,i64 a0.1.2.2.2.2.2.2.2.pl.B,i64 a0.1.2.2.2.2.2.2.2.pl.C,i64 a0.1.2.2.2.2.2.2.2.pl.D,.sl false 6 a0.1.2.2.2.2.2.2.2.kids.length ((eSol false).f a0.1.2.2.2.2.2.2.2.kids),bl a0.2.1,bl a0.2.2.1,bl a0.2.2.2.1,bl a0.2.2.2.2.1,bl a0.2.2.2.2.2.1,bl a0.2.2.2.2.2.2.1,bl a0.2.2.2.2.2.2.2.1,bl a0.2.2.2.2.2.2.2.2]++q0)] (lk []) (i64 r) (lk [])):=by
 unfold Dimpl_Desk_held at h
 refine x_call (fn:=Tryz.f105) (c:=bodyOf Tryz.f105) (bs0:=[]) Tryz.func105 (by kernel_rfl) (by kernel_rfl) ?_
 obtain⟨v0,y0,h⟩:=bm h
 obtain⟨v1,y1,h⟩:=bm h
 obtain⟨v2,y2,h⟩:=bm h
 obtain⟨v3,y3,h⟩:=bm h
 obtain⟨v4,y4,h⟩:=bm h
 obtain⟨v5,y5,h⟩:=bm h
 obtain⟨v6,y6,h⟩:=bm h
 obtain⟨v7,y7,h⟩:=bm h
 replace h:=sj h;subst h
 exact x_end 283 [(12,.call [] [] (i64 v0) []),(13,.call [] [] (i64 v1) []),(13,.call [] [] (i64 v2) []),(13,.call [] [] (i64 v3) []),(13,.call [] [] (i64 v4) []),(13,.call [] [] (i64 v5) []),(13,.call [] [] (i64 v6) []),(13,.call [] [] (i64 v7) [])] [] (ocons (Timpl_Solid_nodes (Y:=Y) n a0.1.1 ([bl a0.1.2.1.inn,i64 a0.1.2.1.pl.A,i64 a0.1.2.1.pl.B,i64 a0.1.2.1.pl.C,i64 a0.1.2.1.pl.D,.sl false 6 a0.1.2.1.kids.length ((eSol false).f a0.1.2.1.kids),bl a0.1.2.2.1.inn,i64 a0.1.2.2.1.pl.A,i64 a0.1.2.2.1.pl.B,i64 a0.1.2.2.1.pl.C,i64 a0.1.2.2.1.pl.D,.sl false 6 a0.1.2.2.1.kids.length ((eSol false).f a0.1.2.2.1.kids),bl a0.1.2.2.2.1.inn,i64 a0.1.2.2.2.1.pl.A,i64 a0.1.2.2.2.1.pl.B,i64 a0.1.2.2.2.1.pl.C,i64 a0.1.2.2.2.1.pl.D,.sl false 6 a0.1.2.2.2.1.kids.length ((eSol false).f a0.1.2.2.2.1.kids),bl a0.1.2.2.2.2.1.inn,i64 a0.1.2.2.2.2.1.pl.A,i64 a0.1.2.2.2.2.1.pl.B,i64 a0.1.2.2.2.2.1.pl.C,i64 a0.1.2.2.2.2.1.pl.D,.sl false 6 a0.1.2.2.2.2.1.kids.length ((eSol false).f a0.1.2.2.2.2.1.kids),bl a0.1.2.2.2.2.2.1.inn,i64 a0.1.2.2.2.2.2.1.pl.A,i64 a0.1.2.2.2.2.2.1.pl.B,i64 a0.1.2.2.2.2.2.1.pl.C,i64 a0.1.2.2.2.2.2.1.pl.D,.sl false 6 a0.1.2.2.2.2.2.1.kids.length ((eSol false).f a0.1.2.2.2.2.2.1.kids),bl a0.1.2.2.2.2.2.2.1.inn,i64 a0.1.2.2.2.2.2.2.1.pl.A,i64 a0.1.2.2.2.2.2.2.1.pl.B,i64 a0.1.2.2.2.2.2.2.1.pl.C,i64 a0.1.2.2.2.2.2.2.1.pl.D,.sl false 6 a0.1.2.2.2.2.2.2.1.kids.length ((eSol false).f a0.1.2.2.2.2.2.2.1.kids),bl a0.1.2.2.2.2.2.2.2.inn,i64 a0.1.2.2.2.2.2.2.2.pl.A,i64 a0.1.2.2.2.2.2.2.2.pl.B,i64 a0.1.2.2.2.2.2.2.2.pl.C,i64 a0.1.2.2.2.2.2.2.2.pl.D,.sl false 6 a0.1.2.2.2.2.2.2.2.kids.length ((eSol false).f a0.1.2.2.2.2.2.2.2.kids),bl a0.2.1,bl a0.2.2.1,bl a0.2.2.2.1,bl a0.2.2.2.2.1,bl a0.2.2.2.2.2.1,bl a0.2.2.2.2.2.2.1,bl a0.2.2.2.2.2.2.2.1,bl a0.2.2.2.2.2.2.2.2]++q0) _ y0) (ocons (Timpl_Solid_nodes (Y:=Y) n a0.1.2.1 ([bl a0.1.2.2.1.inn,i64 a0.1.2.2.1.pl.A,i64 a0.1.2.2.1.pl.B,i64 a0.1.2.2.1.pl.C,i64 a0.1.2.2.1.pl.D,.sl false 6 a0.1.2.2.1.kids.length ((eSol false).f a0.1.2.2.1.kids),bl a0.1.2.2.2.1.inn,i64 a0.1.2.2.2.1.pl.A,i64 a0.1.2.2.2.1.pl.B,i64 a0.1.2.2.2.1.pl.C,i64 a0.1.2.2.2.1.pl.D,.sl false 6 a0.1.2.2.2.1.kids.length ((eSol false).f a0.1.2.2.2.1.kids),bl a0.1.2.2.2.2.1.inn,i64 a0.1.2.2.2.2.1.pl.A,i64 a0.1.2.2.2.2.1.pl.B,i64 a0.1.2.2.2.2.1.pl.C,i64 a0.1.2.2.2.2.1.pl.D,.sl false 6 a0.1.2.2.2.2.1.kids.length ((eSol false).f a0.1.2.2.2.2.1.kids),bl a0.1.2.2.2.2.2.1.inn,i64 a0.1.2.2.2.2.2.1.pl.A,i64 a0.1.2.2.2.2.2.1.pl.B,i64 a0.1.2.2.2.2.2.1.pl.C,i64 a0.1.2.2.2.2.2.1.pl.D,.sl false 6 a0.1.2.2.2.2.2.1.kids.length ((eSol false).f a0.1.2.2.2.2.2.1.kids),bl a0.1.2.2.2.2.2.2.1.inn,i64 a0.1.2.2.2.2.2.2.1.pl.A,i64 a0.1.2.2.2.2.2.2.1.pl.B,i64 a0.1.2.2.2.2.2.2.1.pl.C,i64 a0.1.2.2.2.2.2.2.1.pl.D,.sl false 6 a0.1.2.2.2.2.2.2.1.kids.length ((eSol false).f a0.1.2.2.2.2.2.2.1.kids),bl a0.1.2.2.2.2.2.2.2.inn,i64 a0.1.2.2.2.2.2.2.2.pl.A,i64 a0.1.2.2.2.2.2.2.2.pl.B,i64 a0.1.2.2.2.2.2.2.2.pl.C,i64 a0.1.2.2.2.2.2.2.2.pl.D,.sl false 6 a0.1.2.2.2.2.2.2.2.kids.length ((eSol false).f a0.1.2.2.2.2.2.2.2.kids),bl a0.2.1,bl a0.2.2.1,bl a0.2.2.2.1,bl a0.2.2.2.2.1,bl a0.2.2.2.2.2.1,bl a0.2.2.2.2.2.2.1,bl a0.2.2.2.2.2.2.2.1,bl a0.2.2.2.2.2.2.2.2]++q0) _ y1) (ocons (Timpl_Solid_nodes (Y:=Y) n a0.1.2.2.1 ([bl a0.1.2.2.2.1.inn,i64 a0.1.2.2.2.1.pl.A,i64 a0.1.2.2.2.1.pl.B,i64 a0.1.2.2.2.1.pl.C,i64 a0.1.2.2.2.1.pl.D,.sl false 6 a0.1.2.2.2.1.kids.length ((eSol false).f a0.1.2.2.2.1.kids),bl a0.1.2.2.2.2.1.inn,i64 a0.1.2.2.2.2.1.pl.A,i64 a0.1.2.2.2.2.1.pl.B,i64 a0.1.2.2.2.2.1.pl.C,i64 a0.1.2.2.2.2.1.pl.D,.sl false 6 a0.1.2.2.2.2.1.kids.length ((eSol false).f a0.1.2.2.2.2.1.kids),bl a0.1.2.2.2.2.2.1.inn,i64 a0.1.2.2.2.2.2.1.pl.A,i64 a0.1.2.2.2.2.2.1.pl.B,i64 a0.1.2.2.2.2.2.1.pl.C,i64 a0.1.2.2.2.2.2.1.pl.D,.sl false 6 a0.1.2.2.2.2.2.1.kids.length ((eSol false).f a0.1.2.2.2.2.2.1.kids),bl a0.1.2.2.2.2.2.2.1.inn,i64 a0.1.2.2.2.2.2.2.1.pl.A,i64 a0.1.2.2.2.2.2.2.1.pl.B,i64 a0.1.2.2.2.2.2.2.1.pl.C,i64 a0.1.2.2.2.2.2.2.1.pl.D,.sl false 6 a0.1.2.2.2.2.2.2.1.kids.length ((eSol false).f a0.1.2.2.2.2.2.2.1.kids),bl a0.1.2.2.2.2.2.2.2.inn,i64 a0.1.2.2.2.2.2.2.2.pl.A,i64 a0.1.2.2.2.2.2.2.2.pl.B,i64 a0.1.2.2.2.2.2.2.2.pl.C,i64 a0.1.2.2.2.2.2.2.2.pl.D,.sl false 6 a0.1.2.2.2.2.2.2.2.kids.length ((eSol false).f a0.1.2.2.2.2.2.2.2.kids),bl a0.2.1,bl a0.2.2.1,bl a0.2.2.2.1,bl a0.2.2.2.2.1,bl a0.2.2.2.2.2.1,bl a0.2.2.2.2.2.2.1,bl a0.2.2.2.2.2.2.2.1,bl a0.2.2.2.2.2.2.2.2]++q0) _ y2) (ocons (Timpl_Solid_nodes (Y:=Y) n a0.1.2.2.2.1 ([bl a0.1.2.2.2.2.1.inn,i64 a0.1.2.2.2.2.1.pl.A,i64 a0.1.2.2.2.2.1.pl.B,i64 a0.1.2.2.2.2.1.pl.C,i64 a0.1.2.2.2.2.1.pl.D,.sl false 6 a0.1.2.2.2.2.1.kids.length ((eSol false).f a0.1.2.2.2.2.1.kids),bl a0.1.2.2.2.2.2.1.inn,i64 a0.1.2.2.2.2.2.1.pl.A,i64 a0.1.2.2.2.2.2.1.pl.B,i64 a0.1.2.2.2.2.2.1.pl.C,i64 a0.1.2.2.2.2.2.1.pl.D,.sl false 6 a0.1.2.2.2.2.2.1.kids.length ((eSol false).f a0.1.2.2.2.2.2.1.kids),bl a0.1.2.2.2.2.2.2.1.inn,i64 a0.1.2.2.2.2.2.2.1.pl.A,i64 a0.1.2.2.2.2.2.2.1.pl.B,i64 a0.1.2.2.2.2.2.2.1.pl.C,i64 a0.1.2.2.2.2.2.2.1.pl.D,.sl false 6 a0.1.2.2.2.2.2.2.1.kids.length ((eSol false).f a0.1.2.2.2.2.2.2.1.kids),bl a0.1.2.2.2.2.2.2.2.inn,i64 a0.1.2.2.2.2.2.2.2.pl.A,i64 a0.1.2.2.2.2.2.2.2.pl.B,i64 a0.1.2.2.2.2.2.2.2.pl.C,i64 a0.1.2.2.2.2.2.2.2.pl.D,.sl false 6 a0.1.2.2.2.2.2.2.2.kids.length ((eSol false).f a0.1.2.2.2.2.2.2.2.kids),bl a0.2.1,bl a0.2.2.1,bl a0.2.2.2.1,bl a0.2.2.2.2.1,bl a0.2.2.2.2.2.1,bl a0.2.2.2.2.2.2.1,bl a0.2.2.2.2.2.2.2.1,bl a0.2.2.2.2.2.2.2.2]++q0) _ y3) (ocons (Timpl_Solid_nodes (Y:=Y) n a0.1.2.2.2.2.1 ([bl a0.1.2.2.2.2.2.1.inn,i64 a0.1.2.2.2.2.2.1.pl.A,i64 a0.1.2.2.2.2.2.1.pl.B,i64 a0.1.2.2.2.2.2.1.pl.C,i64 a0.1.2.2.2.2.2.1.pl.D,.sl false 6 a0.1.2.2.2.2.2.1.kids.length ((eSol false).f a0.1.2.2.2.2.2.1.kids),bl a0.1.2.2.2.2.2.2.1.inn,i64 a0.1.2.2.2.2.2.2.1.pl.A,i64 a0.1.2.2.2.2.2.2.1.pl.B,i64 a0.1.2.2.2.2.2.2.1.pl.C,i64 a0.1.2.2.2.2.2.2.1.pl.D,.sl false 6 a0.1.2.2.2.2.2.2.1.kids.length ((eSol false).f a0.1.2.2.2.2.2.2.1.kids),bl a0.1.2.2.2.2.2.2.2.inn,i64 a0.1.2.2.2.2.2.2.2.pl.A,i64 a0.1.2.2.2.2.2.2.2.pl.B,i64 a0.1.2.2.2.2.2.2.2.pl.C,i64 a0.1.2.2.2.2.2.2.2.pl.D,.sl false 6 a0.1.2.2.2.2.2.2.2.kids.length ((eSol false).f a0.1.2.2.2.2.2.2.2.kids),bl a0.2.1,bl a0.2.2.1,bl a0.2.2.2.1,bl a0.2.2.2.2.1,bl a0.2.2.2.2.2.1,bl a0.2.2.2.2.2.2.1,bl a0.2.2.2.2.2.2.2.1,bl a0.2.2.2.2.2.2.2.2]++q0) _ y4) (ocons (Timpl_Solid_nodes (Y:=Y) n a0.1.2.2.2.2.2.1 ([bl a0.1.2.2.2.2.2.2.1.inn,i64 a0.1.2.2.2.2.2.2.1.pl.A,i64 a0.1.2.2.2.2.2.2.1.pl.B,i64 a0.1.2.2.2.2.2.2.1.pl.C,i64 a0.1.2.2.2.2.2.2.1.pl.D,.sl false 6 a0.1.2.2.2.2.2.2.1.kids.length ((eSol false).f a0.1.2.2.2.2.2.2.1.kids),bl a0.1.2.2.2.2.2.2.2.inn,i64 a0.1.2.2.2.2.2.2.2.pl.A,i64 a0.1.2.2.2.2.2.2.2.pl.B,i64 a0.1.2.2.2.2.2.2.2.pl.C,i64 a0.1.2.2.2.2.2.2.2.pl.D,.sl false 6 a0.1.2.2.2.2.2.2.2.kids.length ((eSol false).f a0.1.2.2.2.2.2.2.2.kids),bl a0.2.1,bl a0.2.2.1,bl a0.2.2.2.1,bl a0.2.2.2.2.1,bl a0.2.2.2.2.2.1,bl a0.2.2.2.2.2.2.1,bl a0.2.2.2.2.2.2.2.1,bl a0.2.2.2.2.2.2.2.2]++q0) _ y5) (ocons (Timpl_Solid_nodes (Y:=Y) n a0.1.2.2.2.2.2.2.1 ([bl a0.1.2.2.2.2.2.2.2.inn,i64 a0.1.2.2.2.2.2.2.2.pl.A,i64 a0.1.2.2.2.2.2.2.2.pl.B,i64 a0.1.2.2.2.2.2.2.2.pl.C,i64 a0.1.2.2.2.2.2.2.2.pl.D,.sl false 6 a0.1.2.2.2.2.2.2.2.kids.length ((eSol false).f a0.1.2.2.2.2.2.2.2.kids),bl a0.2.1,bl a0.2.2.1,bl a0.2.2.2.1,bl a0.2.2.2.2.1,bl a0.2.2.2.2.2.1,bl a0.2.2.2.2.2.2.1,bl a0.2.2.2.2.2.2.2.1,bl a0.2.2.2.2.2.2.2.2]++q0) _ y6) (ocons (Timpl_Solid_nodes (Y:=Y) n a0.1.2.2.2.2.2.2.2 ([bl a0.2.1,bl a0.2.2.1,bl a0.2.2.2.1,bl a0.2.2.2.2.1,bl a0.2.2.2.2.2.1,bl a0.2.2.2.2.2.2.1,bl a0.2.2.2.2.2.2.2.1,bl a0.2.2.2.2.2.2.2.2]++q0) _ y7) onil)))))))) onil 
def Dimpl_DeskOk_7(n:Nat)(a0:Dsk)(t26:Bool):Option Bool :=
 frk t26 (some false) ((Dimpl_Desk_held n a0).bind fun v16=>some (decide (v16≤900)))
theorem Timpl_DeskOk_7{Y}(n:Nat)(a0:Dsk)(t26 r:Bool)(h:Dimpl_DeskOk_7 n a0 t26=some r):Wk Tryz.prog H Y 37 [.code (cp [1,0,1,0,0,1,1,0,0,1,1] (bodyOf Tryz.f37)),.blk 1,.code (cp [1,0,1,0,0,1,1,1] (bodyOf Tryz.f37)),.lp (cp [1,0,1,0] (bodyOf Tryz.f37)),.blk 0,.code (cp [1,1] (bodyOf Tryz.f37))] (FinX Tryz.prog Tryz.f37 [] (bl r) []) ⟨[(1,.ptr 1 0),(6,.agg [bl a0.1.1.inn,i64 a0.1.1.pl.A,i64 a0.1.1.pl.B,i64 a0.1.1.pl.C,i64 a0.1.1.pl.D,.sl false 6 a0.1.1.kids.length ((eSol false).f a0.1.1.kids),bl a0.1.2.1.inn,i64 a0.1.2.1.pl.A,i64 a0.1.2.1.pl.B,i64 a0.1.2.1.pl.C,i64 a0.1.2.1.pl.D,.sl false 6 a0.1.2.1.kids.length ((eSol false).f a0.1.2.1.kids),bl a0.1.2.2.1.inn,i64 a0.1.2.2.1.pl.A,i64 a0.1.2.2.1.pl.B,i64 a0.1.2.2.1.pl.C,i64 a0.1.2.2.1.pl.D,.sl false 6 a0.1.2.2.1.kids.length ((eSol false).f a0.1.2.2.1.kids),bl a0.1.2.2.2.1.inn,i64 a0.1.2.2.2.1.pl.A,i64 a0.1.2.2.2.1.pl.B,i64 a0.1.2.2.2.1.pl.C,i64 a0.1.2.2.2.1.pl.D,.sl false 6 a0.1.2.2.2.1.kids.length ((eSol false).f a0.1.2.2.2.1.kids),bl a0.1.2.2.2.2.1.inn,i64 a0.1.2.2.2.2.1.pl.A,i64 a0.1.2.2.2.2.1.pl.B,i64 a0.1.2.2.2.2.1.pl.C,i64 a0.1.2.2.2.2.1.pl.D,.sl false 6 a0.1.2.2.2.2.1.kids.length ((eSol false).f a0.1.2.2.2.2.1.kids),bl a0.1.2.2.2.2.2.1.inn,i64 a0.1.2.2.2.2.2.1.pl.A,i64 a0.1.2.2.2.2.2.1.pl.B,i64 a0.1.2.2.2.2.2.1.pl.C,i64 a0.1.2.2.2.2.2.1.pl.D,.sl false 6 a0.1.2.2.2.2.2.1.kids.length ((eSol false).f a0.1.2.2.2.2.2.1.kids),bl a0.1.2.2.2.2.2.2.1.inn,i64 a0.1.2.2.2.2.2.2.1.pl.A,i64 a0.1.2.2.2.2.2.2.1.pl.B,i64 a0.1.2.2.2.2.2.2.1.pl.C,i64 a0.1.2.2.2.2.2.2.1.pl.D,.sl false 6 a0.1.2.2.2.2.2.2.1.kids.length ((eSol false).f a0.1.2.2.2.2.2.2.1.kids),bl a0.1.2.2.2.2.2.2.2.inn,i64 a0.1.2.2.2.2.2.2.2.pl.A,i64 a0.1.2.2.2.2.2.2.2.pl.B,i64 a0.1.2.2.2.2.2.2.2.pl.C,i64 a0.1.2.2.2.2.2.2.2.pl.D,.sl false 6 a0.1.2.2.2.2.2.2.2.kids.length ((eSol false).f a0.1.2.2.2.2.2.2.2.kids)]),(7,i64 7),(26,bl t26)],[(1,⟨true,0,(cT38 a0)⟩)]⟩:=by
 unfold Dimpl_DeskOk_7 at h
 refine x_frk 0 [] onil h (by kernel_rfl) (fun h=>?_) (fun h=>?_)
 ·replace h:=sj h;subst h
  exact x_end 4 [] [] onil onil 
 ·obtain⟨v16,y16,h⟩:=bm h
  replace h:=sj h;subst h
  exact x_end 21 [(3,.call [] [] (i64 v16) [])] [] (ocons (Timpl_Desk_held (Y:=Y) n a0 [] _ y16) onil) onil 
def Dimpl_DeskOk_8(n:Nat)(a0:Dsk):Option Bool :=
 (Dimpl_Desk_held n a0).bind fun v17=>some (decide (v17≤900))
theorem Timpl_DeskOk_8{Y}(n:Nat)(a0:Dsk)(r:Bool)(h:Dimpl_DeskOk_8 n a0=some r):Wk Tryz.prog H Y 37 [.code (cp [1,0,1,0] (bodyOf Tryz.f37)),.blk 0,.code (cp [1,1] (bodyOf Tryz.f37))] (FinX Tryz.prog Tryz.f37 [] (bl r) []) ⟨[(1,.ptr 1 0),(6,.agg [bl a0.1.1.inn,i64 a0.1.1.pl.A,i64 a0.1.1.pl.B,i64 a0.1.1.pl.C,i64 a0.1.1.pl.D,.sl false 6 a0.1.1.kids.length ((eSol false).f a0.1.1.kids),bl a0.1.2.1.inn,i64 a0.1.2.1.pl.A,i64 a0.1.2.1.pl.B,i64 a0.1.2.1.pl.C,i64 a0.1.2.1.pl.D,.sl false 6 a0.1.2.1.kids.length ((eSol false).f a0.1.2.1.kids),bl a0.1.2.2.1.inn,i64 a0.1.2.2.1.pl.A,i64 a0.1.2.2.1.pl.B,i64 a0.1.2.2.1.pl.C,i64 a0.1.2.2.1.pl.D,.sl false 6 a0.1.2.2.1.kids.length ((eSol false).f a0.1.2.2.1.kids),bl a0.1.2.2.2.1.inn,i64 a0.1.2.2.2.1.pl.A,i64 a0.1.2.2.2.1.pl.B,i64 a0.1.2.2.2.1.pl.C,i64 a0.1.2.2.2.1.pl.D,.sl false 6 a0.1.2.2.2.1.kids.length ((eSol false).f a0.1.2.2.2.1.kids),bl a0.1.2.2.2.2.1.inn,i64 a0.1.2.2.2.2.1.pl.A,i64 a0.1.2.2.2.2.1.pl.B,i64 a0.1.2.2.2.2.1.pl.C,i64 a0.1.2.2.2.2.1.pl.D,.sl false 6 a0.1.2.2.2.2.1.kids.length ((eSol false).f a0.1.2.2.2.2.1.kids),bl a0.1.2.2.2.2.2.1.inn,i64 a0.1.2.2.2.2.2.1.pl.A,i64 a0.1.2.2.2.2.2.1.pl.B,i64 a0.1.2.2.2.2.2.1.pl.C,i64 a0.1.2.2.2.2.2.1.pl.D,.sl false 6 a0.1.2.2.2.2.2.1.kids.length ((eSol false).f a0.1.2.2.2.2.2.1.kids),bl a0.1.2.2.2.2.2.2.1.inn,i64 a0.1.2.2.2.2.2.2.1.pl.A,i64 a0.1.2.2.2.2.2.2.1.pl.B,i64 a0.1.2.2.2.2.2.2.1.pl.C,i64 a0.1.2.2.2.2.2.2.1.pl.D,.sl false 6 a0.1.2.2.2.2.2.2.1.kids.length ((eSol false).f a0.1.2.2.2.2.2.2.1.kids),bl a0.1.2.2.2.2.2.2.2.inn,i64 a0.1.2.2.2.2.2.2.2.pl.A,i64 a0.1.2.2.2.2.2.2.2.pl.B,i64 a0.1.2.2.2.2.2.2.2.pl.C,i64 a0.1.2.2.2.2.2.2.2.pl.D,.sl false 6 a0.1.2.2.2.2.2.2.2.kids.length ((eSol false).f a0.1.2.2.2.2.2.2.2.kids)]),(7,i64 8)],[(1,⟨true,0,(cT38 a0)⟩)]⟩:=by
 unfold Dimpl_DeskOk_8 at h
 obtain⟨v17,y17,h⟩:=bm h
 replace h:=sj h;subst h
 exact x_end 14 [(1,.call [] [] (i64 v17) [])] [] (ocons (Timpl_Desk_held (Y:=Y) n a0 [] _ y17) onil) onil 
def Dimpl_DeskOk_6(n:Nat)(a0:Dsk)(t26:Bool):Option Bool :=
 frk t26 (some false) ((Dimpl_SolidOk n a0.1.2.2.2.2.2.2.2).bind fun v14=>frk (!v14) (some false) (frk (!a0.2.2.2.2.2.2.2.2) ((Dimpl_SameTree n a0.1.2.2.2.2.2.2.2 (Sol.mk false (Pl.mk 0 0 0 0) [])).bind fun v15=>Dimpl_DeskOk_7 n a0 (!v15)) (Dimpl_DeskOk_8 n a0)))
theorem Timpl_DeskOk_6{Y}(n:Nat)(a0:Dsk)(t26 r:Bool)(h:Dimpl_DeskOk_6 n a0 t26=some r):Wk Tryz.prog H Y 37 [.code (cp [1,0,1,0,0,1,1,0,0,1,1] (bodyOf Tryz.f37)),.blk 1,.code (cp [1,0,1,0,0,1,1,1] (bodyOf Tryz.f37)),.lp (cp [1,0,1,0] (bodyOf Tryz.f37)),.blk 0,.code (cp [1,1] (bodyOf Tryz.f37))] (FinX Tryz.prog Tryz.f37 [] (bl r) []) ⟨[(1,.ptr 1 0),(6,.agg [bl a0.1.1.inn,i64 a0.1.1.pl.A,i64 a0.1.1.pl.B,i64 a0.1.1.pl.C,i64 a0.1.1.pl.D,.sl false 6 a0.1.1.kids.length ((eSol false).f a0.1.1.kids),bl a0.1.2.1.inn,i64 a0.1.2.1.pl.A,i64 a0.1.2.1.pl.B,i64 a0.1.2.1.pl.C,i64 a0.1.2.1.pl.D,.sl false 6 a0.1.2.1.kids.length ((eSol false).f a0.1.2.1.kids),bl a0.1.2.2.1.inn,i64 a0.1.2.2.1.pl.A,i64 a0.1.2.2.1.pl.B,i64 a0.1.2.2.1.pl.C,i64 a0.1.2.2.1.pl.D,.sl false 6 a0.1.2.2.1.kids.length ((eSol false).f a0.1.2.2.1.kids),bl a0.1.2.2.2.1.inn,i64 a0.1.2.2.2.1.pl.A,i64 a0.1.2.2.2.1.pl.B,i64 a0.1.2.2.2.1.pl.C,i64 a0.1.2.2.2.1.pl.D,.sl false 6 a0.1.2.2.2.1.kids.length ((eSol false).f a0.1.2.2.2.1.kids),bl a0.1.2.2.2.2.1.inn,i64 a0.1.2.2.2.2.1.pl.A,i64 a0.1.2.2.2.2.1.pl.B,i64 a0.1.2.2.2.2.1.pl.C,i64 a0.1.2.2.2.2.1.pl.D,.sl false 6 a0.1.2.2.2.2.1.kids.length ((eSol false).f a0.1.2.2.2.2.1.kids),bl a0.1.2.2.2.2.2.1.inn,i64 a0.1.2.2.2.2.2.1.pl.A,i64 a0.1.2.2.2.2.2.1.pl.B,i64 a0.1.2.2.2.2.2.1.pl.C,i64 a0.1.2.2.2.2.2.1.pl.D,.sl false 6 a0.1.2.2.2.2.2.1.kids.length ((eSol false).f a0.1.2.2.2.2.2.1.kids),bl a0.1.2.2.2.2.2.2.1.inn,i64 a0.1.2.2.2.2.2.2.1.pl.A,i64 a0.1.2.2.2.2.2.2.1.pl.B,i64 a0.1.2.2.2.2.2.2.1.pl.C,i64 a0.1.2.2.2.2.2.2.1.pl.D,.sl false 6 a0.1.2.2.2.2.2.2.1.kids.length ((eSol false).f a0.1.2.2.2.2.2.2.1.kids),bl a0.1.2.2.2.2.2.2.2.inn,i64 a0.1.2.2.2.2.2.2.2.pl.A,i64 a0.1.2.2.2.2.2.2.2.pl.B,i64 a0.1.2.2.2.2.2.2.2.pl.C,i64 a0.1.2.2.2.2.2.2.2.pl.D,.sl false 6 a0.1.2.2.2.2.2.2.2.kids.length ((eSol false).f a0.1.2.2.2.2.2.2.2.kids)]),(7,i64 6),(26,bl t26)],[(1,⟨true,0,(cT38 a0)⟩)]⟩:=by
 unfold Dimpl_DeskOk_6 at h
 refine x_frk 0 [] onil h (by kernel_rfl) (fun h=>?_) (fun h=>?_)
 ·replace h:=sj h;subst h
  exact x_end 4 [] [] onil onil 
 ·obtain⟨v14,y14,h⟩:=bm h
  refine x_frk 31 [(9,.call [] [] (bl v14) [])] (ocons (Timpl_SolidOk (Y:=Y) n a0.1.2.2.2.2.2.2.2 _ y14) onil) h (by kernel_rfl) (fun h=>?_) (fun h=>?_)
  ·replace h:=sj h;subst h
   exact x_end 18 [] [] onil onil 
  ·refine x_frk 6 [] onil h (by kernel_rfl) (fun h=>?_) (fun h=>?_)
   ·obtain⟨v15,y15,h⟩:=bm h
    exact x_to 7 [(2,.call [(false,6)] [] (bl v15) [])] (ocons (Timpl_SameTree (Y:=Y) n a0.1.2.2.2.2.2.2.2 (Sol.mk false (Pl.mk 0 0 0 0) []) _ y15) onil) (Timpl_DeskOk_7 n a0 (!v15) r h) 
   ·exact x_to 15 [] onil (Timpl_DeskOk_8 n a0 r h) 
def Dimpl_DeskOk_9(n:Nat)(a0:Dsk):Option Bool :=
 (Dimpl_SolidOk n a0.1.2.2.2.2.2.2.2).bind fun v18=>frk (!v18) (some false) (frk (!a0.2.2.2.2.2.2.2.2) ((Dimpl_SameTree n a0.1.2.2.2.2.2.2.2 (Sol.mk false (Pl.mk 0 0 0 0) [])).bind fun v19=>Dimpl_DeskOk_7 n a0 (!v19)) (Dimpl_DeskOk_8 n a0))
theorem Timpl_DeskOk_9{Y}(n:Nat)(a0:Dsk)(r:Bool)(h:Dimpl_DeskOk_9 n a0=some r):Wk Tryz.prog H Y 37 [.code (cp [1,0,1,0] (bodyOf Tryz.f37)),.blk 0,.code (cp [1,1] (bodyOf Tryz.f37))] (FinX Tryz.prog Tryz.f37 [] (bl r) []) ⟨[(1,.ptr 1 0),(6,.agg [bl a0.1.1.inn,i64 a0.1.1.pl.A,i64 a0.1.1.pl.B,i64 a0.1.1.pl.C,i64 a0.1.1.pl.D,.sl false 6 a0.1.1.kids.length ((eSol false).f a0.1.1.kids),bl a0.1.2.1.inn,i64 a0.1.2.1.pl.A,i64 a0.1.2.1.pl.B,i64 a0.1.2.1.pl.C,i64 a0.1.2.1.pl.D,.sl false 6 a0.1.2.1.kids.length ((eSol false).f a0.1.2.1.kids),bl a0.1.2.2.1.inn,i64 a0.1.2.2.1.pl.A,i64 a0.1.2.2.1.pl.B,i64 a0.1.2.2.1.pl.C,i64 a0.1.2.2.1.pl.D,.sl false 6 a0.1.2.2.1.kids.length ((eSol false).f a0.1.2.2.1.kids),bl a0.1.2.2.2.1.inn,i64 a0.1.2.2.2.1.pl.A,i64 a0.1.2.2.2.1.pl.B,i64 a0.1.2.2.2.1.pl.C,i64 a0.1.2.2.2.1.pl.D,.sl false 6 a0.1.2.2.2.1.kids.length ((eSol false).f a0.1.2.2.2.1.kids),bl a0.1.2.2.2.2.1.inn,i64 a0.1.2.2.2.2.1.pl.A,i64 a0.1.2.2.2.2.1.pl.B,i64 a0.1.2.2.2.2.1.pl.C,i64 a0.1.2.2.2.2.1.pl.D,.sl false 6 a0.1.2.2.2.2.1.kids.length ((eSol false).f a0.1.2.2.2.2.1.kids),bl a0.1.2.2.2.2.2.1.inn,i64 a0.1.2.2.2.2.2.1.pl.A,i64 a0.1.2.2.2.2.2.1.pl.B,i64 a0.1.2.2.2.2.2.1.pl.C,i64 a0.1.2.2.2.2.2.1.pl.D,.sl false 6 a0.1.2.2.2.2.2.1.kids.length ((eSol false).f a0.1.2.2.2.2.2.1.kids),bl a0.1.2.2.2.2.2.2.1.inn,i64 a0.1.2.2.2.2.2.2.1.pl.A,i64 a0.1.2.2.2.2.2.2.1.pl.B,i64 a0.1.2.2.2.2.2.2.1.pl.C,i64 a0.1.2.2.2.2.2.2.1.pl.D,.sl false 6 a0.1.2.2.2.2.2.2.1.kids.length ((eSol false).f a0.1.2.2.2.2.2.2.1.kids),bl a0.1.2.2.2.2.2.2.2.inn,i64 a0.1.2.2.2.2.2.2.2.pl.A,i64 a0.1.2.2.2.2.2.2.2.pl.B,i64 a0.1.2.2.2.2.2.2.2.pl.C,i64 a0.1.2.2.2.2.2.2.2.pl.D,.sl false 6 a0.1.2.2.2.2.2.2.2.kids.length ((eSol false).f a0.1.2.2.2.2.2.2.2.kids)]),(7,i64 7)],[(1,⟨true,0,(cT38 a0)⟩)]⟩:=by
 unfold Dimpl_DeskOk_9 at h
 obtain⟨v18,y18,h⟩:=bm h
 refine x_frk 24 [(7,.call [] [] (bl v18) [])] (ocons (Timpl_SolidOk (Y:=Y) n a0.1.2.2.2.2.2.2.2 _ y18) onil) h (by kernel_rfl) (fun h=>?_) (fun h=>?_)
 ·replace h:=sj h;subst h
  exact x_end 18 [] [] onil onil 
 ·refine x_frk 6 [] onil h (by kernel_rfl) (fun h=>?_) (fun h=>?_)
  ·obtain⟨v19,y19,h⟩:=bm h
   exact x_to 7 [(2,.call [(false,6)] [] (bl v19) [])] (ocons (Timpl_SameTree (Y:=Y) n a0.1.2.2.2.2.2.2.2 (Sol.mk false (Pl.mk 0 0 0 0) []) _ y19) onil) (Timpl_DeskOk_7 n a0 (!v19) r h) 
  ·exact x_to 15 [] onil (Timpl_DeskOk_8 n a0 r h) 
def Dimpl_DeskOk_5(n:Nat)(a0:Dsk)(t26:Bool):Option Bool :=
 frk t26 (some false) ((Dimpl_SolidOk n a0.1.2.2.2.2.2.2.1).bind fun v12=>frk (!v12) (some false) (frk (!a0.2.2.2.2.2.2.2.1) ((Dimpl_SameTree n a0.1.2.2.2.2.2.2.1 (Sol.mk false (Pl.mk 0 0 0 0) [])).bind fun v13=>Dimpl_DeskOk_6 n a0 (!v13)) (Dimpl_DeskOk_9 n a0)))
theorem Timpl_DeskOk_5{Y}(n:Nat)(a0:Dsk)(t26 r:Bool)(h:Dimpl_DeskOk_5 n a0 t26=some r):Wk Tryz.prog H Y 37 [.code (cp [1,0,1,0,0,1,1,0,0,1,1] (bodyOf Tryz.f37)),.blk 1,.code (cp [1,0,1,0,0,1,1,1] (bodyOf Tryz.f37)),.lp (cp [1,0,1,0] (bodyOf Tryz.f37)),.blk 0,.code (cp [1,1] (bodyOf Tryz.f37))] (FinX Tryz.prog Tryz.f37 [] (bl r) []) ⟨[(1,.ptr 1 0),(6,.agg [bl a0.1.1.inn,i64 a0.1.1.pl.A,i64 a0.1.1.pl.B,i64 a0.1.1.pl.C,i64 a0.1.1.pl.D,.sl false 6 a0.1.1.kids.length ((eSol false).f a0.1.1.kids),bl a0.1.2.1.inn,i64 a0.1.2.1.pl.A,i64 a0.1.2.1.pl.B,i64 a0.1.2.1.pl.C,i64 a0.1.2.1.pl.D,.sl false 6 a0.1.2.1.kids.length ((eSol false).f a0.1.2.1.kids),bl a0.1.2.2.1.inn,i64 a0.1.2.2.1.pl.A,i64 a0.1.2.2.1.pl.B,i64 a0.1.2.2.1.pl.C,i64 a0.1.2.2.1.pl.D,.sl false 6 a0.1.2.2.1.kids.length ((eSol false).f a0.1.2.2.1.kids),bl a0.1.2.2.2.1.inn,i64 a0.1.2.2.2.1.pl.A,i64 a0.1.2.2.2.1.pl.B,i64 a0.1.2.2.2.1.pl.C,i64 a0.1.2.2.2.1.pl.D,.sl false 6 a0.1.2.2.2.1.kids.length ((eSol false).f a0.1.2.2.2.1.kids),bl a0.1.2.2.2.2.1.inn,i64 a0.1.2.2.2.2.1.pl.A,i64 a0.1.2.2.2.2.1.pl.B,i64 a0.1.2.2.2.2.1.pl.C,i64 a0.1.2.2.2.2.1.pl.D,.sl false 6 a0.1.2.2.2.2.1.kids.length ((eSol false).f a0.1.2.2.2.2.1.kids),bl a0.1.2.2.2.2.2.1.inn,i64 a0.1.2.2.2.2.2.1.pl.A,i64 a0.1.2.2.2.2.2.1.pl.B,i64 a0.1.2.2.2.2.2.1.pl.C,i64 a0.1.2.2.2.2.2.1.pl.D,.sl false 6 a0.1.2.2.2.2.2.1.kids.length ((eSol false).f a0.1.2.2.2.2.2.1.kids),bl a0.1.2.2.2.2.2.2.1.inn,i64 a0.1.2.2.2.2.2.2.1.pl.A,i64 a0.1.2.2.2.2.2.2.1.pl.B,i64 a0.1.2.2.2.2.2.2.1.pl.C,i64 a0.1.2.2.2.2.2.2.1.pl.D,.sl false 6 a0.1.2.2.2.2.2.2.1.kids.length ((eSol false).f a0.1.2.2.2.2.2.2.1.kids),bl a0.1.2.2.2.2.2.2.2.inn,i64 a0.1.2.2.2.2.2.2.2.pl.A,i64 a0.1.2.2.2.2.2.2.2.pl.B,i64 a0.1.2.2.2.2.2.2.2.pl.C,i64 a0.1.2.2.2.2.2.2.2.pl.D,.sl false 6 a0.1.2.2.2.2.2.2.2.kids.length ((eSol false).f a0.1.2.2.2.2.2.2.2.kids)]),(7,i64 5),(26,bl t26)],[(1,⟨true,0,(cT38 a0)⟩)]⟩:=by
 unfold Dimpl_DeskOk_5 at h
 refine x_frk 0 [] onil h (by kernel_rfl) (fun h=>?_) (fun h=>?_)
 ·replace h:=sj h;subst h
  exact x_end 4 [] [] onil onil 
 ·obtain⟨v12,y12,h⟩:=bm h
  refine x_frk 31 [(9,.call [] [] (bl v12) [])] (ocons (Timpl_SolidOk (Y:=Y) n a0.1.2.2.2.2.2.2.1 _ y12) onil) h (by kernel_rfl) (fun h=>?_) (fun h=>?_)
  ·replace h:=sj h;subst h
   exact x_end 18 [] [] onil onil 
  ·refine x_frk 6 [] onil h (by kernel_rfl) (fun h=>?_) (fun h=>?_)
   ·obtain⟨v13,y13,h⟩:=bm h
    exact x_to 7 [(2,.call [(false,6)] [] (bl v13) [])] (ocons (Timpl_SameTree (Y:=Y) n a0.1.2.2.2.2.2.2.1 (Sol.mk false (Pl.mk 0 0 0 0) []) _ y13) onil) (Timpl_DeskOk_6 n a0 (!v13) r h) 
   ·exact x_to 15 [] onil (Timpl_DeskOk_9 n a0 r h) 
def Dimpl_DeskOk_10(n:Nat)(a0:Dsk):Option Bool :=
 (Dimpl_SolidOk n a0.1.2.2.2.2.2.2.1).bind fun v20=>frk (!v20) (some false) (frk (!a0.2.2.2.2.2.2.2.1) ((Dimpl_SameTree n a0.1.2.2.2.2.2.2.1 (Sol.mk false (Pl.mk 0 0 0 0) [])).bind fun v21=>Dimpl_DeskOk_6 n a0 (!v21)) (Dimpl_DeskOk_9 n a0))
theorem Timpl_DeskOk_10{Y}(n:Nat)(a0:Dsk)(r:Bool)(h:Dimpl_DeskOk_10 n a0=some r):Wk Tryz.prog H Y 37 [.code (cp [1,0,1,0] (bodyOf Tryz.f37)),.blk 0,.code (cp [1,1] (bodyOf Tryz.f37))] (FinX Tryz.prog Tryz.f37 [] (bl r) []) ⟨[(1,.ptr 1 0),(6,.agg [bl a0.1.1.inn,i64 a0.1.1.pl.A,i64 a0.1.1.pl.B,i64 a0.1.1.pl.C,i64 a0.1.1.pl.D,.sl false 6 a0.1.1.kids.length ((eSol false).f a0.1.1.kids),bl a0.1.2.1.inn,i64 a0.1.2.1.pl.A,i64 a0.1.2.1.pl.B,i64 a0.1.2.1.pl.C,i64 a0.1.2.1.pl.D,.sl false 6 a0.1.2.1.kids.length ((eSol false).f a0.1.2.1.kids),bl a0.1.2.2.1.inn,i64 a0.1.2.2.1.pl.A,i64 a0.1.2.2.1.pl.B,i64 a0.1.2.2.1.pl.C,i64 a0.1.2.2.1.pl.D,.sl false 6 a0.1.2.2.1.kids.length ((eSol false).f a0.1.2.2.1.kids),bl a0.1.2.2.2.1.inn,i64 a0.1.2.2.2.1.pl.A,i64 a0.1.2.2.2.1.pl.B,i64 a0.1.2.2.2.1.pl.C,i64 a0.1.2.2.2.1.pl.D,.sl false 6 a0.1.2.2.2.1.kids.length ((eSol false).f a0.1.2.2.2.1.kids),bl a0.1.2.2.2.2.1.inn,i64 a0.1.2.2.2.2.1.pl.A,i64 a0.1.2.2.2.2.1.pl.B,i64 a0.1.2.2.2.2.1.pl.C,i64 a0.1.2.2.2.2.1.pl.D,.sl false 6 a0.1.2.2.2.2.1.kids.length ((eSol false).f a0.1.2.2.2.2.1.kids),bl a0.1.2.2.2.2.2.1.inn,i64 a0.1.2.2.2.2.2.1.pl.A,i64 a0.1.2.2.2.2.2.1.pl.B,i64 a0.1.2.2.2.2.2.1.pl.C,i64 a0.1.2.2.2.2.2.1.pl.D,.sl false 6 a0.1.2.2.2.2.2.1.kids.length ((eSol false).f a0.1.2.2.2.2.2.1.kids),bl a0.1.2.2.2.2.2.2.1.inn,i64 a0.1.2.2.2.2.2.2.1.pl.A,i64 a0.1.2.2.2.2.2.2.1.pl.B,i64 a0.1.2.2.2.2.2.2.1.pl.C,i64 a0.1.2.2.2.2.2.2.1.pl.D,.sl false 6 a0.1.2.2.2.2.2.2.1.kids.length ((eSol false).f a0.1.2.2.2.2.2.2.1.kids),bl a0.1.2.2.2.2.2.2.2.inn,i64 a0.1.2.2.2.2.2.2.2.pl.A,i64 a0.1.2.2.2.2.2.2.2.pl.B,i64 a0.1.2.2.2.2.2.2.2.pl.C,i64 a0.1.2.2.2.2.2.2.2.pl.D,.sl false 6 a0.1.2.2.2.2.2.2.2.kids.length ((eSol false).f a0.1.2.2.2.2.2.2.2.kids)]),(7,i64 6)],[(1,⟨true,0,(cT38 a0)⟩)]⟩:=by
 unfold Dimpl_DeskOk_10 at h
 obtain⟨v20,y20,h⟩:=bm h
 refine x_frk 24 [(7,.call [] [] (bl v20) [])] (ocons (Timpl_SolidOk (Y:=Y) n a0.1.2.2.2.2.2.2.1 _ y20) onil) h (by kernel_rfl) (fun h=>?_) (fun h=>?_)
 ·replace h:=sj h;subst h
  exact x_end 18 [] [] onil onil 
 ·refine x_frk 6 [] onil h (by kernel_rfl) (fun h=>?_) (fun h=>?_)
  ·obtain⟨v21,y21,h⟩:=bm h
   exact x_to 7 [(2,.call [(false,6)] [] (bl v21) [])] (ocons (Timpl_SameTree (Y:=Y) n a0.1.2.2.2.2.2.2.1 (Sol.mk false (Pl.mk 0 0 0 0) []) _ y21) onil) (Timpl_DeskOk_6 n a0 (!v21) r h) 
  ·exact x_to 15 [] onil (Timpl_DeskOk_9 n a0 r h) 
def Dimpl_DeskOk_4(n:Nat)(a0:Dsk)(t26:Bool):Option Bool :=
 frk t26 (some false) ((Dimpl_SolidOk n a0.1.2.2.2.2.2.1).bind fun v10=>frk (!v10) (some false) (frk (!a0.2.2.2.2.2.2.1) ((Dimpl_SameTree n a0.1.2.2.2.2.2.1 (Sol.mk false (Pl.mk 0 0 0 0) [])).bind fun v11=>Dimpl_DeskOk_5 n a0 (!v11)) (Dimpl_DeskOk_10 n a0)))
theorem Timpl_DeskOk_4{Y}(n:Nat)(a0:Dsk)(t26 r:Bool)(h:Dimpl_DeskOk_4 n a0 t26=some r):Wk Tryz.prog H Y 37 [.code (cp [1,0,1,0,0,1,1,0,0,1,1] (bodyOf Tryz.f37)),.blk 1,.code (cp [1,0,1,0,0,1,1,1] (bodyOf Tryz.f37)),.lp (cp [1,0,1,0] (bodyOf Tryz.f37)),.blk 0,.code (cp [1,1] (bodyOf Tryz.f37))] (FinX Tryz.prog Tryz.f37 [] (bl r) []) ⟨[(1,.ptr 1 0),(6,.agg [bl a0.1.1.inn,i64 a0.1.1.pl.A,i64 a0.1.1.pl.B,i64 a0.1.1.pl.C,i64 a0.1.1.pl.D,.sl false 6 a0.1.1.kids.length ((eSol false).f a0.1.1.kids),bl a0.1.2.1.inn,i64 a0.1.2.1.pl.A,i64 a0.1.2.1.pl.B,i64 a0.1.2.1.pl.C,i64 a0.1.2.1.pl.D,.sl false 6 a0.1.2.1.kids.length ((eSol false).f a0.1.2.1.kids),bl a0.1.2.2.1.inn,i64 a0.1.2.2.1.pl.A,i64 a0.1.2.2.1.pl.B,i64 a0.1.2.2.1.pl.C,i64 a0.1.2.2.1.pl.D,.sl false 6 a0.1.2.2.1.kids.length ((eSol false).f a0.1.2.2.1.kids),bl a0.1.2.2.2.1.inn,i64 a0.1.2.2.2.1.pl.A,i64 a0.1.2.2.2.1.pl.B,i64 a0.1.2.2.2.1.pl.C,i64 a0.1.2.2.2.1.pl.D,.sl false 6 a0.1.2.2.2.1.kids.length ((eSol false).f a0.1.2.2.2.1.kids),bl a0.1.2.2.2.2.1.inn,i64 a0.1.2.2.2.2.1.pl.A,i64 a0.1.2.2.2.2.1.pl.B,i64 a0.1.2.2.2.2.1.pl.C,i64 a0.1.2.2.2.2.1.pl.D,.sl false 6 a0.1.2.2.2.2.1.kids.length ((eSol false).f a0.1.2.2.2.2.1.kids),bl a0.1.2.2.2.2.2.1.inn,i64 a0.1.2.2.2.2.2.1.pl.A,i64 a0.1.2.2.2.2.2.1.pl.B,i64 a0.1.2.2.2.2.2.1.pl.C,i64 a0.1.2.2.2.2.2.1.pl.D,.sl false 6 a0.1.2.2.2.2.2.1.kids.length ((eSol false).f a0.1.2.2.2.2.2.1.kids),bl a0.1.2.2.2.2.2.2.1.inn,i64 a0.1.2.2.2.2.2.2.1.pl.A,i64 a0.1.2.2.2.2.2.2.1.pl.B,i64 a0.1.2.2.2.2.2.2.1.pl.C,i64 a0.1.2.2.2.2.2.2.1.pl.D,.sl false 6 a0.1.2.2.2.2.2.2.1.kids.length ((eSol false).f a0.1.2.2.2.2.2.2.1.kids),bl a0.1.2.2.2.2.2.2.2.inn,i64 a0.1.2.2.2.2.2.2.2.pl.A,i64 a0.1.2.2.2.2.2.2.2.pl.B,i64 a0.1.2.2.2.2.2.2.2.pl.C,i64 a0.1.2.2.2.2.2.2.2.pl.D,.sl false 6 a0.1.2.2.2.2.2.2.2.kids.length ((eSol false).f a0.1.2.2.2.2.2.2.2.kids)]),(7,i64 4),(26,bl t26)],[(1,⟨true,0,(cT38 a0)⟩)]⟩:=by
 unfold Dimpl_DeskOk_4 at h
 refine x_frk 0 [] onil h (by kernel_rfl) (fun h=>?_) (fun h=>?_)
 ·replace h:=sj h;subst h
  exact x_end 4 [] [] onil onil 
 ·obtain⟨v10,y10,h⟩:=bm h
  refine x_frk 31 [(9,.call [] [] (bl v10) [])] (ocons (Timpl_SolidOk (Y:=Y) n a0.1.2.2.2.2.2.1 _ y10) onil) h (by kernel_rfl) (fun h=>?_) (fun h=>?_)
  ·replace h:=sj h;subst h
   exact x_end 18 [] [] onil onil 
  ·refine x_frk 6 [] onil h (by kernel_rfl) (fun h=>?_) (fun h=>?_)
   ·obtain⟨v11,y11,h⟩:=bm h
    exact x_to 7 [(2,.call [(false,6)] [] (bl v11) [])] (ocons (Timpl_SameTree (Y:=Y) n a0.1.2.2.2.2.2.1 (Sol.mk false (Pl.mk 0 0 0 0) []) _ y11) onil) (Timpl_DeskOk_5 n a0 (!v11) r h) 
   ·exact x_to 15 [] onil (Timpl_DeskOk_10 n a0 r h) 
def Dimpl_DeskOk_11(n:Nat)(a0:Dsk):Option Bool :=
 (Dimpl_SolidOk n a0.1.2.2.2.2.2.1).bind fun v22=>frk (!v22) (some false) (frk (!a0.2.2.2.2.2.2.1) ((Dimpl_SameTree n a0.1.2.2.2.2.2.1 (Sol.mk false (Pl.mk 0 0 0 0) [])).bind fun v23=>Dimpl_DeskOk_5 n a0 (!v23)) (Dimpl_DeskOk_10 n a0))
theorem Timpl_DeskOk_11{Y}(n:Nat)(a0:Dsk)(r:Bool)(h:Dimpl_DeskOk_11 n a0=some r):Wk Tryz.prog H Y 37 [.code (cp [1,0,1,0] (bodyOf Tryz.f37)),.blk 0,.code (cp [1,1] (bodyOf Tryz.f37))] (FinX Tryz.prog Tryz.f37 [] (bl r) []) ⟨[(1,.ptr 1 0),(6,.agg [bl a0.1.1.inn,i64 a0.1.1.pl.A,i64 a0.1.1.pl.B,i64 a0.1.1.pl.C,i64 a0.1.1.pl.D,.sl false 6 a0.1.1.kids.length ((eSol false).f a0.1.1.kids),bl a0.1.2.1.inn,i64 a0.1.2.1.pl.A,i64 a0.1.2.1.pl.B,i64 a0.1.2.1.pl.C,i64 a0.1.2.1.pl.D,.sl false 6 a0.1.2.1.kids.length ((eSol false).f a0.1.2.1.kids),bl a0.1.2.2.1.inn,i64 a0.1.2.2.1.pl.A,i64 a0.1.2.2.1.pl.B,i64 a0.1.2.2.1.pl.C,i64 a0.1.2.2.1.pl.D,.sl false 6 a0.1.2.2.1.kids.length ((eSol false).f a0.1.2.2.1.kids),bl a0.1.2.2.2.1.inn,i64 a0.1.2.2.2.1.pl.A,i64 a0.1.2.2.2.1.pl.B,i64 a0.1.2.2.2.1.pl.C,i64 a0.1.2.2.2.1.pl.D,.sl false 6 a0.1.2.2.2.1.kids.length ((eSol false).f a0.1.2.2.2.1.kids),bl a0.1.2.2.2.2.1.inn,i64 a0.1.2.2.2.2.1.pl.A,i64 a0.1.2.2.2.2.1.pl.B,i64 a0.1.2.2.2.2.1.pl.C,i64 a0.1.2.2.2.2.1.pl.D,.sl false 6 a0.1.2.2.2.2.1.kids.length ((eSol false).f a0.1.2.2.2.2.1.kids),bl a0.1.2.2.2.2.2.1.inn,i64 a0.1.2.2.2.2.2.1.pl.A,i64 a0.1.2.2.2.2.2.1.pl.B,i64 a0.1.2.2.2.2.2.1.pl.C,i64 a0.1.2.2.2.2.2.1.pl.D,.sl false 6 a0.1.2.2.2.2.2.1.kids.length ((eSol false).f a0.1.2.2.2.2.2.1.kids),bl a0.1.2.2.2.2.2.2.1.inn,i64 a0.1.2.2.2.2.2.2.1.pl.A,i64 a0.1.2.2.2.2.2.2.1.pl.B,i64 a0.1.2.2.2.2.2.2.1.pl.C,i64 a0.1.2.2.2.2.2.2.1.pl.D,.sl false 6 a0.1.2.2.2.2.2.2.1.kids.length ((eSol false).f a0.1.2.2.2.2.2.2.1.kids),bl a0.1.2.2.2.2.2.2.2.inn,i64 a0.1.2.2.2.2.2.2.2.pl.A,i64 a0.1.2.2.2.2.2.2.2.pl.B,i64 a0.1.2.2.2.2.2.2.2.pl.C,i64 a0.1.2.2.2.2.2.2.2.pl.D,.sl false 6 a0.1.2.2.2.2.2.2.2.kids.length ((eSol false).f a0.1.2.2.2.2.2.2.2.kids)]),(7,i64 5)],[(1,⟨true,0,(cT38 a0)⟩)]⟩:=by
 unfold Dimpl_DeskOk_11 at h
 obtain⟨v22,y22,h⟩:=bm h
 refine x_frk 24 [(7,.call [] [] (bl v22) [])] (ocons (Timpl_SolidOk (Y:=Y) n a0.1.2.2.2.2.2.1 _ y22) onil) h (by kernel_rfl) (fun h=>?_) (fun h=>?_)
 ·replace h:=sj h;subst h
  exact x_end 18 [] [] onil onil 
 ·refine x_frk 6 [] onil h (by kernel_rfl) (fun h=>?_) (fun h=>?_)
  ·obtain⟨v23,y23,h⟩:=bm h
   exact x_to 7 [(2,.call [(false,6)] [] (bl v23) [])] (ocons (Timpl_SameTree (Y:=Y) n a0.1.2.2.2.2.2.1 (Sol.mk false (Pl.mk 0 0 0 0) []) _ y23) onil) (Timpl_DeskOk_5 n a0 (!v23) r h) 
  ·exact x_to 15 [] onil (Timpl_DeskOk_10 n a0 r h) 
def Dimpl_DeskOk_3(n:Nat)(a0:Dsk)(t26:Bool):Option Bool :=
 frk t26 (some false) ((Dimpl_SolidOk n a0.1.2.2.2.2.1).bind fun v8=>frk (!v8) (some false) (frk (!a0.2.2.2.2.2.1) ((Dimpl_SameTree n a0.1.2.2.2.2.1 (Sol.mk false (Pl.mk 0 0 0 0) [])).bind fun v9=>Dimpl_DeskOk_4 n a0 (!v9)) (Dimpl_DeskOk_11 n a0)))
theorem Timpl_DeskOk_3{Y}(n:Nat)(a0:Dsk)(t26 r:Bool)(h:Dimpl_DeskOk_3 n a0 t26=some r):Wk Tryz.prog H Y 37 [.code (cp [1,0,1,0,0,1,1,0,0,1,1] (bodyOf Tryz.f37)),.blk 1,.code (cp [1,0,1,0,0,1,1,1] (bodyOf Tryz.f37)),.lp (cp [1,0,1,0] (bodyOf Tryz.f37)),.blk 0,.code (cp [1,1] (bodyOf Tryz.f37))] (FinX Tryz.prog Tryz.f37 [] (bl r) []) ⟨[(1,.ptr 1 0),(6,.agg [bl a0.1.1.inn,i64 a0.1.1.pl.A,i64 a0.1.1.pl.B,i64 a0.1.1.pl.C,i64 a0.1.1.pl.D,.sl false 6 a0.1.1.kids.length ((eSol false).f a0.1.1.kids),bl a0.1.2.1.inn,i64 a0.1.2.1.pl.A,i64 a0.1.2.1.pl.B,i64 a0.1.2.1.pl.C,i64 a0.1.2.1.pl.D,.sl false 6 a0.1.2.1.kids.length ((eSol false).f a0.1.2.1.kids),bl a0.1.2.2.1.inn,i64 a0.1.2.2.1.pl.A,i64 a0.1.2.2.1.pl.B,i64 a0.1.2.2.1.pl.C,i64 a0.1.2.2.1.pl.D,.sl false 6 a0.1.2.2.1.kids.length ((eSol false).f a0.1.2.2.1.kids),bl a0.1.2.2.2.1.inn,i64 a0.1.2.2.2.1.pl.A,i64 a0.1.2.2.2.1.pl.B,i64 a0.1.2.2.2.1.pl.C,i64 a0.1.2.2.2.1.pl.D,.sl false 6 a0.1.2.2.2.1.kids.length ((eSol false).f a0.1.2.2.2.1.kids),bl a0.1.2.2.2.2.1.inn,i64 a0.1.2.2.2.2.1.pl.A,i64 a0.1.2.2.2.2.1.pl.B,i64 a0.1.2.2.2.2.1.pl.C,i64 a0.1.2.2.2.2.1.pl.D,.sl false 6 a0.1.2.2.2.2.1.kids.length ((eSol false).f a0.1.2.2.2.2.1.kids),bl a0.1.2.2.2.2.2.1.inn,i64 a0.1.2.2.2.2.2.1.pl.A,i64 a0.1.2.2.2.2.2.1.pl.B,i64 a0.1.2.2.2.2.2.1.pl.C,i64 a0.1.2.2.2.2.2.1.pl.D,.sl false 6 a0.1.2.2.2.2.2.1.kids.length ((eSol false).f a0.1.2.2.2.2.2.1.kids),bl a0.1.2.2.2.2.2.2.1.inn,i64 a0.1.2.2.2.2.2.2.1.pl.A,i64 a0.1.2.2.2.2.2.2.1.pl.B,i64 a0.1.2.2.2.2.2.2.1.pl.C,i64 a0.1.2.2.2.2.2.2.1.pl.D,.sl false 6 a0.1.2.2.2.2.2.2.1.kids.length ((eSol false).f a0.1.2.2.2.2.2.2.1.kids),bl a0.1.2.2.2.2.2.2.2.inn,i64 a0.1.2.2.2.2.2.2.2.pl.A,i64 a0.1.2.2.2.2.2.2.2.pl.B,i64 a0.1.2.2.2.2.2.2.2.pl.C,i64 a0.1.2.2.2.2.2.2.2.pl.D,.sl false 6 a0.1.2.2.2.2.2.2.2.kids.length ((eSol false).f a0.1.2.2.2.2.2.2.2.kids)]),(7,i64 3),(26,bl t26)],[(1,⟨true,0,(cT38 a0)⟩)]⟩:=by
 unfold Dimpl_DeskOk_3 at h
 refine x_frk 0 [] onil h (by kernel_rfl) (fun h=>?_) (fun h=>?_)
 ·replace h:=sj h;subst h
  exact x_end 4 [] [] onil onil 
 ·obtain⟨v8,y8,h⟩:=bm h
  refine x_frk 31 [(9,.call [] [] (bl v8) [])] (ocons (Timpl_SolidOk (Y:=Y) n a0.1.2.2.2.2.1 _ y8) onil) h (by kernel_rfl) (fun h=>?_) (fun h=>?_)
  ·replace h:=sj h;subst h
   exact x_end 18 [] [] onil onil 
  ·refine x_frk 6 [] onil h (by kernel_rfl) (fun h=>?_) (fun h=>?_)
   ·obtain⟨v9,y9,h⟩:=bm h
    exact x_to 7 [(2,.call [(false,6)] [] (bl v9) [])] (ocons (Timpl_SameTree (Y:=Y) n a0.1.2.2.2.2.1 (Sol.mk false (Pl.mk 0 0 0 0) []) _ y9) onil) (Timpl_DeskOk_4 n a0 (!v9) r h) 
   ·exact x_to 15 [] onil (Timpl_DeskOk_11 n a0 r h) 
def Dimpl_DeskOk_12(n:Nat)(a0:Dsk):Option Bool :=
 (Dimpl_SolidOk n a0.1.2.2.2.2.1).bind fun v24=>frk (!v24) (some false) (frk (!a0.2.2.2.2.2.1) ((Dimpl_SameTree n a0.1.2.2.2.2.1 (Sol.mk false (Pl.mk 0 0 0 0) [])).bind fun v25=>Dimpl_DeskOk_4 n a0 (!v25)) (Dimpl_DeskOk_11 n a0))
theorem Timpl_DeskOk_12{Y}(n:Nat)(a0:Dsk)(r:Bool)(h:Dimpl_DeskOk_12 n a0=some r):Wk Tryz.prog H Y 37 [.code (cp [1,0,1,0] (bodyOf Tryz.f37)),.blk 0,.code (cp [1,1] (bodyOf Tryz.f37))] (FinX Tryz.prog Tryz.f37 [] (bl r) []) ⟨[(1,.ptr 1 0),(6,.agg [bl a0.1.1.inn,i64 a0.1.1.pl.A,i64 a0.1.1.pl.B,i64 a0.1.1.pl.C,i64 a0.1.1.pl.D,.sl false 6 a0.1.1.kids.length ((eSol false).f a0.1.1.kids),bl a0.1.2.1.inn,i64 a0.1.2.1.pl.A,i64 a0.1.2.1.pl.B,i64 a0.1.2.1.pl.C,i64 a0.1.2.1.pl.D,.sl false 6 a0.1.2.1.kids.length ((eSol false).f a0.1.2.1.kids),bl a0.1.2.2.1.inn,i64 a0.1.2.2.1.pl.A,i64 a0.1.2.2.1.pl.B,i64 a0.1.2.2.1.pl.C,i64 a0.1.2.2.1.pl.D,.sl false 6 a0.1.2.2.1.kids.length ((eSol false).f a0.1.2.2.1.kids),bl a0.1.2.2.2.1.inn,i64 a0.1.2.2.2.1.pl.A,i64 a0.1.2.2.2.1.pl.B,i64 a0.1.2.2.2.1.pl.C,i64 a0.1.2.2.2.1.pl.D,.sl false 6 a0.1.2.2.2.1.kids.length ((eSol false).f a0.1.2.2.2.1.kids),bl a0.1.2.2.2.2.1.inn,i64 a0.1.2.2.2.2.1.pl.A,i64 a0.1.2.2.2.2.1.pl.B,i64 a0.1.2.2.2.2.1.pl.C,i64 a0.1.2.2.2.2.1.pl.D,.sl false 6 a0.1.2.2.2.2.1.kids.length ((eSol false).f a0.1.2.2.2.2.1.kids),bl a0.1.2.2.2.2.2.1.inn,i64 a0.1.2.2.2.2.2.1.pl.A,i64 a0.1.2.2.2.2.2.1.pl.B,i64 a0.1.2.2.2.2.2.1.pl.C,i64 a0.1.2.2.2.2.2.1.pl.D,.sl false 6 a0.1.2.2.2.2.2.1.kids.length ((eSol false).f a0.1.2.2.2.2.2.1.kids),bl a0.1.2.2.2.2.2.2.1.inn,i64 a0.1.2.2.2.2.2.2.1.pl.A,i64 a0.1.2.2.2.2.2.2.1.pl.B,i64 a0.1.2.2.2.2.2.2.1.pl.C,i64 a0.1.2.2.2.2.2.2.1.pl.D,.sl false 6 a0.1.2.2.2.2.2.2.1.kids.length ((eSol false).f a0.1.2.2.2.2.2.2.1.kids),bl a0.1.2.2.2.2.2.2.2.inn,i64 a0.1.2.2.2.2.2.2.2.pl.A,i64 a0.1.2.2.2.2.2.2.2.pl.B,i64 a0.1.2.2.2.2.2.2.2.pl.C,i64 a0.1.2.2.2.2.2.2.2.pl.D,.sl false 6 a0.1.2.2.2.2.2.2.2.kids.length ((eSol false).f a0.1.2.2.2.2.2.2.2.kids)]),(7,i64 4)],[(1,⟨true,0,(cT38 a0)⟩)]⟩:=by
 unfold Dimpl_DeskOk_12 at h
 obtain⟨v24,y24,h⟩:=bm h
 refine x_frk 24 [(7,.call [] [] (bl v24) [])] (ocons (Timpl_SolidOk (Y:=Y) n a0.1.2.2.2.2.1 _ y24) onil) h (by kernel_rfl) (fun h=>?_) (fun h=>?_)
 ·replace h:=sj h;subst h
  exact x_end 18 [] [] onil onil 
 ·refine x_frk 6 [] onil h (by kernel_rfl) (fun h=>?_) (fun h=>?_)
  ·obtain⟨v25,y25,h⟩:=bm h
   exact x_to 7 [(2,.call [(false,6)] [] (bl v25) [])] (ocons (Timpl_SameTree (Y:=Y) n a0.1.2.2.2.2.1 (Sol.mk false (Pl.mk 0 0 0 0) []) _ y25) onil) (Timpl_DeskOk_4 n a0 (!v25) r h) 
  ·exact x_to 15 [] onil (Timpl_DeskOk_11 n a0 r h) 
def Dimpl_DeskOk_2(n:Nat)(a0:Dsk)(t26:Bool):Option Bool :=
 frk t26 (some false) ((Dimpl_SolidOk n a0.1.2.2.2.1).bind fun v6=>frk (!v6) (some false) (frk (!a0.2.2.2.2.1) ((Dimpl_SameTree n a0.1.2.2.2.1 (Sol.mk false (Pl.mk 0 0 0 0) [])).bind fun v7=>Dimpl_DeskOk_3 n a0 (!v7)) (Dimpl_DeskOk_12 n a0)))
theorem Timpl_DeskOk_2{Y}(n:Nat)(a0:Dsk)(t26 r:Bool)(h:Dimpl_DeskOk_2 n a0 t26=some r):Wk Tryz.prog H Y 37 [.code (cp [1,0,1,0,0,1,1,0,0,1,1] (bodyOf Tryz.f37)),.blk 1,.code (cp [1,0,1,0,0,1,1,1] (bodyOf Tryz.f37)),.lp (cp [1,0,1,0] (bodyOf Tryz.f37)),.blk 0,.code (cp [1,1] (bodyOf Tryz.f37))] (FinX Tryz.prog Tryz.f37 [] (bl r) []) ⟨[(1,.ptr 1 0),(6,.agg [bl a0.1.1.inn,i64 a0.1.1.pl.A,i64 a0.1.1.pl.B,i64 a0.1.1.pl.C,i64 a0.1.1.pl.D,.sl false 6 a0.1.1.kids.length ((eSol false).f a0.1.1.kids),bl a0.1.2.1.inn,i64 a0.1.2.1.pl.A,i64 a0.1.2.1.pl.B,i64 a0.1.2.1.pl.C,i64 a0.1.2.1.pl.D,.sl false 6 a0.1.2.1.kids.length ((eSol false).f a0.1.2.1.kids),bl a0.1.2.2.1.inn,i64 a0.1.2.2.1.pl.A,i64 a0.1.2.2.1.pl.B,i64 a0.1.2.2.1.pl.C,i64 a0.1.2.2.1.pl.D,.sl false 6 a0.1.2.2.1.kids.length ((eSol false).f a0.1.2.2.1.kids),bl a0.1.2.2.2.1.inn,i64 a0.1.2.2.2.1.pl.A,i64 a0.1.2.2.2.1.pl.B,i64 a0.1.2.2.2.1.pl.C,i64 a0.1.2.2.2.1.pl.D,.sl false 6 a0.1.2.2.2.1.kids.length ((eSol false).f a0.1.2.2.2.1.kids),bl a0.1.2.2.2.2.1.inn,i64 a0.1.2.2.2.2.1.pl.A,i64 a0.1.2.2.2.2.1.pl.B,i64 a0.1.2.2.2.2.1.pl.C,i64 a0.1.2.2.2.2.1.pl.D,.sl false 6 a0.1.2.2.2.2.1.kids.length ((eSol false).f a0.1.2.2.2.2.1.kids),bl a0.1.2.2.2.2.2.1.inn,i64 a0.1.2.2.2.2.2.1.pl.A,i64 a0.1.2.2.2.2.2.1.pl.B,i64 a0.1.2.2.2.2.2.1.pl.C,i64 a0.1.2.2.2.2.2.1.pl.D,.sl false 6 a0.1.2.2.2.2.2.1.kids.length ((eSol false).f a0.1.2.2.2.2.2.1.kids),bl a0.1.2.2.2.2.2.2.1.inn,i64 a0.1.2.2.2.2.2.2.1.pl.A,i64 a0.1.2.2.2.2.2.2.1.pl.B,i64 a0.1.2.2.2.2.2.2.1.pl.C,i64 a0.1.2.2.2.2.2.2.1.pl.D,.sl false 6 a0.1.2.2.2.2.2.2.1.kids.length ((eSol false).f a0.1.2.2.2.2.2.2.1.kids),bl a0.1.2.2.2.2.2.2.2.inn,i64 a0.1.2.2.2.2.2.2.2.pl.A,i64 a0.1.2.2.2.2.2.2.2.pl.B,i64 a0.1.2.2.2.2.2.2.2.pl.C,i64 a0.1.2.2.2.2.2.2.2.pl.D,.sl false 6 a0.1.2.2.2.2.2.2.2.kids.length ((eSol false).f a0.1.2.2.2.2.2.2.2.kids)]),(7,i64 2),(26,bl t26)],[(1,⟨true,0,(cT38 a0)⟩)]⟩:=by
 unfold Dimpl_DeskOk_2 at h
 refine x_frk 0 [] onil h (by kernel_rfl) (fun h=>?_) (fun h=>?_)
 ·replace h:=sj h;subst h
  exact x_end 4 [] [] onil onil 
 ·obtain⟨v6,y6,h⟩:=bm h
  refine x_frk 31 [(9,.call [] [] (bl v6) [])] (ocons (Timpl_SolidOk (Y:=Y) n a0.1.2.2.2.1 _ y6) onil) h (by kernel_rfl) (fun h=>?_) (fun h=>?_)
  ·replace h:=sj h;subst h
   exact x_end 18 [] [] onil onil 
  ·refine x_frk 6 [] onil h (by kernel_rfl) (fun h=>?_) (fun h=>?_)
   ·obtain⟨v7,y7,h⟩:=bm h
    exact x_to 7 [(2,.call [(false,6)] [] (bl v7) [])] (ocons (Timpl_SameTree (Y:=Y) n a0.1.2.2.2.1 (Sol.mk false (Pl.mk 0 0 0 0) []) _ y7) onil) (Timpl_DeskOk_3 n a0 (!v7) r h) 
   ·exact x_to 15 [] onil (Timpl_DeskOk_12 n a0 r h) 
def Dimpl_DeskOk_13(n:Nat)(a0:Dsk):Option Bool :=
 (Dimpl_SolidOk n a0.1.2.2.2.1).bind fun v26=>frk (!v26) (some false) (frk (!a0.2.2.2.2.1) ((Dimpl_SameTree n a0.1.2.2.2.1 (Sol.mk false (Pl.mk 0 0 0 0) [])).bind fun v27=>Dimpl_DeskOk_3 n a0 (!v27)) (Dimpl_DeskOk_12 n a0))
theorem Timpl_DeskOk_13{Y}(n:Nat)(a0:Dsk)(r:Bool)(h:Dimpl_DeskOk_13 n a0=some r):Wk Tryz.prog H Y 37 [.code (cp [1,0,1,0] (bodyOf Tryz.f37)),.blk 0,.code (cp [1,1] (bodyOf Tryz.f37))] (FinX Tryz.prog Tryz.f37 [] (bl r) []) ⟨[(1,.ptr 1 0),(6,.agg [bl a0.1.1.inn,i64 a0.1.1.pl.A,i64 a0.1.1.pl.B,i64 a0.1.1.pl.C,i64 a0.1.1.pl.D,.sl false 6 a0.1.1.kids.length ((eSol false).f a0.1.1.kids),bl a0.1.2.1.inn,i64 a0.1.2.1.pl.A,i64 a0.1.2.1.pl.B,i64 a0.1.2.1.pl.C,i64 a0.1.2.1.pl.D,.sl false 6 a0.1.2.1.kids.length ((eSol false).f a0.1.2.1.kids),bl a0.1.2.2.1.inn,i64 a0.1.2.2.1.pl.A,i64 a0.1.2.2.1.pl.B,i64 a0.1.2.2.1.pl.C,i64 a0.1.2.2.1.pl.D,.sl false 6 a0.1.2.2.1.kids.length ((eSol false).f a0.1.2.2.1.kids),bl a0.1.2.2.2.1.inn,i64 a0.1.2.2.2.1.pl.A,i64 a0.1.2.2.2.1.pl.B,i64 a0.1.2.2.2.1.pl.C,i64 a0.1.2.2.2.1.pl.D,.sl false 6 a0.1.2.2.2.1.kids.length ((eSol false).f a0.1.2.2.2.1.kids),bl a0.1.2.2.2.2.1.inn,i64 a0.1.2.2.2.2.1.pl.A,i64 a0.1.2.2.2.2.1.pl.B,i64 a0.1.2.2.2.2.1.pl.C,i64 a0.1.2.2.2.2.1.pl.D,.sl false 6 a0.1.2.2.2.2.1.kids.length ((eSol false).f a0.1.2.2.2.2.1.kids),bl a0.1.2.2.2.2.2.1.inn,i64 a0.1.2.2.2.2.2.1.pl.A,i64 a0.1.2.2.2.2.2.1.pl.B,i64 a0.1.2.2.2.2.2.1.pl.C,i64 a0.1.2.2.2.2.2.1.pl.D,.sl false 6 a0.1.2.2.2.2.2.1.kids.length ((eSol false).f a0.1.2.2.2.2.2.1.kids),bl a0.1.2.2.2.2.2.2.1.inn,i64 a0.1.2.2.2.2.2.2.1.pl.A,i64 a0.1.2.2.2.2.2.2.1.pl.B,i64 a0.1.2.2.2.2.2.2.1.pl.C,i64 a0.1.2.2.2.2.2.2.1.pl.D,.sl false 6 a0.1.2.2.2.2.2.2.1.kids.length ((eSol false).f a0.1.2.2.2.2.2.2.1.kids),bl a0.1.2.2.2.2.2.2.2.inn,i64 a0.1.2.2.2.2.2.2.2.pl.A,i64 a0.1.2.2.2.2.2.2.2.pl.B,i64 a0.1.2.2.2.2.2.2.2.pl.C,i64 a0.1.2.2.2.2.2.2.2.pl.D,.sl false 6 a0.1.2.2.2.2.2.2.2.kids.length ((eSol false).f a0.1.2.2.2.2.2.2.2.kids)]),(7,i64 3)],[(1,⟨true,0,(cT38 a0)⟩)]⟩:=by
 unfold Dimpl_DeskOk_13 at h
 obtain⟨v26,y26,h⟩:=bm h
 refine x_frk 24 [(7,.call [] [] (bl v26) [])] (ocons (Timpl_SolidOk (Y:=Y) n a0.1.2.2.2.1 _ y26) onil) h (by kernel_rfl) (fun h=>?_) (fun h=>?_)
 ·replace h:=sj h;subst h
  exact x_end 18 [] [] onil onil 
 ·refine x_frk 6 [] onil h (by kernel_rfl) (fun h=>?_) (fun h=>?_)
  ·obtain⟨v27,y27,h⟩:=bm h
   exact x_to 7 [(2,.call [(false,6)] [] (bl v27) [])] (ocons (Timpl_SameTree (Y:=Y) n a0.1.2.2.2.1 (Sol.mk false (Pl.mk 0 0 0 0) []) _ y27) onil) (Timpl_DeskOk_3 n a0 (!v27) r h) 
  ·exact x_to 15 [] onil (Timpl_DeskOk_12 n a0 r h) 
def Dimpl_DeskOk_1(n:Nat)(a0:Dsk)(t26:Bool):Option Bool :=
 frk t26 (some false) ((Dimpl_SolidOk n a0.1.2.2.1).bind fun v4=>frk (!v4) (some false) (frk (!a0.2.2.2.1) ((Dimpl_SameTree n a0.1.2.2.1 (Sol.mk false (Pl.mk 0 0 0 0) [])).bind fun v5=>Dimpl_DeskOk_2 n a0 (!v5)) (Dimpl_DeskOk_13 n a0)))
theorem Timpl_DeskOk_1{Y}(n:Nat)(a0:Dsk)(t26 r:Bool)(h:Dimpl_DeskOk_1 n a0 t26=some r):Wk Tryz.prog H Y 37 [.code (cp [1,0,1,0,0,1,1,0,0,1,1] (bodyOf Tryz.f37)),.blk 1,.code (cp [1,0,1,0,0,1,1,1] (bodyOf Tryz.f37)),.lp (cp [1,0,1,0] (bodyOf Tryz.f37)),.blk 0,.code (cp [1,1] (bodyOf Tryz.f37))] (FinX Tryz.prog Tryz.f37 [] (bl r) []) ⟨[(1,.ptr 1 0),(6,.agg [bl a0.1.1.inn,i64 a0.1.1.pl.A,i64 a0.1.1.pl.B,i64 a0.1.1.pl.C,i64 a0.1.1.pl.D,.sl false 6 a0.1.1.kids.length ((eSol false).f a0.1.1.kids),bl a0.1.2.1.inn,i64 a0.1.2.1.pl.A,i64 a0.1.2.1.pl.B,i64 a0.1.2.1.pl.C,i64 a0.1.2.1.pl.D,.sl false 6 a0.1.2.1.kids.length ((eSol false).f a0.1.2.1.kids),bl a0.1.2.2.1.inn,i64 a0.1.2.2.1.pl.A,i64 a0.1.2.2.1.pl.B,i64 a0.1.2.2.1.pl.C,i64 a0.1.2.2.1.pl.D,.sl false 6 a0.1.2.2.1.kids.length ((eSol false).f a0.1.2.2.1.kids),bl a0.1.2.2.2.1.inn,i64 a0.1.2.2.2.1.pl.A,i64 a0.1.2.2.2.1.pl.B,i64 a0.1.2.2.2.1.pl.C,i64 a0.1.2.2.2.1.pl.D,.sl false 6 a0.1.2.2.2.1.kids.length ((eSol false).f a0.1.2.2.2.1.kids),bl a0.1.2.2.2.2.1.inn,i64 a0.1.2.2.2.2.1.pl.A,i64 a0.1.2.2.2.2.1.pl.B,i64 a0.1.2.2.2.2.1.pl.C,i64 a0.1.2.2.2.2.1.pl.D,.sl false 6 a0.1.2.2.2.2.1.kids.length ((eSol false).f a0.1.2.2.2.2.1.kids),bl a0.1.2.2.2.2.2.1.inn,i64 a0.1.2.2.2.2.2.1.pl.A,i64 a0.1.2.2.2.2.2.1.pl.B,i64 a0.1.2.2.2.2.2.1.pl.C,i64 a0.1.2.2.2.2.2.1.pl.D,.sl false 6 a0.1.2.2.2.2.2.1.kids.length ((eSol false).f a0.1.2.2.2.2.2.1.kids),bl a0.1.2.2.2.2.2.2.1.inn,i64 a0.1.2.2.2.2.2.2.1.pl.A,i64 a0.1.2.2.2.2.2.2.1.pl.B,i64 a0.1.2.2.2.2.2.2.1.pl.C,i64 a0.1.2.2.2.2.2.2.1.pl.D,.sl false 6 a0.1.2.2.2.2.2.2.1.kids.length ((eSol false).f a0.1.2.2.2.2.2.2.1.kids),bl a0.1.2.2.2.2.2.2.2.inn,i64 a0.1.2.2.2.2.2.2.2.pl.A,i64 a0.1.2.2.2.2.2.2.2.pl.B,i64 a0.1.2.2.2.2.2.2.2.pl.C,i64 a0.1.2.2.2.2.2.2.2.pl.D,.sl false 6 a0.1.2.2.2.2.2.2.2.kids.length ((eSol false).f a0.1.2.2.2.2.2.2.2.kids)]),(7,i64 1),(26,bl t26)],[(1,⟨true,0,(cT38 a0)⟩)]⟩:=by
 unfold Dimpl_DeskOk_1 at h
 refine x_frk 0 [] onil h (by kernel_rfl) (fun h=>?_) (fun h=>?_)
 ·replace h:=sj h;subst h
  exact x_end 4 [] [] onil onil 
 ·obtain⟨v4,y4,h⟩:=bm h
  refine x_frk 31 [(9,.call [] [] (bl v4) [])] (ocons (Timpl_SolidOk (Y:=Y) n a0.1.2.2.1 _ y4) onil) h (by kernel_rfl) (fun h=>?_) (fun h=>?_)
  ·replace h:=sj h;subst h
   exact x_end 18 [] [] onil onil 
  ·refine x_frk 6 [] onil h (by kernel_rfl) (fun h=>?_) (fun h=>?_)
   ·obtain⟨v5,y5,h⟩:=bm h
    exact x_to 7 [(2,.call [(false,6)] [] (bl v5) [])] (ocons (Timpl_SameTree (Y:=Y) n a0.1.2.2.1 (Sol.mk false (Pl.mk 0 0 0 0) []) _ y5) onil) (Timpl_DeskOk_2 n a0 (!v5) r h) 
   ·exact x_to 15 [] onil (Timpl_DeskOk_13 n a0 r h) 
def Dimpl_DeskOk_14(n:Nat)(a0:Dsk):Option Bool :=
 (Dimpl_SolidOk n a0.1.2.2.1).bind fun v28=>frk (!v28) (some false) (frk (!a0.2.2.2.1) ((Dimpl_SameTree n a0.1.2.2.1 (Sol.mk false (Pl.mk 0 0 0 0) [])).bind fun v29=>Dimpl_DeskOk_2 n a0 (!v29)) (Dimpl_DeskOk_13 n a0))
theorem Timpl_DeskOk_14{Y}(n:Nat)(a0:Dsk)(r:Bool)(h:Dimpl_DeskOk_14 n a0=some r):Wk Tryz.prog H Y 37 [.code (cp [1,0,1,0] (bodyOf Tryz.f37)),.blk 0,.code (cp [1,1] (bodyOf Tryz.f37))] (FinX Tryz.prog Tryz.f37 [] (bl r) []) ⟨[(1,.ptr 1 0),(6,.agg [bl a0.1.1.inn,i64 a0.1.1.pl.A,i64 a0.1.1.pl.B,i64 a0.1.1.pl.C,i64 a0.1.1.pl.D,.sl false 6 a0.1.1.kids.length ((eSol false).f a0.1.1.kids),bl a0.1.2.1.inn,i64 a0.1.2.1.pl.A,i64 a0.1.2.1.pl.B,i64 a0.1.2.1.pl.C,i64 a0.1.2.1.pl.D,.sl false 6 a0.1.2.1.kids.length ((eSol false).f a0.1.2.1.kids),bl a0.1.2.2.1.inn,i64 a0.1.2.2.1.pl.A,i64 a0.1.2.2.1.pl.B,i64 a0.1.2.2.1.pl.C,i64 a0.1.2.2.1.pl.D,.sl false 6 a0.1.2.2.1.kids.length ((eSol false).f a0.1.2.2.1.kids),bl a0.1.2.2.2.1.inn,i64 a0.1.2.2.2.1.pl.A,i64 a0.1.2.2.2.1.pl.B,i64 a0.1.2.2.2.1.pl.C,i64 a0.1.2.2.2.1.pl.D,.sl false 6 a0.1.2.2.2.1.kids.length ((eSol false).f a0.1.2.2.2.1.kids),bl a0.1.2.2.2.2.1.inn,i64 a0.1.2.2.2.2.1.pl.A,i64 a0.1.2.2.2.2.1.pl.B,i64 a0.1.2.2.2.2.1.pl.C,i64 a0.1.2.2.2.2.1.pl.D,.sl false 6 a0.1.2.2.2.2.1.kids.length ((eSol false).f a0.1.2.2.2.2.1.kids),bl a0.1.2.2.2.2.2.1.inn,i64 a0.1.2.2.2.2.2.1.pl.A,i64 a0.1.2.2.2.2.2.1.pl.B,i64 a0.1.2.2.2.2.2.1.pl.C,i64 a0.1.2.2.2.2.2.1.pl.D,.sl false 6 a0.1.2.2.2.2.2.1.kids.length ((eSol false).f a0.1.2.2.2.2.2.1.kids),bl a0.1.2.2.2.2.2.2.1.inn,i64 a0.1.2.2.2.2.2.2.1.pl.A,i64 a0.1.2.2.2.2.2.2.1.pl.B,i64 a0.1.2.2.2.2.2.2.1.pl.C,i64 a0.1.2.2.2.2.2.2.1.pl.D,.sl false 6 a0.1.2.2.2.2.2.2.1.kids.length ((eSol false).f a0.1.2.2.2.2.2.2.1.kids),bl a0.1.2.2.2.2.2.2.2.inn,i64 a0.1.2.2.2.2.2.2.2.pl.A,i64 a0.1.2.2.2.2.2.2.2.pl.B,i64 a0.1.2.2.2.2.2.2.2.pl.C,i64 a0.1.2.2.2.2.2.2.2.pl.D,.sl false 6 a0.1.2.2.2.2.2.2.2.kids.length ((eSol false).f a0.1.2.2.2.2.2.2.2.kids)]),(7,i64 2)],[(1,⟨true,0,(cT38 a0)⟩)]⟩:=by
 unfold Dimpl_DeskOk_14 at h
 obtain⟨v28,y28,h⟩:=bm h
 refine x_frk 24 [(7,.call [] [] (bl v28) [])] (ocons (Timpl_SolidOk (Y:=Y) n a0.1.2.2.1 _ y28) onil) h (by kernel_rfl) (fun h=>?_) (fun h=>?_)
 ·replace h:=sj h;subst h
  exact x_end 18 [] [] onil onil 
 ·refine x_frk 6 [] onil h (by kernel_rfl) (fun h=>?_) (fun h=>?_)
  ·obtain⟨v29,y29,h⟩:=bm h
   exact x_to 7 [(2,.call [(false,6)] [] (bl v29) [])] (ocons (Timpl_SameTree (Y:=Y) n a0.1.2.2.1 (Sol.mk false (Pl.mk 0 0 0 0) []) _ y29) onil) (Timpl_DeskOk_2 n a0 (!v29) r h) 
  ·exact x_to 15 [] onil (Timpl_DeskOk_13 n a0 r h) 
def Dimpl_DeskOk_0(n:Nat)(a0:Dsk)(t26:Bool):Option Bool :=
 frk t26 (some false) ((Dimpl_SolidOk n a0.1.2.1).bind fun v2=>frk (!v2) (some false) (frk (!a0.2.2.1) ((Dimpl_SameTree n a0.1.2.1 (Sol.mk false (Pl.mk 0 0 0 0) [])).bind fun v3=>Dimpl_DeskOk_1 n a0 (!v3)) (Dimpl_DeskOk_14 n a0)))
theorem Timpl_DeskOk_0{Y}(n:Nat)(a0:Dsk)(t26 r:Bool)(h:Dimpl_DeskOk_0 n a0 t26=some r):Wk Tryz.prog H Y 37 [.code (cp [1,0,1,0,0,1,1,0,0,1,1] (bodyOf Tryz.f37)),.blk 1,.code (cp [1,0,1,0,0,1,1,1] (bodyOf Tryz.f37)),.lp (cp [1,0,1,0] (bodyOf Tryz.f37)),.blk 0,.code (cp [1,1] (bodyOf Tryz.f37))] (FinX Tryz.prog Tryz.f37 [] (bl r) []) ⟨[(1,.ptr 1 0),(6,.agg [bl a0.1.1.inn,i64 a0.1.1.pl.A,i64 a0.1.1.pl.B,i64 a0.1.1.pl.C,i64 a0.1.1.pl.D,.sl false 6 a0.1.1.kids.length ((eSol false).f a0.1.1.kids),bl a0.1.2.1.inn,i64 a0.1.2.1.pl.A,i64 a0.1.2.1.pl.B,i64 a0.1.2.1.pl.C,i64 a0.1.2.1.pl.D,.sl false 6 a0.1.2.1.kids.length ((eSol false).f a0.1.2.1.kids),bl a0.1.2.2.1.inn,i64 a0.1.2.2.1.pl.A,i64 a0.1.2.2.1.pl.B,i64 a0.1.2.2.1.pl.C,i64 a0.1.2.2.1.pl.D,.sl false 6 a0.1.2.2.1.kids.length ((eSol false).f a0.1.2.2.1.kids),bl a0.1.2.2.2.1.inn,i64 a0.1.2.2.2.1.pl.A,i64 a0.1.2.2.2.1.pl.B,i64 a0.1.2.2.2.1.pl.C,i64 a0.1.2.2.2.1.pl.D,.sl false 6 a0.1.2.2.2.1.kids.length ((eSol false).f a0.1.2.2.2.1.kids),bl a0.1.2.2.2.2.1.inn,i64 a0.1.2.2.2.2.1.pl.A,i64 a0.1.2.2.2.2.1.pl.B,i64 a0.1.2.2.2.2.1.pl.C,i64 a0.1.2.2.2.2.1.pl.D,.sl false 6 a0.1.2.2.2.2.1.kids.length ((eSol false).f a0.1.2.2.2.2.1.kids),bl a0.1.2.2.2.2.2.1.inn,i64 a0.1.2.2.2.2.2.1.pl.A,i64 a0.1.2.2.2.2.2.1.pl.B,i64 a0.1.2.2.2.2.2.1.pl.C,i64 a0.1.2.2.2.2.2.1.pl.D,.sl false 6 a0.1.2.2.2.2.2.1.kids.length ((eSol false).f a0.1.2.2.2.2.2.1.kids),bl a0.1.2.2.2.2.2.2.1.inn,i64 a0.1.2.2.2.2.2.2.1.pl.A,i64 a0.1.2.2.2.2.2.2.1.pl.B,i64 a0.1.2.2.2.2.2.2.1.pl.C,i64 a0.1.2.2.2.2.2.2.1.pl.D,.sl false 6 a0.1.2.2.2.2.2.2.1.kids.length ((eSol false).f a0.1.2.2.2.2.2.2.1.kids),bl a0.1.2.2.2.2.2.2.2.inn,i64 a0.1.2.2.2.2.2.2.2.pl.A,i64 a0.1.2.2.2.2.2.2.2.pl.B,i64 a0.1.2.2.2.2.2.2.2.pl.C,i64 a0.1.2.2.2.2.2.2.2.pl.D,.sl false 6 a0.1.2.2.2.2.2.2.2.kids.length ((eSol false).f a0.1.2.2.2.2.2.2.2.kids)]),(7,i64 0),(26,bl t26)],[(1,⟨true,0,(cT38 a0)⟩)]⟩:=by
 unfold Dimpl_DeskOk_0 at h
 refine x_frk 0 [] onil h (by kernel_rfl) (fun h=>?_) (fun h=>?_)
 ·replace h:=sj h;subst h
  exact x_end 4 [] [] onil onil 
 ·obtain⟨v2,y2,h⟩:=bm h
  refine x_frk 31 [(9,.call [] [] (bl v2) [])] (ocons (Timpl_SolidOk (Y:=Y) n a0.1.2.1 _ y2) onil) h (by kernel_rfl) (fun h=>?_) (fun h=>?_)
  ·replace h:=sj h;subst h
   exact x_end 18 [] [] onil onil 
  ·refine x_frk 6 [] onil h (by kernel_rfl) (fun h=>?_) (fun h=>?_)
   ·obtain⟨v3,y3,h⟩:=bm h
    exact x_to 7 [(2,.call [(false,6)] [] (bl v3) [])] (ocons (Timpl_SameTree (Y:=Y) n a0.1.2.1 (Sol.mk false (Pl.mk 0 0 0 0) []) _ y3) onil) (Timpl_DeskOk_1 n a0 (!v3) r h) 
   ·exact x_to 15 [] onil (Timpl_DeskOk_14 n a0 r h) 
def Dimpl_DeskOk_15(n:Nat)(a0:Dsk):Option Bool :=
 (Dimpl_SolidOk n a0.1.2.1).bind fun v30=>frk (!v30) (some false) (frk (!a0.2.2.1) ((Dimpl_SameTree n a0.1.2.1 (Sol.mk false (Pl.mk 0 0 0 0) [])).bind fun v31=>Dimpl_DeskOk_1 n a0 (!v31)) (Dimpl_DeskOk_14 n a0))
theorem Timpl_DeskOk_15{Y}(n:Nat)(a0:Dsk)(r:Bool)(h:Dimpl_DeskOk_15 n a0=some r):Wk Tryz.prog H Y 37 [.code (cp [1,0,1,0] (bodyOf Tryz.f37)),.blk 0,.code (cp [1,1] (bodyOf Tryz.f37))] (FinX Tryz.prog Tryz.f37 [] (bl r) []) ⟨[(1,.ptr 1 0),(6,.agg [bl a0.1.1.inn,i64 a0.1.1.pl.A,i64 a0.1.1.pl.B,i64 a0.1.1.pl.C,i64 a0.1.1.pl.D,.sl false 6 a0.1.1.kids.length ((eSol false).f a0.1.1.kids),bl a0.1.2.1.inn,i64 a0.1.2.1.pl.A,i64 a0.1.2.1.pl.B,i64 a0.1.2.1.pl.C,i64 a0.1.2.1.pl.D,.sl false 6 a0.1.2.1.kids.length ((eSol false).f a0.1.2.1.kids),bl a0.1.2.2.1.inn,i64 a0.1.2.2.1.pl.A,i64 a0.1.2.2.1.pl.B,i64 a0.1.2.2.1.pl.C,i64 a0.1.2.2.1.pl.D,.sl false 6 a0.1.2.2.1.kids.length ((eSol false).f a0.1.2.2.1.kids),bl a0.1.2.2.2.1.inn,i64 a0.1.2.2.2.1.pl.A,i64 a0.1.2.2.2.1.pl.B,i64 a0.1.2.2.2.1.pl.C,i64 a0.1.2.2.2.1.pl.D,.sl false 6 a0.1.2.2.2.1.kids.length ((eSol false).f a0.1.2.2.2.1.kids),bl a0.1.2.2.2.2.1.inn,i64 a0.1.2.2.2.2.1.pl.A,i64 a0.1.2.2.2.2.1.pl.B,i64 a0.1.2.2.2.2.1.pl.C,i64 a0.1.2.2.2.2.1.pl.D,.sl false 6 a0.1.2.2.2.2.1.kids.length ((eSol false).f a0.1.2.2.2.2.1.kids),bl a0.1.2.2.2.2.2.1.inn,i64 a0.1.2.2.2.2.2.1.pl.A,i64 a0.1.2.2.2.2.2.1.pl.B,i64 a0.1.2.2.2.2.2.1.pl.C,i64 a0.1.2.2.2.2.2.1.pl.D,.sl false 6 a0.1.2.2.2.2.2.1.kids.length ((eSol false).f a0.1.2.2.2.2.2.1.kids),bl a0.1.2.2.2.2.2.2.1.inn,i64 a0.1.2.2.2.2.2.2.1.pl.A,i64 a0.1.2.2.2.2.2.2.1.pl.B,i64 a0.1.2.2.2.2.2.2.1.pl.C,i64 a0.1.2.2.2.2.2.2.1.pl.D,.sl false 6 a0.1.2.2.2.2.2.2.1.kids.length ((eSol false).f a0.1.2.2.2.2.2.2.1.kids),bl a0.1.2.2.2.2.2.2.2.inn,i64 a0.1.2.2.2.2.2.2.2.pl.A,i64 a0.1.2.2.2.2.2.2.2.pl.B,i64 a0.1.2.2.2.2.2.2.2.pl.C,i64 a0.1.2.2.2.2.2.2.2.pl.D,.sl false 6 a0.1.2.2.2.2.2.2.2.kids.length ((eSol false).f a0.1.2.2.2.2.2.2.2.kids)]),(7,i64 1)],[(1,⟨true,0,(cT38 a0)⟩)]⟩:=by
 unfold Dimpl_DeskOk_15 at h
 obtain⟨v30,y30,h⟩:=bm h
 refine x_frk 24 [(7,.call [] [] (bl v30) [])] (ocons (Timpl_SolidOk (Y:=Y) n a0.1.2.1 _ y30) onil) h (by kernel_rfl) (fun h=>?_) (fun h=>?_)
 ·replace h:=sj h;subst h
  exact x_end 18 [] [] onil onil 
 ·refine x_frk 6 [] onil h (by kernel_rfl) (fun h=>?_) (fun h=>?_)
  ·obtain⟨v31,y31,h⟩:=bm h
   exact x_to 7 [(2,.call [(false,6)] [] (bl v31) [])] (ocons (Timpl_SameTree (Y:=Y) n a0.1.2.1 (Sol.mk false (Pl.mk 0 0 0 0) []) _ y31) onil) (Timpl_DeskOk_1 n a0 (!v31) r h) 
  ·exact x_to 15 [] onil (Timpl_DeskOk_14 n a0 r h) 
def Dimpl_DeskOk(n:Nat)(a0:Dsk):Option Bool :=
 (Dimpl_SolidOk n a0.1.1).bind fun v0=>frk (!v0) (some false) (frk (!a0.2.1) ((Dimpl_SameTree n a0.1.1 (Sol.mk false (Pl.mk 0 0 0 0) [])).bind fun v1=>Dimpl_DeskOk_0 n a0 (!v1)) (Dimpl_DeskOk_15 n a0))
theorem Timpl_DeskOk{Y}(n:Nat)(a0:Dsk)(r:Bool)(h:Dimpl_DeskOk n a0=some r):Big Tryz.prog H Y (.call 37 [.agg (cT38 a0)] (lk []) (bl r) (lk [])):=by
 unfold Dimpl_DeskOk at h
 refine x_call (fn:=Tryz.f37) (c:=bodyOf Tryz.f37) (bs0:=[]) Tryz.func37 (by kernel_rfl) (by kernel_rfl) ?_
 obtain⟨v0,y0,h⟩:=bm h
 refine x_frk 37 [(12,.call [] [] (bl v0) [])] (ocons (Timpl_SolidOk (Y:=Y) n a0.1.1 _ y0) onil) h (by kernel_rfl) (fun h=>?_) (fun h=>?_)
 ·replace h:=sj h;subst h
  exact x_end 18 [] [] onil onil 
 ·refine x_frk 6 [] onil h (by kernel_rfl) (fun h=>?_) (fun h=>?_)
  ·obtain⟨v1,y1,h⟩:=bm h
   exact x_to 7 [(2,.call [(false,6)] [] (bl v1) [])] (ocons (Timpl_SameTree (Y:=Y) n a0.1.1 (Sol.mk false (Pl.mk 0 0 0 0) []) _ y1) onil) (Timpl_DeskOk_0 n a0 (!v1) r h) 
  ·exact x_to 15 [] onil (Timpl_DeskOk_15 n a0 r h) 
def Dimpl_Leaf(a0:Bool):Option Sol :=
 some (Sol.mk a0 (Pl.mk 0 0 0 0) [])
theorem Timpl_Leaf{Y}(a0:Bool)(r:Sol)(h:Dimpl_Leaf a0=some r):Big Tryz.prog H Y (.call 126 [bl a0] (lk []) (eS r) (lk [])):=by
 unfold Dimpl_Leaf at h
 refine x_call (fn:=Tryz.f126) (c:=bodyOf Tryz.f126) (bs0:=[]) Tryz.func126 (by kernel_rfl) (by kernel_rfl) ?_
 replace h:=sj h;subst h
 exact x_end 10 [] [(true,6)] onil onil 
def Dimpl_merger_leaf(a0:(Int×Int×Bool))(a1 a2:Bool):Option (Sol×(Int×Int×Bool)) :=
 frk (a0.1==1) (frk a1 ((Dimpl_Leaf a2).bind fun v0=>some (v0,a0)) ((Dimpl_Leaf false).bind fun v1=>some (v1,a0))) (frk (a0.1==2) (frk a1 ((Dimpl_Leaf true).bind fun v2=>some (v2,a0)) ((Dimpl_Leaf a2).bind fun v3=>some (v3,a0))) (frk (a0.1==3) (frk a1 ((Dimpl_Leaf (!a2)).bind fun v4=>some (v4,a0)) ((Dimpl_Leaf false).bind fun v5=>some (v5,a0))) ((Dimpl_Leaf (!(a1==a2))).bind fun v6=>some (v6,a0))))
theorem Timpl_merger_leaf{Y}(a0:(Int×Int×Bool))(a1 a2:Bool)(r:(Sol×(Int×Int×Bool)))(h:Dimpl_merger_leaf a0 a1 a2=some r):Big Tryz.prog H Y (.call 217 [.ptr 1000 0,bl a1,bl a2] (lk [(1000,⟨true,0,[i64 a0.1,i64 a0.2.1,bl a0.2.2]⟩)]) (eS r.1) (lk [(1000,⟨true,0,[i64 r.2.1,i64 r.2.2.1,bl r.2.2.2]⟩)])):=by
 unfold Dimpl_merger_leaf at h
 refine x_call (fn:=Tryz.f217) (c:=bodyOf Tryz.f217) (bs0:=[(1000,⟨true,0,[.bad,.bad,.bad]⟩)]) Tryz.func217 (by kernel_rfl) (by kernel_rfl) ?_
 refine x_frk 18 [] onil h (by kernel_rfl) (fun h=>?_) (fun h=>?_)
 ·refine x_frk 4 [] onil h (by kernel_rfl) (fun h=>?_) (fun h=>?_)
  ·obtain⟨v0,y0,h⟩:=bm h
   replace h:=sj h;subst h
   exact x_end 5 [(2,.call [] [] (eS v0) [])] [] (ocons (Timpl_Leaf (Y:=Y) a2 _ y0) onil) onil 
  ·obtain⟨v1,y1,h⟩:=bm h
   replace h:=sj h;subst h
   exact x_end 5 [(2,.call [] [] (eS v1) [])] [] (ocons (Timpl_Leaf (Y:=Y) false _ y1) onil) onil 
 ·refine x_frk 5 [] onil h (by kernel_rfl) (fun h=>?_) (fun h=>?_)
  ·refine x_frk 4 [] onil h (by kernel_rfl) (fun h=>?_) (fun h=>?_)
   ·obtain⟨v2,y2,h⟩:=bm h
    replace h:=sj h;subst h
    exact x_end 5 [(2,.call [] [] (eS v2) [])] [] (ocons (Timpl_Leaf (Y:=Y) true _ y2) onil) onil 
   ·obtain⟨v3,y3,h⟩:=bm h
    replace h:=sj h;subst h
    exact x_end 5 [(2,.call [] [] (eS v3) [])] [] (ocons (Timpl_Leaf (Y:=Y) a2 _ y3) onil) onil 
  ·refine x_frk 5 [] onil h (by kernel_rfl) (fun h=>?_) (fun h=>?_)
   ·refine x_frk 4 [] onil h (by kernel_rfl) (fun h=>?_) (fun h=>?_)
    ·obtain⟨v4,y4,h⟩:=bm h
     replace h:=sj h;subst h
     exact x_end 6 [(3,.call [] [] (eS v4) [])] [] (ocons (Timpl_Leaf (Y:=Y) (!a2) _ y4) onil) onil 
    ·obtain⟨v5,y5,h⟩:=bm h
     replace h:=sj h;subst h
     exact x_end 6 [(3,.call [] [] (eS v5) [])] [] (ocons (Timpl_Leaf (Y:=Y) false _ y5) onil) onil 
   ·obtain⟨v6,y6,h⟩:=bm h
    replace h:=sj h;subst h
    exact x_end 10 [(3,.call [] [] (eS v6) [])] [] (ocons (Timpl_Leaf (Y:=Y) (!(a1==a2)) _ y6) onil) onil 
def Dimpl_nodeo1o2(a0:Pl)(a1:Sol)(a2:Sol):Option Sol :=
 some (Sol.mk false a0 [a1,a2])
theorem Timpl_nodeo1o2{Y}(a0:Pl)(a1:Sol)(a2:Sol)(r:Sol)(h:Dimpl_nodeo1o2 a0 a1 a2=some r):Big Tryz.prog H Y (.call 128 [.agg [i64 a0.A,i64 a0.B,i64 a0.C,i64 a0.D],eS a1,eS a2] (lk []) (eS r) (lk [])):=by
 unfold Dimpl_nodeo1o2 at h
 refine x_call (fn:=Tryz.f128) (c:=bodyOf Tryz.f128) (bs0:=[]) Tryz.func128 (by kernel_rfl) (by kernel_rfl) ?_
 replace h:=sj h;subst h
 exact x_end 17 [(8,.fixb 10 ⟨true,6,(eSol true).f [a1,a2]⟩)] [] (ocons (boxSol true true [a1,a2]) onil) (ocons (len_row (L:=[a1,a2]) (eSol true)) onil) 
def Dimpl_merger_joino2o3_1(zo zp zq zr:Int)(zam:Bool)(zan zao zap zaq:Int)(zav:List Sol)(zs:Bool)(zt zu zdf zdg:Int)(zdh:List Sol)(_zv:Bool)(_zw _zx _zar _zas zat zau:Int)(zdi:Bool):Option (Sol×(Int×Int×Bool)) :=
 (Dimpl_nodeo1o2 (Pl.mk zo zp zq zr) (Sol.mk zam (Pl.mk zan zao zap zaq) zav) (Sol.mk zs (Pl.mk zt zu zdf zdg) zdh)).bind fun v3=>some (v3,(zat,zau,zdi))
theorem Timpl_merger_joino2o3_1{Y}(zo zp zq zr:Int)(zam:Bool)(zan zao zap zaq:Int)(zav:List Sol)(zs:Bool)(zt zu zdf zdg:Int)(zdh:List Sol)(zv:Bool)(zw zx zar zas zat zau:Int)(zdi:Bool)(r:(Sol×(Int×Int×Bool)))(h:Dimpl_merger_joino2o3_1 zo zp zq zr zam zan zao zap zaq zav zs zt zu zdf zdg zdh zv zw zx zar zas zat zau zdi=some r):Wk Tryz.prog H Y 185 [.code (cp [1,1,1,1,0] (bodyOf Tryz.f185)),.code (cp [1,1,1,1,1] (bodyOf Tryz.f185))] (FinX Tryz.prog Tryz.f185 [(1000,⟨true,0,[.bad,.bad,.bad]⟩)] (eS r.1) [(1000,⟨true,0,[i64 r.2.1,i64 r.2.2.1,bl r.2.2.2]⟩)]) ⟨[(5,.ptr 5 0),(6,.ptr 6 0),(7,.ptr 7 0),(8,.ptr 8 0)],[(5,⟨true,0,[i64 zo,i64 zp,i64 zq,i64 zr]⟩),(6,⟨true,0,[bl zam,i64 zan,i64 zao,i64 zap,i64 zaq,.sl true 6 zav.length ((eSol true).f zav)]⟩),(7,⟨true,0,[bl zs,i64 zt,i64 zu,i64 zdf,i64 zdg,.sl true 6 zdh.length ((eSol true).f zdh)]⟩),(8,⟨true,0,[bl zv,i64 zw,i64 zx,i64 zar,i64 zas,.nil]⟩),(1000,⟨true,0,[i64 zat,i64 zau,bl zdi]⟩)]⟩:=by
 unfold Dimpl_merger_joino2o3_1 at h
 obtain⟨v3,y3,h⟩:=bm h
 replace h:=sj h;subst h
 exact x_end 7 [(3,.call [] [] (eS v3) [])] [] (ocons (Timpl_nodeo1o2 (Y:=Y) (Pl.mk zo zp zq zr) (Sol.mk zam (Pl.mk zan zao zap zaq) zav) (Sol.mk zs (Pl.mk zt zu zdf zdg) zdh) _ y3) onil) onil 
def Dimpl_merger_joino2o3_0(t19:Bool)(zo zp zq zr:Int)(zam:Bool)(zan zao zap zaq:Int)(zav:List Sol)(zs:Bool)(zt zu zdf zdg:Int)(zdh:List Sol)(zv:Bool)(zw zx zar zas zat zau:Int)(zdi:Bool):Option (Sol×(Int×Int×Bool)) :=
 frk t19 ((Dimpl_Leaf zam).bind fun v2=>some (v2,(zat,zau,zdi))) (frk zdi (Dimpl_merger_joino2o3_1 zo zp zq zr zam zan zao zap zaq zav zs zt zu zdf zdg zdh zv zw zx zar zas zat (w64 (zau+1)) true) (Dimpl_merger_joino2o3_1 zo zp zq zr zam zan zao zap zaq zav zs zt zu zdf zdg zdh zv zw zx zar zas zat (w64 (zau+1)) (decide ((w64 (zau+1))>300))))
theorem Timpl_merger_joino2o3_0{Y}(t19:Bool)(zo zp zq zr:Int)(zam:Bool)(zan zao zap zaq:Int)(zav:List Sol)(zs:Bool)(zt zu zdf zdg:Int)(zdh:List Sol)(zv:Bool)(zw zx zar zas zat zau:Int)(zdi:Bool)(r:(Sol×(Int×Int×Bool)))(h:Dimpl_merger_joino2o3_0 t19 zo zp zq zr zam zan zao zap zaq zav zs zt zu zdf zdg zdh zv zw zx zar zas zat zau zdi=some r):Wk Tryz.prog H Y 185 [.code (cp [1,0,1] (bodyOf Tryz.f185)),.code (cp [1,1] (bodyOf Tryz.f185))] (FinX Tryz.prog Tryz.f185 [(1000,⟨true,0,[.bad,.bad,.bad]⟩)] (eS r.1) [(1000,⟨true,0,[i64 r.2.1,i64 r.2.2.1,bl r.2.2.2]⟩)]) ⟨[(0,.ptr 1000 0),(5,.ptr 5 0),(6,.ptr 6 0),(7,.ptr 7 0),(8,.ptr 8 0),(19,bl t19)],[(5,⟨true,0,[i64 zo,i64 zp,i64 zq,i64 zr]⟩),(6,⟨true,0,[bl zam,i64 zan,i64 zao,i64 zap,i64 zaq,.sl true 6 zav.length ((eSol true).f zav)]⟩),(7,⟨true,0,[bl zs,i64 zt,i64 zu,i64 zdf,i64 zdg,.sl true 6 zdh.length ((eSol true).f zdh)]⟩),(8,⟨true,0,[bl zv,i64 zw,i64 zx,i64 zar,i64 zas,.nil]⟩),(1000,⟨true,0,[i64 zat,i64 zau,bl zdi]⟩)]⟩:=by
 unfold Dimpl_merger_joino2o3_0 at h
 refine x_frk 0 [] onil h (by kernel_rfl) (fun h=>?_) (fun h=>?_)
 ·obtain⟨v2,y2,h⟩:=bm h
  replace h:=sj h;subst h
  exact x_end 7 [(2,.call [] [] (eS v2) [])] [] (ocons (Timpl_Leaf (Y:=Y) zam _ y2) onil) onil 
 ·refine x_frk 20 [] onil h (by kernel_rfl) (fun h=>?_) (fun h=>?_)
  ·exact x_to 11 [] onil (Timpl_merger_joino2o3_1 zo zp zq zr zam zan zao zap zaq zav zs zt zu zdf zdg zdh zv zw zx zar zas zat (w64 (zau+1)) true r h) 
  ·exact x_to 11 [] onil (Timpl_merger_joino2o3_1 zo zp zq zr zam zan zao zap zaq zav zs zt zu zdf zdg zdh zv zw zx zar zas zat (w64 (zau+1)) (decide ((w64 (zau+1))>300)) r h) 
def Dimpl_merger_joino2o3_2(zo zp zq zr:Int)(zam:Bool)(zan zao zap zaq:Int)(zav:List Sol)(zs:Bool)(zt zu zdf zdg:Int)(zdh:List Sol)(zv:Bool)(zw zx zar zas zat zau:Int)(zdi:Bool):Option (Sol×(Int×Int×Bool)) :=
 frk zdi (Dimpl_merger_joino2o3_1 zo zp zq zr zam zan zao zap zaq zav zs zt zu zdf zdg zdh zv zw zx zar zas zat zau true) (Dimpl_merger_joino2o3_1 zo zp zq zr zam zan zao zap zaq zav zs zt zu zdf zdg zdh zv zw zx zar zas zat zau (decide (zau>300)))
theorem Timpl_merger_joino2o3_2{Y}(zo zp zq zr:Int)(zam:Bool)(zan zao zap zaq:Int)(zav:List Sol)(zs:Bool)(zt zu zdf zdg:Int)(zdh:List Sol)(zv:Bool)(zw zx zar zas zat zau:Int)(zdi:Bool)(r:(Sol×(Int×Int×Bool)))(h:Dimpl_merger_joino2o3_2 zo zp zq zr zam zan zao zap zaq zav zs zt zu zdf zdg zdh zv zw zx zar zas zat zau zdi=some r):Wk Tryz.prog H Y 185 [.code (cp [1,1,1,0] (bodyOf Tryz.f185)),.code (cp [1,1,1,1] (bodyOf Tryz.f185))] (FinX Tryz.prog Tryz.f185 [(1000,⟨true,0,[.bad,.bad,.bad]⟩)] (eS r.1) [(1000,⟨true,0,[i64 r.2.1,i64 r.2.2.1,bl r.2.2.2]⟩)]) ⟨[(0,.ptr 1000 0),(5,.ptr 5 0),(6,.ptr 6 0),(7,.ptr 7 0),(8,.ptr 8 0)],[(5,⟨true,0,[i64 zo,i64 zp,i64 zq,i64 zr]⟩),(6,⟨true,0,[bl zam,i64 zan,i64 zao,i64 zap,i64 zaq,.sl true 6 zav.length ((eSol true).f zav)]⟩),(7,⟨true,0,[bl zs,i64 zt,i64 zu,i64 zdf,i64 zdg,.sl true 6 zdh.length ((eSol true).f zdh)]⟩),(8,⟨true,0,[bl zv,i64 zw,i64 zx,i64 zar,i64 zas,.nil]⟩),(1000,⟨true,0,[i64 zat,i64 zau,bl zdi]⟩)]⟩:=by
 unfold Dimpl_merger_joino2o3_2 at h
 refine x_frk 7 [] onil h (by kernel_rfl) (fun h=>?_) (fun h=>?_)
 ·exact x_to 11 [] onil (Timpl_merger_joino2o3_1 zo zp zq zr zam zan zao zap zaq zav zs zt zu zdf zdg zdh zv zw zx zar zas zat zau true r h) 
 ·exact x_to 11 [] onil (Timpl_merger_joino2o3_1 zo zp zq zr zam zan zao zap zaq zav zs zt zu zdf zdg zdh zv zw zx zar zas zat zau (decide (zau>300)) r h) 
def Dimpl_merger_joino2o3(a0:(Int×Int×Bool))(a1:Pl)(a2:Sol)(a3:Sol):Option (Sol×(Int×Int×Bool)) :=
 (Dimpl_Solid_isLeaf a2).bind fun v0=>frk v0 ((Dimpl_Solid_isLeaf a3).bind fun v1=>frk v1 (Dimpl_merger_joino2o3_0 (a2.inn==a3.inn) a1.A a1.B a1.C a1.D a2.inn a2.pl.A a2.pl.B a2.pl.C a2.pl.D a2.kids a3.inn a3.pl.A a3.pl.B a3.pl.C a3.pl.D a3.kids false 0 0 0 0 a0.1 a0.2.1 a0.2.2) (Dimpl_merger_joino2o3_2 a1.A a1.B a1.C a1.D a2.inn a2.pl.A a2.pl.B a2.pl.C a2.pl.D a2.kids a3.inn a3.pl.A a3.pl.B a3.pl.C a3.pl.D a3.kids false 0 0 0 0 a0.1 (w64 (a0.2.1+1)) a0.2.2)) (Dimpl_merger_joino2o3_2 a1.A a1.B a1.C a1.D a2.inn a2.pl.A a2.pl.B a2.pl.C a2.pl.D a2.kids a3.inn a3.pl.A a3.pl.B a3.pl.C a3.pl.D a3.kids false 0 0 0 0 a0.1 (w64 (a0.2.1+1)) a0.2.2)
theorem Timpl_merger_joino2o3{Y}(a0:(Int×Int×Bool))(a1:Pl)(a2:Sol)(a3:Sol)(r:(Sol×(Int×Int×Bool)))(h:Dimpl_merger_joino2o3 a0 a1 a2 a3=some r):Big Tryz.prog H Y (.call 185 [.ptr 1000 0,.agg [i64 a1.A,i64 a1.B,i64 a1.C,i64 a1.D],eS a2,eS a3] (lk [(1000,⟨true,0,[i64 a0.1,i64 a0.2.1,bl a0.2.2]⟩)]) (eS r.1) (lk [(1000,⟨true,0,[i64 r.2.1,i64 r.2.2.1,bl r.2.2.2]⟩)])):=by
 unfold Dimpl_merger_joino2o3 at h
 refine x_call (fn:=Tryz.f185) (c:=bodyOf Tryz.f185) (bs0:=[(1000,⟨true,0,[.bad,.bad,.bad]⟩)]) Tryz.func185 (by kernel_rfl) (by kernel_rfl) ?_
 obtain⟨v0,y0,h⟩:=bm h
 refine x_frk 12 [(4,.call [] [(eSol false).f a2.kids] (bl v0) [])] (ocons (Timpl_Solid_isLeaf (Y:=Y) a2 [] _ y0) (ocons (Enc.share (eSol true) (eSol false) (sSol true) a2.kids) onil)) h (by kernel_rfl) (fun h=>?_) (fun h=>?_)
 ·obtain⟨v1,y1,h⟩:=bm h
  refine x_frk 3 [(0,.call [] [(eSol false).f a3.kids] (bl v1) [])] (ocons (Timpl_Solid_isLeaf (Y:=Y) a3 [] _ y1) (ocons (Enc.share (eSol true) (eSol false) (sSol true) a3.kids) onil)) h (by kernel_rfl) (fun h=>?_) (fun h=>?_)
  ·exact x_to 7 [] onil (Timpl_merger_joino2o3_0 (a2.inn==a3.inn) a1.A a1.B a1.C a1.D a2.inn a2.pl.A a2.pl.B a2.pl.C a2.pl.D a2.kids a3.inn a3.pl.A a3.pl.B a3.pl.C a3.pl.D a3.kids false 0 0 0 0 a0.1 a0.2.1 a0.2.2 r h) 
  ·exact x_to 21 [] onil (Timpl_merger_joino2o3_2 a1.A a1.B a1.C a1.D a2.inn a2.pl.A a2.pl.B a2.pl.C a2.pl.D a2.kids a3.inn a3.pl.A a3.pl.B a3.pl.C a3.pl.D a3.kids false 0 0 0 0 a0.1 (w64 (a0.2.1+1)) a0.2.2 r h) 
 ·exact x_to 24 [] onil (Timpl_merger_joino2o3_2 a1.A a1.B a1.C a1.D a2.inn a2.pl.A a2.pl.B a2.pl.C a2.pl.D a2.kids a3.inn a3.pl.A a3.pl.B a3.pl.C a3.pl.D a3.kids false 0 0 0 0 a0.1 (w64 (a0.2.1+1)) a0.2.2 r h) 
end Evl.T
