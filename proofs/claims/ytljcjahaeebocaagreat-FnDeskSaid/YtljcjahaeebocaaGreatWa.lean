
/- Walks. No condition. -/
import Derived.Test.YtljcjahaeebocaaGreatWw
namespace Evl.T
open Go Evl Go.Proofs
set_option maxRecDepth 100000
set_option maxHeartbeats 8000000
def Di_Mix_0(n:Nat)(a0:Dk8):Option (Dk8×Int) :=
 (Di_copyDesk n a0).bind fun v1=>some (v1,1)
theorem Ti_Mix_0{Y}(n:Nat)(a0:Dk8)(r:(Dk8×Int))(h:Di_Mix_0 n a0=some r):WT Y 26 [.code (cp [1,0,0,1,0,0] B26),.code (cp [1,0,0,1,0,1] B26),.blk 0,.code (cp [1,1] B26)] (FT Tryz.f26 [] (.tup [.agg (cT52o r.1),iN r.2]) []) ⟨[(5,.ptr 5 0),(10,.ptr 10 0)],[(5,⟨true,0,(cT52 a0)⟩),(10,⟨true,0,zD⟩)]⟩:=by
 unfold Di_Mix_0 at h
 obtain⟨v1,y1,h⟩:=bm h
 obtain rfl:=sj h
 exact x_end 6 [(1,.call [] [] (.agg (cT52o v1)) [])] [] (oI (Ti_copyDesk (Y:=Y) n a0 _ y1)) oN 
def Di_Mix_3(n:Nat)(t1:Int)(t69:Bool)(a0:Dk8)(zba:Bool)(zbb zbc zbd zbe:Int)(zbf:List Sol):Option (Dk8×Int) :=
 frk t69 ((Di_copyDesk n a0).bind fun v9=>some (v9,3)) ((Di_tidy n (Sol.mk zba (Pl.mk zbb zbc zbd zbe) zbf)).bind fun v10=>(Di_keep n a0 t1 v10).bind fun v11=>some v11)
theorem Ti_Mix_3{Y}(n:Nat)(t1:Int)(t69:Bool)(a0:Dk8)(zba:Bool)(zbb zbc zbd zbe:Int)(zbf:List Sol)(r:(Dk8×Int))(h:Di_Mix_3 n t1 t69 a0 zba zbb zbc zbd zbe zbf=some r):WT Y 26 [.code (cp [1,1,1,0,1] B26),.code (cp [1,1,1,1] B26)] (FT Tryz.f26 [] (.tup [.agg (cT52o r.1),iN r.2]) []) ⟨[(1,iN t1),(5,.ptr 5 0),(10,.ptr 10 0),(12,.ptr 12 0),(69,bl t69)],[(5,⟨true,0,(cT52 a0)⟩),(10,⟨true,0,zD⟩),(12,⟨true,0,[bl zba,iN zbb,iN zbc,iN zbd,iN zbe,.sl true 6 zbf.length ((eSol true).f zbf)]⟩)]⟩:=by
 unfold Di_Mix_3 at h
 refine x_frk 0 [] oN h (fun h=>?_) (fun h=>?_)
 ·obtain⟨v9,y9,h⟩:=bm h
  obtain rfl:=sj h
  exact x_end 7 [(1,.call [] [] (.agg (cT52o v9)) [])] [] (oI (Ti_copyDesk (Y:=Y) n a0 _ y9)) oN 
 ·obtain⟨v10,y10,h⟩:=bm h
  obtain⟨v11,y11,h⟩:=bm h
  obtain rfl:=sj h
  exact x_end 13 [(2,.rows [(eSol false).f zbf]),(0,.call [] [] (eS v10) []),(0,.call [] [(eSol false).f v10.kids] (.tup [.agg (cT52o v11.1),iN v11.2]) [])] [] (oC (Enc.share (eSol true) (eSol false) (sSol true) zbf) (oC (Ti_tidy (Y:=Y) n (Sol.mk zba (Pl.mk zbb zbc zbd zbe) zbf) _ y10) (oC (Ti_keep (Y:=Y) n a0 t1 v10 _ y11) (oI (Enc.share (eSol true) (eSol false) (sSol true) v10.kids))))) oN 
def Di_Mix_2(n:Nat)(t1 t2 t3 t4:Int)(t40:Bool)(a0:Dk8):Option (Dk8×Int) :=
 frk t40 ((Di_copyDesk n a0).bind fun v7=>some (v7,2)) (frk (t2==0) (frk (t3==0) ((Di_put n a0.1.1 a0.1.1 t4).bind fun v8=>Di_Mix_3 n t1 (!v8.2) a0 v8.1.inn v8.1.pl.A v8.1.pl.B v8.1.pl.C v8.1.pl.D v8.1.kids) (frk (t3==1) ((Di_put n a0.1.1 a0.1.2.1 t4).bind fun v12=>Di_Mix_3 n t1 (!v12.2) a0 v12.1.inn v12.1.pl.A v12.1.pl.B v12.1.pl.C v12.1.pl.D v12.1.kids) (frk (t3==2) ((Di_put n a0.1.1 a0.1.2.2.1 t4).bind fun v13=>Di_Mix_3 n t1 (!v13.2) a0 v13.1.inn v13.1.pl.A v13.1.pl.B v13.1.pl.C v13.1.pl.D v13.1.kids) (frk (t3==3) ((Di_put n a0.1.1 a0.1.2.2.2.1 t4).bind fun v14=>Di_Mix_3 n t1 (!v14.2) a0 v14.1.inn v14.1.pl.A v14.1.pl.B v14.1.pl.C v14.1.pl.D v14.1.kids) (frk (t3==4) ((Di_put n a0.1.1 a0.1.2.2.2.2.1 t4).bind fun v15=>Di_Mix_3 n t1 (!v15.2) a0 v15.1.inn v15.1.pl.A v15.1.pl.B v15.1.pl.C v15.1.pl.D v15.1.kids) (frk (t3==5) ((Di_put n a0.1.1 a0.1.2.2.2.2.2.1 t4).bind fun v16=>Di_Mix_3 n t1 (!v16.2) a0 v16.1.inn v16.1.pl.A v16.1.pl.B v16.1.pl.C v16.1.pl.D v16.1.kids) (frk (t3==6) ((Di_put n a0.1.1 a0.1.2.2.2.2.2.2.1 t4).bind fun v17=>Di_Mix_3 n t1 (!v17.2) a0 v17.1.inn v17.1.pl.A v17.1.pl.B v17.1.pl.C v17.1.pl.D v17.1.kids) (frk (t3==7) ((Di_put n a0.1.1 a0.1.2.2.2.2.2.2.2 t4).bind fun v18=>Di_Mix_3 n t1 (!v18.2) a0 v18.1.inn v18.1.pl.A v18.1.pl.B v18.1.pl.C v18.1.pl.D v18.1.kids) (none))))))))) (frk (t2==1) (frk (t3==0) ((Di_put n a0.1.2.1 a0.1.1 t4).bind fun v19=>Di_Mix_3 n t1 (!v19.2) a0 v19.1.inn v19.1.pl.A v19.1.pl.B v19.1.pl.C v19.1.pl.D v19.1.kids) (frk (t3==1) ((Di_put n a0.1.2.1 a0.1.2.1 t4).bind fun v20=>Di_Mix_3 n t1 (!v20.2) a0 v20.1.inn v20.1.pl.A v20.1.pl.B v20.1.pl.C v20.1.pl.D v20.1.kids) (frk (t3==2) ((Di_put n a0.1.2.1 a0.1.2.2.1 t4).bind fun v21=>Di_Mix_3 n t1 (!v21.2) a0 v21.1.inn v21.1.pl.A v21.1.pl.B v21.1.pl.C v21.1.pl.D v21.1.kids) (frk (t3==3) ((Di_put n a0.1.2.1 a0.1.2.2.2.1 t4).bind fun v22=>Di_Mix_3 n t1 (!v22.2) a0 v22.1.inn v22.1.pl.A v22.1.pl.B v22.1.pl.C v22.1.pl.D v22.1.kids) (frk (t3==4) ((Di_put n a0.1.2.1 a0.1.2.2.2.2.1 t4).bind fun v23=>Di_Mix_3 n t1 (!v23.2) a0 v23.1.inn v23.1.pl.A v23.1.pl.B v23.1.pl.C v23.1.pl.D v23.1.kids) (frk (t3==5) ((Di_put n a0.1.2.1 a0.1.2.2.2.2.2.1 t4).bind fun v24=>Di_Mix_3 n t1 (!v24.2) a0 v24.1.inn v24.1.pl.A v24.1.pl.B v24.1.pl.C v24.1.pl.D v24.1.kids) (frk (t3==6) ((Di_put n a0.1.2.1 a0.1.2.2.2.2.2.2.1 t4).bind fun v25=>Di_Mix_3 n t1 (!v25.2) a0 v25.1.inn v25.1.pl.A v25.1.pl.B v25.1.pl.C v25.1.pl.D v25.1.kids) (frk (t3==7) ((Di_put n a0.1.2.1 a0.1.2.2.2.2.2.2.2 t4).bind fun v26=>Di_Mix_3 n t1 (!v26.2) a0 v26.1.inn v26.1.pl.A v26.1.pl.B v26.1.pl.C v26.1.pl.D v26.1.kids) (none))))))))) (frk (t2==2) (frk (t3==0) ((Di_put n a0.1.2.2.1 a0.1.1 t4).bind fun v27=>Di_Mix_3 n t1 (!v27.2) a0 v27.1.inn v27.1.pl.A v27.1.pl.B v27.1.pl.C v27.1.pl.D v27.1.kids) (frk (t3==1) ((Di_put n a0.1.2.2.1 a0.1.2.1 t4).bind fun v28=>Di_Mix_3 n t1 (!v28.2) a0 v28.1.inn v28.1.pl.A v28.1.pl.B v28.1.pl.C v28.1.pl.D v28.1.kids) (frk (t3==2) ((Di_put n a0.1.2.2.1 a0.1.2.2.1 t4).bind fun v29=>Di_Mix_3 n t1 (!v29.2) a0 v29.1.inn v29.1.pl.A v29.1.pl.B v29.1.pl.C v29.1.pl.D v29.1.kids) (frk (t3==3) ((Di_put n a0.1.2.2.1 a0.1.2.2.2.1 t4).bind fun v30=>Di_Mix_3 n t1 (!v30.2) a0 v30.1.inn v30.1.pl.A v30.1.pl.B v30.1.pl.C v30.1.pl.D v30.1.kids) (frk (t3==4) ((Di_put n a0.1.2.2.1 a0.1.2.2.2.2.1 t4).bind fun v31=>Di_Mix_3 n t1 (!v31.2) a0 v31.1.inn v31.1.pl.A v31.1.pl.B v31.1.pl.C v31.1.pl.D v31.1.kids) (frk (t3==5) ((Di_put n a0.1.2.2.1 a0.1.2.2.2.2.2.1 t4).bind fun v32=>Di_Mix_3 n t1 (!v32.2) a0 v32.1.inn v32.1.pl.A v32.1.pl.B v32.1.pl.C v32.1.pl.D v32.1.kids) (frk (t3==6) ((Di_put n a0.1.2.2.1 a0.1.2.2.2.2.2.2.1 t4).bind fun v33=>Di_Mix_3 n t1 (!v33.2) a0 v33.1.inn v33.1.pl.A v33.1.pl.B v33.1.pl.C v33.1.pl.D v33.1.kids) (frk (t3==7) ((Di_put n a0.1.2.2.1 a0.1.2.2.2.2.2.2.2 t4).bind fun v34=>Di_Mix_3 n t1 (!v34.2) a0 v34.1.inn v34.1.pl.A v34.1.pl.B v34.1.pl.C v34.1.pl.D v34.1.kids) (none))))))))) (frk (t2==3) (frk (t3==0) ((Di_put n a0.1.2.2.2.1 a0.1.1 t4).bind fun v35=>Di_Mix_3 n t1 (!v35.2) a0 v35.1.inn v35.1.pl.A v35.1.pl.B v35.1.pl.C v35.1.pl.D v35.1.kids) (frk (t3==1) ((Di_put n a0.1.2.2.2.1 a0.1.2.1 t4).bind fun v36=>Di_Mix_3 n t1 (!v36.2) a0 v36.1.inn v36.1.pl.A v36.1.pl.B v36.1.pl.C v36.1.pl.D v36.1.kids) (frk (t3==2) ((Di_put n a0.1.2.2.2.1 a0.1.2.2.1 t4).bind fun v37=>Di_Mix_3 n t1 (!v37.2) a0 v37.1.inn v37.1.pl.A v37.1.pl.B v37.1.pl.C v37.1.pl.D v37.1.kids) (frk (t3==3) ((Di_put n a0.1.2.2.2.1 a0.1.2.2.2.1 t4).bind fun v38=>Di_Mix_3 n t1 (!v38.2) a0 v38.1.inn v38.1.pl.A v38.1.pl.B v38.1.pl.C v38.1.pl.D v38.1.kids) (frk (t3==4) ((Di_put n a0.1.2.2.2.1 a0.1.2.2.2.2.1 t4).bind fun v39=>Di_Mix_3 n t1 (!v39.2) a0 v39.1.inn v39.1.pl.A v39.1.pl.B v39.1.pl.C v39.1.pl.D v39.1.kids) (frk (t3==5) ((Di_put n a0.1.2.2.2.1 a0.1.2.2.2.2.2.1 t4).bind fun v40=>Di_Mix_3 n t1 (!v40.2) a0 v40.1.inn v40.1.pl.A v40.1.pl.B v40.1.pl.C v40.1.pl.D v40.1.kids) (frk (t3==6) ((Di_put n a0.1.2.2.2.1 a0.1.2.2.2.2.2.2.1 t4).bind fun v41=>Di_Mix_3 n t1 (!v41.2) a0 v41.1.inn v41.1.pl.A v41.1.pl.B v41.1.pl.C v41.1.pl.D v41.1.kids) (frk (t3==7) ((Di_put n a0.1.2.2.2.1 a0.1.2.2.2.2.2.2.2 t4).bind fun v42=>Di_Mix_3 n t1 (!v42.2) a0 v42.1.inn v42.1.pl.A v42.1.pl.B v42.1.pl.C v42.1.pl.D v42.1.kids) (none))))))))) (frk (t2==4) (frk (t3==0) ((Di_put n a0.1.2.2.2.2.1 a0.1.1 t4).bind fun v43=>Di_Mix_3 n t1 (!v43.2) a0 v43.1.inn v43.1.pl.A v43.1.pl.B v43.1.pl.C v43.1.pl.D v43.1.kids) (frk (t3==1) ((Di_put n a0.1.2.2.2.2.1 a0.1.2.1 t4).bind fun v44=>Di_Mix_3 n t1 (!v44.2) a0 v44.1.inn v44.1.pl.A v44.1.pl.B v44.1.pl.C v44.1.pl.D v44.1.kids) (frk (t3==2) ((Di_put n a0.1.2.2.2.2.1 a0.1.2.2.1 t4).bind fun v45=>Di_Mix_3 n t1 (!v45.2) a0 v45.1.inn v45.1.pl.A v45.1.pl.B v45.1.pl.C v45.1.pl.D v45.1.kids) (frk (t3==3) ((Di_put n a0.1.2.2.2.2.1 a0.1.2.2.2.1 t4).bind fun v46=>Di_Mix_3 n t1 (!v46.2) a0 v46.1.inn v46.1.pl.A v46.1.pl.B v46.1.pl.C v46.1.pl.D v46.1.kids) (frk (t3==4) ((Di_put n a0.1.2.2.2.2.1 a0.1.2.2.2.2.1 t4).bind fun v47=>Di_Mix_3 n t1 (!v47.2) a0 v47.1.inn v47.1.pl.A v47.1.pl.B v47.1.pl.C v47.1.pl.D v47.1.kids) (frk (t3==5) ((Di_put n a0.1.2.2.2.2.1 a0.1.2.2.2.2.2.1 t4).bind fun v48=>Di_Mix_3 n t1 (!v48.2) a0 v48.1.inn v48.1.pl.A v48.1.pl.B v48.1.pl.C v48.1.pl.D v48.1.kids) (frk (t3==6) ((Di_put n a0.1.2.2.2.2.1 a0.1.2.2.2.2.2.2.1 t4).bind fun v49=>Di_Mix_3 n t1 (!v49.2) a0 v49.1.inn v49.1.pl.A v49.1.pl.B v49.1.pl.C v49.1.pl.D v49.1.kids) (frk (t3==7) ((Di_put n a0.1.2.2.2.2.1 a0.1.2.2.2.2.2.2.2 t4).bind fun v50=>Di_Mix_3 n t1 (!v50.2) a0 v50.1.inn v50.1.pl.A v50.1.pl.B v50.1.pl.C v50.1.pl.D v50.1.kids) (none))))))))) (frk (t2==5) (frk (t3==0) ((Di_put n a0.1.2.2.2.2.2.1 a0.1.1 t4).bind fun v51=>Di_Mix_3 n t1 (!v51.2) a0 v51.1.inn v51.1.pl.A v51.1.pl.B v51.1.pl.C v51.1.pl.D v51.1.kids) (frk (t3==1) ((Di_put n a0.1.2.2.2.2.2.1 a0.1.2.1 t4).bind fun v52=>Di_Mix_3 n t1 (!v52.2) a0 v52.1.inn v52.1.pl.A v52.1.pl.B v52.1.pl.C v52.1.pl.D v52.1.kids) (frk (t3==2) ((Di_put n a0.1.2.2.2.2.2.1 a0.1.2.2.1 t4).bind fun v53=>Di_Mix_3 n t1 (!v53.2) a0 v53.1.inn v53.1.pl.A v53.1.pl.B v53.1.pl.C v53.1.pl.D v53.1.kids) (frk (t3==3) ((Di_put n a0.1.2.2.2.2.2.1 a0.1.2.2.2.1 t4).bind fun v54=>Di_Mix_3 n t1 (!v54.2) a0 v54.1.inn v54.1.pl.A v54.1.pl.B v54.1.pl.C v54.1.pl.D v54.1.kids) (frk (t3==4) ((Di_put n a0.1.2.2.2.2.2.1 a0.1.2.2.2.2.1 t4).bind fun v55=>Di_Mix_3 n t1 (!v55.2) a0 v55.1.inn v55.1.pl.A v55.1.pl.B v55.1.pl.C v55.1.pl.D v55.1.kids) (frk (t3==5) ((Di_put n a0.1.2.2.2.2.2.1 a0.1.2.2.2.2.2.1 t4).bind fun v56=>Di_Mix_3 n t1 (!v56.2) a0 v56.1.inn v56.1.pl.A v56.1.pl.B v56.1.pl.C v56.1.pl.D v56.1.kids) (frk (t3==6) ((Di_put n a0.1.2.2.2.2.2.1 a0.1.2.2.2.2.2.2.1 t4).bind fun v57=>Di_Mix_3 n t1 (!v57.2) a0 v57.1.inn v57.1.pl.A v57.1.pl.B v57.1.pl.C v57.1.pl.D v57.1.kids) (frk (t3==7) ((Di_put n a0.1.2.2.2.2.2.1 a0.1.2.2.2.2.2.2.2 t4).bind fun v58=>Di_Mix_3 n t1 (!v58.2) a0 v58.1.inn v58.1.pl.A v58.1.pl.B v58.1.pl.C v58.1.pl.D v58.1.kids) (none))))))))) (frk (t2==6) (frk (t3==0) ((Di_put n a0.1.2.2.2.2.2.2.1 a0.1.1 t4).bind fun v59=>Di_Mix_3 n t1 (!v59.2) a0 v59.1.inn v59.1.pl.A v59.1.pl.B v59.1.pl.C v59.1.pl.D v59.1.kids) (frk (t3==1) ((Di_put n a0.1.2.2.2.2.2.2.1 a0.1.2.1 t4).bind fun v60=>Di_Mix_3 n t1 (!v60.2) a0 v60.1.inn v60.1.pl.A v60.1.pl.B v60.1.pl.C v60.1.pl.D v60.1.kids) (frk (t3==2) ((Di_put n a0.1.2.2.2.2.2.2.1 a0.1.2.2.1 t4).bind fun v61=>Di_Mix_3 n t1 (!v61.2) a0 v61.1.inn v61.1.pl.A v61.1.pl.B v61.1.pl.C v61.1.pl.D v61.1.kids) (frk (t3==3) ((Di_put n a0.1.2.2.2.2.2.2.1 a0.1.2.2.2.1 t4).bind fun v62=>Di_Mix_3 n t1 (!v62.2) a0 v62.1.inn v62.1.pl.A v62.1.pl.B v62.1.pl.C v62.1.pl.D v62.1.kids) (frk (t3==4) ((Di_put n a0.1.2.2.2.2.2.2.1 a0.1.2.2.2.2.1 t4).bind fun v63=>Di_Mix_3 n t1 (!v63.2) a0 v63.1.inn v63.1.pl.A v63.1.pl.B v63.1.pl.C v63.1.pl.D v63.1.kids) (frk (t3==5) ((Di_put n a0.1.2.2.2.2.2.2.1 a0.1.2.2.2.2.2.1 t4).bind fun v64=>Di_Mix_3 n t1 (!v64.2) a0 v64.1.inn v64.1.pl.A v64.1.pl.B v64.1.pl.C v64.1.pl.D v64.1.kids) (frk (t3==6) ((Di_put n a0.1.2.2.2.2.2.2.1 a0.1.2.2.2.2.2.2.1 t4).bind fun v65=>Di_Mix_3 n t1 (!v65.2) a0 v65.1.inn v65.1.pl.A v65.1.pl.B v65.1.pl.C v65.1.pl.D v65.1.kids) (frk (t3==7) ((Di_put n a0.1.2.2.2.2.2.2.1 a0.1.2.2.2.2.2.2.2 t4).bind fun v66=>Di_Mix_3 n t1 (!v66.2) a0 v66.1.inn v66.1.pl.A v66.1.pl.B v66.1.pl.C v66.1.pl.D v66.1.kids) (none))))))))) (frk (t2==7) (frk (t3==0) ((Di_put n a0.1.2.2.2.2.2.2.2 a0.1.1 t4).bind fun v67=>Di_Mix_3 n t1 (!v67.2) a0 v67.1.inn v67.1.pl.A v67.1.pl.B v67.1.pl.C v67.1.pl.D v67.1.kids) (frk (t3==1) ((Di_put n a0.1.2.2.2.2.2.2.2 a0.1.2.1 t4).bind fun v68=>Di_Mix_3 n t1 (!v68.2) a0 v68.1.inn v68.1.pl.A v68.1.pl.B v68.1.pl.C v68.1.pl.D v68.1.kids) (frk (t3==2) ((Di_put n a0.1.2.2.2.2.2.2.2 a0.1.2.2.1 t4).bind fun v69=>Di_Mix_3 n t1 (!v69.2) a0 v69.1.inn v69.1.pl.A v69.1.pl.B v69.1.pl.C v69.1.pl.D v69.1.kids) (frk (t3==3) ((Di_put n a0.1.2.2.2.2.2.2.2 a0.1.2.2.2.1 t4).bind fun v70=>Di_Mix_3 n t1 (!v70.2) a0 v70.1.inn v70.1.pl.A v70.1.pl.B v70.1.pl.C v70.1.pl.D v70.1.kids) (frk (t3==4) ((Di_put n a0.1.2.2.2.2.2.2.2 a0.1.2.2.2.2.1 t4).bind fun v71=>Di_Mix_3 n t1 (!v71.2) a0 v71.1.inn v71.1.pl.A v71.1.pl.B v71.1.pl.C v71.1.pl.D v71.1.kids) (frk (t3==5) ((Di_put n a0.1.2.2.2.2.2.2.2 a0.1.2.2.2.2.2.1 t4).bind fun v72=>Di_Mix_3 n t1 (!v72.2) a0 v72.1.inn v72.1.pl.A v72.1.pl.B v72.1.pl.C v72.1.pl.D v72.1.kids) (frk (t3==6) ((Di_put n a0.1.2.2.2.2.2.2.2 a0.1.2.2.2.2.2.2.1 t4).bind fun v73=>Di_Mix_3 n t1 (!v73.2) a0 v73.1.inn v73.1.pl.A v73.1.pl.B v73.1.pl.C v73.1.pl.D v73.1.kids) (frk (t3==7) ((Di_put n a0.1.2.2.2.2.2.2.2 a0.1.2.2.2.2.2.2.2 t4).bind fun v74=>Di_Mix_3 n t1 (!v74.2) a0 v74.1.inn v74.1.pl.A v74.1.pl.B v74.1.pl.C v74.1.pl.D v74.1.kids) (none))))))))) (none)))))))))
theorem Ti_Mix_2{Y}(n:Nat)(t1 t2 t3 t4:Int)(t40:Bool)(a0:Dk8)(r:(Dk8×Int))(h:Di_Mix_2 n t1 t2 t3 t4 t40 a0=some r):WT Y 26 [.code (cp [1,0,0,1,1,1] B26),.blk 0,.code (cp [1,1] B26)] (FT Tryz.f26 [] (.tup [.agg (cT52o r.1),iN r.2]) []) ⟨[(1,iN t1),(2,iN t2),(3,iN t3),(4,iN t4),(5,.ptr 5 0),(10,.ptr 10 0),(40,bl t40)],[(5,⟨true,0,(cT52 a0)⟩),(10,⟨true,0,zD⟩)]⟩:=by
 unfold Di_Mix_2 at h
 refine x_frk 0 [] oN h (fun h=>?_) (fun h=>?_)
 ·obtain⟨v7,y7,h⟩:=bm h
  obtain rfl:=sj h
  exact x_end 7 [(1,.call [] [] (.agg (cT52o v7)) [])] [] (oI (Ti_copyDesk (Y:=Y) n a0 _ y7)) oN 
 ·refine x_pt 6 [] oN (by kernel_rfl) ?_
  iterate 8
   rcases frk_eq h with ⟨hc,hk124⟩ | h
   ·subst hc
    replace h:=hk124
    refine x_pt 4 [] oN (by kernel_rfl) ?_
    iterate 8
     rcases frk_eq h with ⟨hc,hk116⟩ | h
     ·subst hc
      replace h:=hk116
      obtain⟨v8,y8,h⟩:=bm h
      exact x_to 17 [(3,.call [] [] (.tup [eS v8.1,bl v8.2]) [])] (oI (Ti_put (Y:=Y) n _ _ t4 _ y8)) (Ti_Mix_3 n t1 (!v8.2) a0 v8.1.inn v8.1.pl.A v8.1.pl.B v8.1.pl.C v8.1.pl.D v8.1.kids r h) 
    exact absurd h (by simp)
  exact absurd h (by simp)
def Di_Mix_1(n:Nat)(t1 t2 t3 t4:Int)(t14:Bool)(a0:Dk8):Option (Dk8×Int) :=
 frk t14 ((Di_copyDesk n a0).bind fun v6=>some (v6,1)) (frk (t2==0) (frk (!a0.2.1) (Di_Mix_2 n t1 0 t3 t4 true a0) (frk (t3==0) (Di_Mix_2 n t1 0 0 t4 (!a0.2.1) a0) (frk (t3==1) (Di_Mix_2 n t1 0 1 t4 (!a0.2.2.1) a0) (frk (t3==2) (Di_Mix_2 n t1 0 2 t4 (!a0.2.2.2.1) a0) (frk (t3==3) (Di_Mix_2 n t1 0 3 t4 (!a0.2.2.2.2.1) a0) (frk (t3==4) (Di_Mix_2 n t1 0 4 t4 (!a0.2.2.2.2.2.1) a0) (frk (t3==5) (Di_Mix_2 n t1 0 5 t4 (!a0.2.2.2.2.2.2.1) a0) (frk (t3==6) (Di_Mix_2 n t1 0 6 t4 (!a0.2.2.2.2.2.2.2.1) a0) (frk (t3==7) (Di_Mix_2 n t1 0 7 t4 (!a0.2.2.2.2.2.2.2.2) a0) (none)))))))))) (frk (t2==1) (frk (!a0.2.2.1) (Di_Mix_2 n t1 1 t3 t4 true a0) (frk (t3==0) (Di_Mix_2 n t1 1 0 t4 (!a0.2.1) a0) (frk (t3==1) (Di_Mix_2 n t1 1 1 t4 (!a0.2.2.1) a0) (frk (t3==2) (Di_Mix_2 n t1 1 2 t4 (!a0.2.2.2.1) a0) (frk (t3==3) (Di_Mix_2 n t1 1 3 t4 (!a0.2.2.2.2.1) a0) (frk (t3==4) (Di_Mix_2 n t1 1 4 t4 (!a0.2.2.2.2.2.1) a0) (frk (t3==5) (Di_Mix_2 n t1 1 5 t4 (!a0.2.2.2.2.2.2.1) a0) (frk (t3==6) (Di_Mix_2 n t1 1 6 t4 (!a0.2.2.2.2.2.2.2.1) a0) (frk (t3==7) (Di_Mix_2 n t1 1 7 t4 (!a0.2.2.2.2.2.2.2.2) a0) (none)))))))))) (frk (t2==2) (frk (!a0.2.2.2.1) (Di_Mix_2 n t1 2 t3 t4 true a0) (frk (t3==0) (Di_Mix_2 n t1 2 0 t4 (!a0.2.1) a0) (frk (t3==1) (Di_Mix_2 n t1 2 1 t4 (!a0.2.2.1) a0) (frk (t3==2) (Di_Mix_2 n t1 2 2 t4 (!a0.2.2.2.1) a0) (frk (t3==3) (Di_Mix_2 n t1 2 3 t4 (!a0.2.2.2.2.1) a0) (frk (t3==4) (Di_Mix_2 n t1 2 4 t4 (!a0.2.2.2.2.2.1) a0) (frk (t3==5) (Di_Mix_2 n t1 2 5 t4 (!a0.2.2.2.2.2.2.1) a0) (frk (t3==6) (Di_Mix_2 n t1 2 6 t4 (!a0.2.2.2.2.2.2.2.1) a0) (frk (t3==7) (Di_Mix_2 n t1 2 7 t4 (!a0.2.2.2.2.2.2.2.2) a0) (none)))))))))) (frk (t2==3) (frk (!a0.2.2.2.2.1) (Di_Mix_2 n t1 3 t3 t4 true a0) (frk (t3==0) (Di_Mix_2 n t1 3 0 t4 (!a0.2.1) a0) (frk (t3==1) (Di_Mix_2 n t1 3 1 t4 (!a0.2.2.1) a0) (frk (t3==2) (Di_Mix_2 n t1 3 2 t4 (!a0.2.2.2.1) a0) (frk (t3==3) (Di_Mix_2 n t1 3 3 t4 (!a0.2.2.2.2.1) a0) (frk (t3==4) (Di_Mix_2 n t1 3 4 t4 (!a0.2.2.2.2.2.1) a0) (frk (t3==5) (Di_Mix_2 n t1 3 5 t4 (!a0.2.2.2.2.2.2.1) a0) (frk (t3==6) (Di_Mix_2 n t1 3 6 t4 (!a0.2.2.2.2.2.2.2.1) a0) (frk (t3==7) (Di_Mix_2 n t1 3 7 t4 (!a0.2.2.2.2.2.2.2.2) a0) (none)))))))))) (frk (t2==4) (frk (!a0.2.2.2.2.2.1) (Di_Mix_2 n t1 4 t3 t4 true a0) (frk (t3==0) (Di_Mix_2 n t1 4 0 t4 (!a0.2.1) a0) (frk (t3==1) (Di_Mix_2 n t1 4 1 t4 (!a0.2.2.1) a0) (frk (t3==2) (Di_Mix_2 n t1 4 2 t4 (!a0.2.2.2.1) a0) (frk (t3==3) (Di_Mix_2 n t1 4 3 t4 (!a0.2.2.2.2.1) a0) (frk (t3==4) (Di_Mix_2 n t1 4 4 t4 (!a0.2.2.2.2.2.1) a0) (frk (t3==5) (Di_Mix_2 n t1 4 5 t4 (!a0.2.2.2.2.2.2.1) a0) (frk (t3==6) (Di_Mix_2 n t1 4 6 t4 (!a0.2.2.2.2.2.2.2.1) a0) (frk (t3==7) (Di_Mix_2 n t1 4 7 t4 (!a0.2.2.2.2.2.2.2.2) a0) (none)))))))))) (frk (t2==5) (frk (!a0.2.2.2.2.2.2.1) (Di_Mix_2 n t1 5 t3 t4 true a0) (frk (t3==0) (Di_Mix_2 n t1 5 0 t4 (!a0.2.1) a0) (frk (t3==1) (Di_Mix_2 n t1 5 1 t4 (!a0.2.2.1) a0) (frk (t3==2) (Di_Mix_2 n t1 5 2 t4 (!a0.2.2.2.1) a0) (frk (t3==3) (Di_Mix_2 n t1 5 3 t4 (!a0.2.2.2.2.1) a0) (frk (t3==4) (Di_Mix_2 n t1 5 4 t4 (!a0.2.2.2.2.2.1) a0) (frk (t3==5) (Di_Mix_2 n t1 5 5 t4 (!a0.2.2.2.2.2.2.1) a0) (frk (t3==6) (Di_Mix_2 n t1 5 6 t4 (!a0.2.2.2.2.2.2.2.1) a0) (frk (t3==7) (Di_Mix_2 n t1 5 7 t4 (!a0.2.2.2.2.2.2.2.2) a0) (none)))))))))) (frk (t2==6) (frk (!a0.2.2.2.2.2.2.2.1) (Di_Mix_2 n t1 6 t3 t4 true a0) (frk (t3==0) (Di_Mix_2 n t1 6 0 t4 (!a0.2.1) a0) (frk (t3==1) (Di_Mix_2 n t1 6 1 t4 (!a0.2.2.1) a0) (frk (t3==2) (Di_Mix_2 n t1 6 2 t4 (!a0.2.2.2.1) a0) (frk (t3==3) (Di_Mix_2 n t1 6 3 t4 (!a0.2.2.2.2.1) a0) (frk (t3==4) (Di_Mix_2 n t1 6 4 t4 (!a0.2.2.2.2.2.1) a0) (frk (t3==5) (Di_Mix_2 n t1 6 5 t4 (!a0.2.2.2.2.2.2.1) a0) (frk (t3==6) (Di_Mix_2 n t1 6 6 t4 (!a0.2.2.2.2.2.2.2.1) a0) (frk (t3==7) (Di_Mix_2 n t1 6 7 t4 (!a0.2.2.2.2.2.2.2.2) a0) (none)))))))))) (frk (t2==7) (frk (!a0.2.2.2.2.2.2.2.2) (Di_Mix_2 n t1 7 t3 t4 true a0) (frk (t3==0) (Di_Mix_2 n t1 7 0 t4 (!a0.2.1) a0) (frk (t3==1) (Di_Mix_2 n t1 7 1 t4 (!a0.2.2.1) a0) (frk (t3==2) (Di_Mix_2 n t1 7 2 t4 (!a0.2.2.2.1) a0) (frk (t3==3) (Di_Mix_2 n t1 7 3 t4 (!a0.2.2.2.2.1) a0) (frk (t3==4) (Di_Mix_2 n t1 7 4 t4 (!a0.2.2.2.2.2.1) a0) (frk (t3==5) (Di_Mix_2 n t1 7 5 t4 (!a0.2.2.2.2.2.2.1) a0) (frk (t3==6) (Di_Mix_2 n t1 7 6 t4 (!a0.2.2.2.2.2.2.2.1) a0) (frk (t3==7) (Di_Mix_2 n t1 7 7 t4 (!a0.2.2.2.2.2.2.2.2) a0) (none)))))))))) (none)))))))))
theorem Ti_Mix_1{Y}(n:Nat)(t1 t2 t3 t4:Int)(t14:Bool)(a0:Dk8)(r:(Dk8×Int))(h:Di_Mix_1 n t1 t2 t3 t4 t14 a0=some r):WT Y 26 [.code (cp [1,0,0,1] B26),.blk 0,.code (cp [1,1] B26)] (FT Tryz.f26 [] (.tup [.agg (cT52o r.1),iN r.2]) []) ⟨[(1,iN t1),(2,iN t2),(3,iN t3),(4,iN t4),(5,.ptr 5 0),(10,.ptr 10 0),(14,bl t14)],[(5,⟨true,0,(cT52 a0)⟩),(10,⟨true,0,zD⟩)]⟩:=by
 unfold Di_Mix_1 at h
 refine x_frk 0 [] oN h (fun h=>?_) (fun h=>?_)
 ·obtain⟨v6,y6,h⟩:=bm h
  obtain rfl:=sj h
  exact x_end 7 [(1,.call [] [] (.agg (cT52o v6)) [])] [] (oI (Ti_copyDesk (Y:=Y) n a0 _ y6)) oN 
 ·refine x_pt 4 [] oN (by kernel_rfl) ?_
  rcases frk_eq h with ⟨hc,hk189⟩ | h
  ·subst hc
   replace h:=hk189
   refine x_frk 4 [] oN h (fun h=>?_) (fun h=>?_)
   ·exact x_to 8 [] oN (Ti_Mix_2 n t1 0 t3 t4 true a0 r h) 
   ·refine x_pt 2 [] oN (by kernel_rfl) ?_
    rcases frk_eq h with ⟨hc,hk125⟩ | h
    ·subst hc
     replace h:=hk125
     exact x_to 6 [] oN (Ti_Mix_2 n t1 0 0 t4 (!a0.2.1) a0 r h) 
    rcases frk_eq h with ⟨hc,hk126⟩ | h
    ·subst hc
     replace h:=hk126
     exact x_to 6 [] oN (Ti_Mix_2 n t1 0 1 t4 (!a0.2.2.1) a0 r h) 
    rcases frk_eq h with ⟨hc,hk127⟩ | h
    ·subst hc
     replace h:=hk127
     exact x_to 6 [] oN (Ti_Mix_2 n t1 0 2 t4 (!a0.2.2.2.1) a0 r h) 
    rcases frk_eq h with ⟨hc,hk128⟩ | h
    ·subst hc
     replace h:=hk128
     exact x_to 6 [] oN (Ti_Mix_2 n t1 0 3 t4 (!a0.2.2.2.2.1) a0 r h) 
    rcases frk_eq h with ⟨hc,hk129⟩ | h
    ·subst hc
     replace h:=hk129
     exact x_to 6 [] oN (Ti_Mix_2 n t1 0 4 t4 (!a0.2.2.2.2.2.1) a0 r h) 
    rcases frk_eq h with ⟨hc,hk130⟩ | h
    ·subst hc
     replace h:=hk130
     exact x_to 6 [] oN (Ti_Mix_2 n t1 0 5 t4 (!a0.2.2.2.2.2.2.1) a0 r h) 
    rcases frk_eq h with ⟨hc,hk131⟩ | h
    ·subst hc
     replace h:=hk131
     exact x_to 6 [] oN (Ti_Mix_2 n t1 0 6 t4 (!a0.2.2.2.2.2.2.2.1) a0 r h) 
    rcases frk_eq h with ⟨hc,hk132⟩ | h
    ·subst hc
     replace h:=hk132
     exact x_to 6 [] oN (Ti_Mix_2 n t1 0 7 t4 (!a0.2.2.2.2.2.2.2.2) a0 r h) 
    exact absurd h (by simp)
  rcases frk_eq h with ⟨hc,hk190⟩ | h
  ·subst hc
   replace h:=hk190
   refine x_frk 4 [] oN h (fun h=>?_) (fun h=>?_)
   ·exact x_to 8 [] oN (Ti_Mix_2 n t1 1 t3 t4 true a0 r h) 
   ·refine x_pt 2 [] oN (by kernel_rfl) ?_
    rcases frk_eq h with ⟨hc,hk133⟩ | h
    ·subst hc
     replace h:=hk133
     exact x_to 6 [] oN (Ti_Mix_2 n t1 1 0 t4 (!a0.2.1) a0 r h) 
    rcases frk_eq h with ⟨hc,hk134⟩ | h
    ·subst hc
     replace h:=hk134
     exact x_to 6 [] oN (Ti_Mix_2 n t1 1 1 t4 (!a0.2.2.1) a0 r h) 
    rcases frk_eq h with ⟨hc,hk135⟩ | h
    ·subst hc
     replace h:=hk135
     exact x_to 6 [] oN (Ti_Mix_2 n t1 1 2 t4 (!a0.2.2.2.1) a0 r h) 
    rcases frk_eq h with ⟨hc,hk136⟩ | h
    ·subst hc
     replace h:=hk136
     exact x_to 6 [] oN (Ti_Mix_2 n t1 1 3 t4 (!a0.2.2.2.2.1) a0 r h) 
    rcases frk_eq h with ⟨hc,hk137⟩ | h
    ·subst hc
     replace h:=hk137
     exact x_to 6 [] oN (Ti_Mix_2 n t1 1 4 t4 (!a0.2.2.2.2.2.1) a0 r h) 
    rcases frk_eq h with ⟨hc,hk138⟩ | h
    ·subst hc
     replace h:=hk138
     exact x_to 6 [] oN (Ti_Mix_2 n t1 1 5 t4 (!a0.2.2.2.2.2.2.1) a0 r h) 
    rcases frk_eq h with ⟨hc,hk139⟩ | h
    ·subst hc
     replace h:=hk139
     exact x_to 6 [] oN (Ti_Mix_2 n t1 1 6 t4 (!a0.2.2.2.2.2.2.2.1) a0 r h) 
    rcases frk_eq h with ⟨hc,hk140⟩ | h
    ·subst hc
     replace h:=hk140
     exact x_to 6 [] oN (Ti_Mix_2 n t1 1 7 t4 (!a0.2.2.2.2.2.2.2.2) a0 r h) 
    exact absurd h (by simp)
  rcases frk_eq h with ⟨hc,hk191⟩ | h
  ·subst hc
   replace h:=hk191
   refine x_frk 4 [] oN h (fun h=>?_) (fun h=>?_)
   ·exact x_to 8 [] oN (Ti_Mix_2 n t1 2 t3 t4 true a0 r h) 
   ·refine x_pt 2 [] oN (by kernel_rfl) ?_
    rcases frk_eq h with ⟨hc,hk141⟩ | h
    ·subst hc
     replace h:=hk141
     exact x_to 6 [] oN (Ti_Mix_2 n t1 2 0 t4 (!a0.2.1) a0 r h) 
    rcases frk_eq h with ⟨hc,hk142⟩ | h
    ·subst hc
     replace h:=hk142
     exact x_to 6 [] oN (Ti_Mix_2 n t1 2 1 t4 (!a0.2.2.1) a0 r h) 
    rcases frk_eq h with ⟨hc,hk143⟩ | h
    ·subst hc
     replace h:=hk143
     exact x_to 6 [] oN (Ti_Mix_2 n t1 2 2 t4 (!a0.2.2.2.1) a0 r h) 
    rcases frk_eq h with ⟨hc,hk144⟩ | h
    ·subst hc
     replace h:=hk144
     exact x_to 6 [] oN (Ti_Mix_2 n t1 2 3 t4 (!a0.2.2.2.2.1) a0 r h) 
    rcases frk_eq h with ⟨hc,hk145⟩ | h
    ·subst hc
     replace h:=hk145
     exact x_to 6 [] oN (Ti_Mix_2 n t1 2 4 t4 (!a0.2.2.2.2.2.1) a0 r h) 
    rcases frk_eq h with ⟨hc,hk146⟩ | h
    ·subst hc
     replace h:=hk146
     exact x_to 6 [] oN (Ti_Mix_2 n t1 2 5 t4 (!a0.2.2.2.2.2.2.1) a0 r h) 
    rcases frk_eq h with ⟨hc,hk147⟩ | h
    ·subst hc
     replace h:=hk147
     exact x_to 6 [] oN (Ti_Mix_2 n t1 2 6 t4 (!a0.2.2.2.2.2.2.2.1) a0 r h) 
    rcases frk_eq h with ⟨hc,hk148⟩ | h
    ·subst hc
     replace h:=hk148
     exact x_to 6 [] oN (Ti_Mix_2 n t1 2 7 t4 (!a0.2.2.2.2.2.2.2.2) a0 r h) 
    exact absurd h (by simp)
  rcases frk_eq h with ⟨hc,hk192⟩ | h
  ·subst hc
   replace h:=hk192
   refine x_frk 4 [] oN h (fun h=>?_) (fun h=>?_)
   ·exact x_to 8 [] oN (Ti_Mix_2 n t1 3 t3 t4 true a0 r h) 
   ·refine x_pt 2 [] oN (by kernel_rfl) ?_
    rcases frk_eq h with ⟨hc,hk149⟩ | h
    ·subst hc
     replace h:=hk149
     exact x_to 6 [] oN (Ti_Mix_2 n t1 3 0 t4 (!a0.2.1) a0 r h) 
    rcases frk_eq h with ⟨hc,hk150⟩ | h
    ·subst hc
     replace h:=hk150
     exact x_to 6 [] oN (Ti_Mix_2 n t1 3 1 t4 (!a0.2.2.1) a0 r h) 
    rcases frk_eq h with ⟨hc,hk151⟩ | h
    ·subst hc
     replace h:=hk151
     exact x_to 6 [] oN (Ti_Mix_2 n t1 3 2 t4 (!a0.2.2.2.1) a0 r h) 
    rcases frk_eq h with ⟨hc,hk152⟩ | h
    ·subst hc
     replace h:=hk152
     exact x_to 6 [] oN (Ti_Mix_2 n t1 3 3 t4 (!a0.2.2.2.2.1) a0 r h) 
    rcases frk_eq h with ⟨hc,hk153⟩ | h
    ·subst hc
     replace h:=hk153
     exact x_to 6 [] oN (Ti_Mix_2 n t1 3 4 t4 (!a0.2.2.2.2.2.1) a0 r h) 
    rcases frk_eq h with ⟨hc,hk154⟩ | h
    ·subst hc
     replace h:=hk154
     exact x_to 6 [] oN (Ti_Mix_2 n t1 3 5 t4 (!a0.2.2.2.2.2.2.1) a0 r h) 
    rcases frk_eq h with ⟨hc,hk155⟩ | h
    ·subst hc
     replace h:=hk155
     exact x_to 6 [] oN (Ti_Mix_2 n t1 3 6 t4 (!a0.2.2.2.2.2.2.2.1) a0 r h) 
    rcases frk_eq h with ⟨hc,hk156⟩ | h
    ·subst hc
     replace h:=hk156
     exact x_to 6 [] oN (Ti_Mix_2 n t1 3 7 t4 (!a0.2.2.2.2.2.2.2.2) a0 r h) 
    exact absurd h (by simp)
  rcases frk_eq h with ⟨hc,hk193⟩ | h
  ·subst hc
   replace h:=hk193
   refine x_frk 4 [] oN h (fun h=>?_) (fun h=>?_)
   ·exact x_to 8 [] oN (Ti_Mix_2 n t1 4 t3 t4 true a0 r h) 
   ·refine x_pt 2 [] oN (by kernel_rfl) ?_
    rcases frk_eq h with ⟨hc,hk157⟩ | h
    ·subst hc
     replace h:=hk157
     exact x_to 6 [] oN (Ti_Mix_2 n t1 4 0 t4 (!a0.2.1) a0 r h) 
    rcases frk_eq h with ⟨hc,hk158⟩ | h
    ·subst hc
     replace h:=hk158
     exact x_to 6 [] oN (Ti_Mix_2 n t1 4 1 t4 (!a0.2.2.1) a0 r h) 
    rcases frk_eq h with ⟨hc,hk159⟩ | h
    ·subst hc
     replace h:=hk159
     exact x_to 6 [] oN (Ti_Mix_2 n t1 4 2 t4 (!a0.2.2.2.1) a0 r h) 
    rcases frk_eq h with ⟨hc,hk160⟩ | h
    ·subst hc
     replace h:=hk160
     exact x_to 6 [] oN (Ti_Mix_2 n t1 4 3 t4 (!a0.2.2.2.2.1) a0 r h) 
    rcases frk_eq h with ⟨hc,hk161⟩ | h
    ·subst hc
     replace h:=hk161
     exact x_to 6 [] oN (Ti_Mix_2 n t1 4 4 t4 (!a0.2.2.2.2.2.1) a0 r h) 
    rcases frk_eq h with ⟨hc,hk162⟩ | h
    ·subst hc
     replace h:=hk162
     exact x_to 6 [] oN (Ti_Mix_2 n t1 4 5 t4 (!a0.2.2.2.2.2.2.1) a0 r h) 
    rcases frk_eq h with ⟨hc,hk163⟩ | h
    ·subst hc
     replace h:=hk163
     exact x_to 6 [] oN (Ti_Mix_2 n t1 4 6 t4 (!a0.2.2.2.2.2.2.2.1) a0 r h) 
    rcases frk_eq h with ⟨hc,hk164⟩ | h
    ·subst hc
     replace h:=hk164
     exact x_to 6 [] oN (Ti_Mix_2 n t1 4 7 t4 (!a0.2.2.2.2.2.2.2.2) a0 r h) 
    exact absurd h (by simp)
  rcases frk_eq h with ⟨hc,hk194⟩ | h
  ·subst hc
   replace h:=hk194
   refine x_frk 4 [] oN h (fun h=>?_) (fun h=>?_)
   ·exact x_to 8 [] oN (Ti_Mix_2 n t1 5 t3 t4 true a0 r h) 
   ·refine x_pt 2 [] oN (by kernel_rfl) ?_
    rcases frk_eq h with ⟨hc,hk165⟩ | h
    ·subst hc
     replace h:=hk165
     exact x_to 6 [] oN (Ti_Mix_2 n t1 5 0 t4 (!a0.2.1) a0 r h) 
    rcases frk_eq h with ⟨hc,hk166⟩ | h
    ·subst hc
     replace h:=hk166
     exact x_to 6 [] oN (Ti_Mix_2 n t1 5 1 t4 (!a0.2.2.1) a0 r h) 
    rcases frk_eq h with ⟨hc,hk167⟩ | h
    ·subst hc
     replace h:=hk167
     exact x_to 6 [] oN (Ti_Mix_2 n t1 5 2 t4 (!a0.2.2.2.1) a0 r h) 
    rcases frk_eq h with ⟨hc,hk168⟩ | h
    ·subst hc
     replace h:=hk168
     exact x_to 6 [] oN (Ti_Mix_2 n t1 5 3 t4 (!a0.2.2.2.2.1) a0 r h) 
    rcases frk_eq h with ⟨hc,hk169⟩ | h
    ·subst hc
     replace h:=hk169
     exact x_to 6 [] oN (Ti_Mix_2 n t1 5 4 t4 (!a0.2.2.2.2.2.1) a0 r h) 
    rcases frk_eq h with ⟨hc,hk170⟩ | h
    ·subst hc
     replace h:=hk170
     exact x_to 6 [] oN (Ti_Mix_2 n t1 5 5 t4 (!a0.2.2.2.2.2.2.1) a0 r h) 
    rcases frk_eq h with ⟨hc,hk171⟩ | h
    ·subst hc
     replace h:=hk171
     exact x_to 6 [] oN (Ti_Mix_2 n t1 5 6 t4 (!a0.2.2.2.2.2.2.2.1) a0 r h) 
    rcases frk_eq h with ⟨hc,hk172⟩ | h
    ·subst hc
     replace h:=hk172
     exact x_to 6 [] oN (Ti_Mix_2 n t1 5 7 t4 (!a0.2.2.2.2.2.2.2.2) a0 r h) 
    exact absurd h (by simp)
  rcases frk_eq h with ⟨hc,hk195⟩ | h
  ·subst hc
   replace h:=hk195
   refine x_frk 4 [] oN h (fun h=>?_) (fun h=>?_)
   ·exact x_to 8 [] oN (Ti_Mix_2 n t1 6 t3 t4 true a0 r h) 
   ·refine x_pt 2 [] oN (by kernel_rfl) ?_
    rcases frk_eq h with ⟨hc,hk173⟩ | h
    ·subst hc
     replace h:=hk173
     exact x_to 6 [] oN (Ti_Mix_2 n t1 6 0 t4 (!a0.2.1) a0 r h) 
    rcases frk_eq h with ⟨hc,hk174⟩ | h
    ·subst hc
     replace h:=hk174
     exact x_to 6 [] oN (Ti_Mix_2 n t1 6 1 t4 (!a0.2.2.1) a0 r h) 
    rcases frk_eq h with ⟨hc,hk175⟩ | h
    ·subst hc
     replace h:=hk175
     exact x_to 6 [] oN (Ti_Mix_2 n t1 6 2 t4 (!a0.2.2.2.1) a0 r h) 
    rcases frk_eq h with ⟨hc,hk176⟩ | h
    ·subst hc
     replace h:=hk176
     exact x_to 6 [] oN (Ti_Mix_2 n t1 6 3 t4 (!a0.2.2.2.2.1) a0 r h) 
    rcases frk_eq h with ⟨hc,hk177⟩ | h
    ·subst hc
     replace h:=hk177
     exact x_to 6 [] oN (Ti_Mix_2 n t1 6 4 t4 (!a0.2.2.2.2.2.1) a0 r h) 
    rcases frk_eq h with ⟨hc,hk178⟩ | h
    ·subst hc
     replace h:=hk178
     exact x_to 6 [] oN (Ti_Mix_2 n t1 6 5 t4 (!a0.2.2.2.2.2.2.1) a0 r h) 
    rcases frk_eq h with ⟨hc,hk179⟩ | h
    ·subst hc
     replace h:=hk179
     exact x_to 6 [] oN (Ti_Mix_2 n t1 6 6 t4 (!a0.2.2.2.2.2.2.2.1) a0 r h) 
    rcases frk_eq h with ⟨hc,hk180⟩ | h
    ·subst hc
     replace h:=hk180
     exact x_to 6 [] oN (Ti_Mix_2 n t1 6 7 t4 (!a0.2.2.2.2.2.2.2.2) a0 r h) 
    exact absurd h (by simp)
  rcases frk_eq h with ⟨hc,hk196⟩ | h
  ·subst hc
   replace h:=hk196
   refine x_frk 4 [] oN h (fun h=>?_) (fun h=>?_)
   ·exact x_to 8 [] oN (Ti_Mix_2 n t1 7 t3 t4 true a0 r h) 
   ·refine x_pt 2 [] oN (by kernel_rfl) ?_
    rcases frk_eq h with ⟨hc,hk181⟩ | h
    ·subst hc
     replace h:=hk181
     exact x_to 6 [] oN (Ti_Mix_2 n t1 7 0 t4 (!a0.2.1) a0 r h) 
    rcases frk_eq h with ⟨hc,hk182⟩ | h
    ·subst hc
     replace h:=hk182
     exact x_to 6 [] oN (Ti_Mix_2 n t1 7 1 t4 (!a0.2.2.1) a0 r h) 
    rcases frk_eq h with ⟨hc,hk183⟩ | h
    ·subst hc
     replace h:=hk183
     exact x_to 6 [] oN (Ti_Mix_2 n t1 7 2 t4 (!a0.2.2.2.1) a0 r h) 
    rcases frk_eq h with ⟨hc,hk184⟩ | h
    ·subst hc
     replace h:=hk184
     exact x_to 6 [] oN (Ti_Mix_2 n t1 7 3 t4 (!a0.2.2.2.2.1) a0 r h) 
    rcases frk_eq h with ⟨hc,hk185⟩ | h
    ·subst hc
     replace h:=hk185
     exact x_to 6 [] oN (Ti_Mix_2 n t1 7 4 t4 (!a0.2.2.2.2.2.1) a0 r h) 
    rcases frk_eq h with ⟨hc,hk186⟩ | h
    ·subst hc
     replace h:=hk186
     exact x_to 6 [] oN (Ti_Mix_2 n t1 7 5 t4 (!a0.2.2.2.2.2.2.1) a0 r h) 
    rcases frk_eq h with ⟨hc,hk187⟩ | h
    ·subst hc
     replace h:=hk187
     exact x_to 6 [] oN (Ti_Mix_2 n t1 7 6 t4 (!a0.2.2.2.2.2.2.2.1) a0 r h) 
    rcases frk_eq h with ⟨hc,hk188⟩ | h
    ·subst hc
     replace h:=hk188
     exact x_to 6 [] oN (Ti_Mix_2 n t1 7 7 t4 (!a0.2.2.2.2.2.2.2.2) a0 r h) 
    exact absurd h (by simp)
  exact absurd h (by simp)
def Di_Mix(n:Nat)(a0:Dk8)(a1 a2 a3 a4:Int):Option (Dk8×Int) :=
 (Di_isPlace a1).bind fun v0=>frk (!v0) (Di_Mix_0 n a0) ((Di_isPlace a2).bind fun v2=>frk (!v2) (Di_Mix_0 n a0) ((Di_isPlace a3).bind fun v3=>frk (!v3) (Di_Mix_0 n a0) ((Di_isOp a4).bind fun v4=>frk (!v4) (Di_Mix_0 n a0) ((Di_DeskOk n a0).bind fun v5=>Di_Mix_1 n a1 a2 a3 a4 (!v5) a0))))
theorem Ti_Mix{Y}(n:Nat)(a0:Dk8)(a1 a2 a3 a4:Int)(r:(Dk8×Int))(h:Di_Mix n a0 a1 a2 a3 a4=some r):BT Y (.call 26 [.agg (cT52 a0),iN a1,iN a2,iN a3,iN a4] (lk []) (.tup [.agg (cT52o r.1),iN r.2]) (lk [])):=by
 unfold Di_Mix at h
 refine x_call (fn:=Tryz.f26) (c:=B26) (bs0:=[]) Tryz.func26 (by kernel_rfl) (by kernel_rfl) ?_
 obtain⟨v0,y0,h⟩:=bm h
 refine x_frk 14 [(4,.call [] [] (bl v0) [])] (oI (Ti_isPlace (Y:=Y) a1 _ y0)) h (fun h=>?_) (fun h=>?_)
 ·exact x_to 23 [] oN (Ti_Mix_0 n a0 r h) 
 ·obtain⟨v2,y2,h⟩:=bm h
  refine x_frk 5 [(1,.call [] [] (bl v2) [])] (oI (Ti_isPlace (Y:=Y) a2 _ y2)) h (fun h=>?_) (fun h=>?_)
  ·exact x_to 18 [] oN (Ti_Mix_0 n a0 r h) 
  ·obtain⟨v3,y3,h⟩:=bm h
   refine x_frk 5 [(1,.call [] [] (bl v3) [])] (oI (Ti_isPlace (Y:=Y) a3 _ y3)) h (fun h=>?_) (fun h=>?_)
   ·exact x_to 13 [] oN (Ti_Mix_0 n a0 r h) 
   ·obtain⟨v4,y4,h⟩:=bm h
    refine x_frk 5 [(1,.call [] [] (bl v4) [])] (oI (Ti_isOp (Y:=Y) a4 _ y4)) h (fun h=>?_) (fun h=>?_)
    ·exact x_to 8 [] oN (Ti_Mix_0 n a0 r h) 
    ·obtain⟨v5,y5,h⟩:=bm h
     exact x_to 6 [(1,.call [] [] (bl v5) [])] (oI (Ti_DeskOk (Y:=Y) n a0 _ y5)) (Ti_Mix_1 n a1 a2 a3 a4 (!v5) a0 r h) 
def Di_Drop_1(_n:Nat)(t1:Int)(t19:Bool)(v0:Dk8):Option (Dk8×Int) :=
 frk t19 (some (v0,2)) (frk (t1==0) (some ((((Sol.mk false (Pl.mk 0 0 0 0) []),v0.1.2.1,v0.1.2.2.1,v0.1.2.2.2.1,v0.1.2.2.2.2.1,v0.1.2.2.2.2.2.1,v0.1.2.2.2.2.2.2.1,v0.1.2.2.2.2.2.2.2),(false,v0.2.2.1,v0.2.2.2.1,v0.2.2.2.2.1,v0.2.2.2.2.2.1,v0.2.2.2.2.2.2.1,v0.2.2.2.2.2.2.2.1,v0.2.2.2.2.2.2.2.2)),0)) (frk (t1==1) (some (((v0.1.1,(Sol.mk false (Pl.mk 0 0 0 0) []),v0.1.2.2.1,v0.1.2.2.2.1,v0.1.2.2.2.2.1,v0.1.2.2.2.2.2.1,v0.1.2.2.2.2.2.2.1,v0.1.2.2.2.2.2.2.2),(v0.2.1,false,v0.2.2.2.1,v0.2.2.2.2.1,v0.2.2.2.2.2.1,v0.2.2.2.2.2.2.1,v0.2.2.2.2.2.2.2.1,v0.2.2.2.2.2.2.2.2)),0)) (frk (t1==2) (some (((v0.1.1,v0.1.2.1,(Sol.mk false (Pl.mk 0 0 0 0) []),v0.1.2.2.2.1,v0.1.2.2.2.2.1,v0.1.2.2.2.2.2.1,v0.1.2.2.2.2.2.2.1,v0.1.2.2.2.2.2.2.2),(v0.2.1,v0.2.2.1,false,v0.2.2.2.2.1,v0.2.2.2.2.2.1,v0.2.2.2.2.2.2.1,v0.2.2.2.2.2.2.2.1,v0.2.2.2.2.2.2.2.2)),0)) (frk (t1==3) (some (((v0.1.1,v0.1.2.1,v0.1.2.2.1,(Sol.mk false (Pl.mk 0 0 0 0) []),v0.1.2.2.2.2.1,v0.1.2.2.2.2.2.1,v0.1.2.2.2.2.2.2.1,v0.1.2.2.2.2.2.2.2),(v0.2.1,v0.2.2.1,v0.2.2.2.1,false,v0.2.2.2.2.2.1,v0.2.2.2.2.2.2.1,v0.2.2.2.2.2.2.2.1,v0.2.2.2.2.2.2.2.2)),0)) (frk (t1==4) (some (((v0.1.1,v0.1.2.1,v0.1.2.2.1,v0.1.2.2.2.1,(Sol.mk false (Pl.mk 0 0 0 0) []),v0.1.2.2.2.2.2.1,v0.1.2.2.2.2.2.2.1,v0.1.2.2.2.2.2.2.2),(v0.2.1,v0.2.2.1,v0.2.2.2.1,v0.2.2.2.2.1,false,v0.2.2.2.2.2.2.1,v0.2.2.2.2.2.2.2.1,v0.2.2.2.2.2.2.2.2)),0)) (frk (t1==5) (some (((v0.1.1,v0.1.2.1,v0.1.2.2.1,v0.1.2.2.2.1,v0.1.2.2.2.2.1,(Sol.mk false (Pl.mk 0 0 0 0) []),v0.1.2.2.2.2.2.2.1,v0.1.2.2.2.2.2.2.2),(v0.2.1,v0.2.2.1,v0.2.2.2.1,v0.2.2.2.2.1,v0.2.2.2.2.2.1,false,v0.2.2.2.2.2.2.2.1,v0.2.2.2.2.2.2.2.2)),0)) (frk (t1==6) (some (((v0.1.1,v0.1.2.1,v0.1.2.2.1,v0.1.2.2.2.1,v0.1.2.2.2.2.1,v0.1.2.2.2.2.2.1,(Sol.mk false (Pl.mk 0 0 0 0) []),v0.1.2.2.2.2.2.2.2),(v0.2.1,v0.2.2.1,v0.2.2.2.1,v0.2.2.2.2.1,v0.2.2.2.2.2.1,v0.2.2.2.2.2.2.1,false,v0.2.2.2.2.2.2.2.2)),0)) (frk (t1==7) (some (((v0.1.1,v0.1.2.1,v0.1.2.2.1,v0.1.2.2.2.1,v0.1.2.2.2.2.1,v0.1.2.2.2.2.2.1,v0.1.2.2.2.2.2.2.1,(Sol.mk false (Pl.mk 0 0 0 0) [])),(v0.2.1,v0.2.2.1,v0.2.2.2.1,v0.2.2.2.2.1,v0.2.2.2.2.2.1,v0.2.2.2.2.2.2.1,v0.2.2.2.2.2.2.2.1,false)),0)) (none)))))))))
theorem Ti_Drop_1{Y}(n:Nat)(t1:Int)(t19:Bool)(v0:Dk8)(r:(Dk8×Int))(h:Di_Drop_1 n t1 t19 v0=some r):WT Y 27 [.code (cp [1,1,0,0,1,1,1] B27),.blk 0,.code (cp [1,1,1] B27)] (FT Tryz.f27 [] (.tup [.agg (cT52o r.1),iN r.2]) []) ⟨[(1,iN t1),(4,.ptr 4 0),(6,.ptr 6 0),(19,bl t19)],[(4,⟨true,0,zD⟩),(6,⟨true,0,(cT52o v0)⟩)]⟩:=by
 unfold Di_Drop_1 at h
 refine x_frk 0 [] oN h (fun h=>?_) (fun h=>?_)
 ·obtain rfl:=sj h
  exact x_end 6 [] [] oN oN 
 ·refine x_pt 8 [] oN (by kernel_rfl) ?_
  iterate 8
   rcases frk_eq h with ⟨hc,hk197⟩ | h
   ·subst hc
    replace h:=hk197
    obtain rfl:=sj h
    exact x_end 12 [] [(true,6)] oN oN 
  exact absurd h (by simp)
def Di_Drop_0(n:Nat)(t1:Int)(t9:Bool)(a0:Dk8)(v0:Dk8):Option (Dk8×Int) :=
 frk t9 (some (v0,1)) (frk (t1==0) (Di_Drop_1 n 0 (!a0.2.1) v0) (frk (t1==1) (Di_Drop_1 n 1 (!a0.2.2.1) v0) (frk (t1==2) (Di_Drop_1 n 2 (!a0.2.2.2.1) v0) (frk (t1==3) (Di_Drop_1 n 3 (!a0.2.2.2.2.1) v0) (frk (t1==4) (Di_Drop_1 n 4 (!a0.2.2.2.2.2.1) v0) (frk (t1==5) (Di_Drop_1 n 5 (!a0.2.2.2.2.2.2.1) v0) (frk (t1==6) (Di_Drop_1 n 6 (!a0.2.2.2.2.2.2.2.1) v0) (frk (t1==7) (Di_Drop_1 n 7 (!a0.2.2.2.2.2.2.2.2) v0) (none)))))))))
theorem Ti_Drop_0{Y}(n:Nat)(t1:Int)(t9:Bool)(a0:Dk8)(v0:Dk8)(r:(Dk8×Int))(h:Di_Drop_0 n t1 t9 a0 v0=some r):WT Y 27 [.code (cp [1,1,0,0,1] B27),.blk 0,.code (cp [1,1,1] B27)] (FT Tryz.f27 [] (.tup [.agg (cT52o r.1),iN r.2]) []) ⟨[(1,iN t1),(2,.ptr 2 0),(4,.ptr 4 0),(6,.ptr 6 0),(9,bl t9)],[(2,⟨true,0,(cT52 a0)⟩),(4,⟨true,0,zD⟩),(6,⟨true,0,(cT52o v0)⟩)]⟩:=by
 unfold Di_Drop_0 at h
 refine x_frk 0 [] oN h (fun h=>?_) (fun h=>?_)
 ·obtain rfl:=sj h
  exact x_end 6 [] [] oN oN 
 ·refine x_pt 4 [] oN (by kernel_rfl) ?_
  rcases frk_eq h with ⟨hc,hk198⟩ | h
  ·subst hc
   replace h:=hk198
   exact x_to 5 [] oN (Ti_Drop_1 n 0 (!a0.2.1) v0 r h) 
  rcases frk_eq h with ⟨hc,hk199⟩ | h
  ·subst hc
   replace h:=hk199
   exact x_to 5 [] oN (Ti_Drop_1 n 1 (!a0.2.2.1) v0 r h) 
  rcases frk_eq h with ⟨hc,hk200⟩ | h
  ·subst hc
   replace h:=hk200
   exact x_to 5 [] oN (Ti_Drop_1 n 2 (!a0.2.2.2.1) v0 r h) 
  rcases frk_eq h with ⟨hc,hk201⟩ | h
  ·subst hc
   replace h:=hk201
   exact x_to 5 [] oN (Ti_Drop_1 n 3 (!a0.2.2.2.2.1) v0 r h) 
  rcases frk_eq h with ⟨hc,hk202⟩ | h
  ·subst hc
   replace h:=hk202
   exact x_to 5 [] oN (Ti_Drop_1 n 4 (!a0.2.2.2.2.2.1) v0 r h) 
  rcases frk_eq h with ⟨hc,hk203⟩ | h
  ·subst hc
   replace h:=hk203
   exact x_to 5 [] oN (Ti_Drop_1 n 5 (!a0.2.2.2.2.2.2.1) v0 r h) 
  rcases frk_eq h with ⟨hc,hk204⟩ | h
  ·subst hc
   replace h:=hk204
   exact x_to 5 [] oN (Ti_Drop_1 n 6 (!a0.2.2.2.2.2.2.2.1) v0 r h) 
  rcases frk_eq h with ⟨hc,hk205⟩ | h
  ·subst hc
   replace h:=hk205
   exact x_to 5 [] oN (Ti_Drop_1 n 7 (!a0.2.2.2.2.2.2.2.2) v0 r h) 
  exact absurd h (by simp)
def Di_Drop(n:Nat)(a0:Dk8)(a1:Int):Option (Dk8×Int) :=
 (Di_copyDesk n a0).bind fun v0=>(Di_isPlace a1).bind fun v1=>frk (!v1) (some (v0,1)) ((Di_DeskOk n a0).bind fun v2=>Di_Drop_0 n a1 (!v2) a0 v0)
theorem Ti_Drop{Y}(n:Nat)(a0:Dk8)(a1:Int)(r:(Dk8×Int))(h:Di_Drop n a0 a1=some r):BT Y (.call 27 [.agg (cT52 a0),iN a1] (lk []) (.tup [.agg (cT52o r.1),iN r.2]) (lk [])):=by
 unfold Di_Drop at h
 refine x_call (fn:=Tryz.f27) (c:=B27) (bs0:=[]) Tryz.func27 (by kernel_rfl) (by kernel_rfl) ?_
 obtain⟨v0,y0,h⟩:=bm h
 obtain⟨v1,y1,h⟩:=bm h
 refine x_frk 21 [(4,.call [] [] (.agg (cT52o v0)) []),(3,.call [] [] (bl v1) [])] (oC (Ti_copyDesk (Y:=Y) n a0 _ y0) (oI (Ti_isPlace (Y:=Y) a1 _ y1))) h (fun h=>?_) (fun h=>?_)
 ·obtain rfl:=sj h
  exact x_end 13 [] [] oN oN 
 ·obtain⟨v2,y2,h⟩:=bm h
  exact x_to 6 [(1,.call [] [] (bl v2) [])] (oI (Ti_DeskOk (Y:=Y) n a0 _ y2)) (Ti_Drop_0 n a1 (!v2) a0 v0 r h) 
def Di_PtOk(a0:Pt):Option Bool :=
 (Di_inRange a0.X (-1000000) 1000000).bind fun v0=>frk v0 ((Di_inRange a0.Y (-1000000) 1000000).bind fun v1=>frk v1 ((Di_inRange a0.Z (-1000000) 1000000).bind fun v2=>some v2) (some false)) (some false)
theorem Ti_PtOk{Y}(a0:Pt)(r:Bool)(h:Di_PtOk a0=some r):BT Y (.call 73 [.agg [iN a0.X,iN a0.Y,iN a0.Z]] (lk []) (bl r) (lk [])):=by
 unfold Di_PtOk at h
 refine x_call (fn:=Tryz.f73) (c:=B73) (bs0:=[]) Tryz.func73 (by kernel_rfl) (by kernel_rfl) ?_
 obtain⟨v0,y0,h⟩:=bm h
 refine x_frk 11 [(4,.call [] [] (bl v0) [])] (oI (Ti_inRange (Y:=Y) a0.X (-1000000) 1000000 _ y0)) h (fun h=>?_) (fun h=>?_)
 ·obtain⟨v1,y1,h⟩:=bm h
  refine x_frk 5 [(2,.call [] [] (bl v1) [])] (oI (Ti_inRange (Y:=Y) a0.Y (-1000000) 1000000 _ y1)) h (fun h=>?_) (fun h=>?_)
  ·obtain⟨v2,y2,h⟩:=bm h
   obtain rfl:=sj h
   exact x_end 6 [(2,.call [] [] (bl v2) [])] [] (oI (Ti_inRange (Y:=Y) a0.Z (-1000000) 1000000 _ y2)) oN 
  ·obtain rfl:=sj h
   exact x_end 6 [] [] oN oN 
 ·obtain rfl:=sj h
  exact x_end 11 [] [] oN oN 
def Di_Shifted_0(_n:Nat)(t13:Bool)(zg zh zi zj zl zm zn _zr _zs _zt _zu:Int):Option (Pl×Int) :=
 frk t13 (some ((Pl.mk 0 0 0 0),1)) ((Di_isCoef (w64 (zj-(w64 ((w64 ((w64 (zg*zl))+(w64 (zh*zm))))+(w64 (zi*zn))))))).bind fun v2=>frk (!v2) (some ((Pl.mk 0 0 0 0),2)) (some ((Pl.mk zg zh zi (w64 (zj-(w64 ((w64 ((w64 (zg*zl))+(w64 (zh*zm))))+(w64 (zi*zn))))))),0)))
theorem Ti_Shifted_0{Y}(n:Nat)(t13:Bool)(zg zh zi zj zl zm zn zr zs zt zu:Int)(r:(Pl×Int))(h:Di_Shifted_0 n t13 zg zh zi zj zl zm zn zr zs zt zu=some r):WT Y 127 [.code (cp [1,0,1] B127),.code (cp [1,1] B127)] (FT Tryz.f127 [] (.tup [.agg [iN r.1.A,iN r.1.B,iN r.1.C,iN r.1.D],iN r.2]) []) ⟨[(2,.ptr 2 0),(3,.ptr 3 0),(4,.ptr 4 0),(13,bl t13)],[(2,⟨true,0,[iN zg,iN zh,iN zi,iN zj]⟩),(3,⟨true,0,[iN zl,iN zm,iN zn]⟩),(4,⟨true,0,[iN zr,iN zs,iN zt,iN zu]⟩)]⟩:=by
 unfold Di_Shifted_0 at h
 refine x_frk 0 [] oN h (fun h=>?_) (fun h=>?_)
 ·obtain rfl:=sj h
  exact x_end 6 [] [] oN oN 
 ·obtain⟨v2,y2,h⟩:=bm h
  refine x_frk 34 [(24,.call [] [] (bl v2) [])] (oI (Ti_isCoef (Y:=Y) (w64 (zj-(w64 ((w64 ((w64 (zg*zl))+(w64 (zh*zm))))+(w64 (zi*zn)))))) _ y2)) h (fun h=>?_) (fun h=>?_)
  ·obtain rfl:=sj h
   exact x_end 6 [] [] oN oN 
  ·obtain rfl:=sj h
   exact x_end 7 [] [] oN oN 
def Di_Shifted(n:Nat)(a0:Pl)(a1:Pt):Option (Pl×Int) :=
 (Di_PlaneOk n a0).bind fun v0=>frk (!v0) (some ((Pl.mk 0 0 0 0),1)) ((Di_PtOk a1).bind fun v1=>Di_Shifted_0 n (!v1) a0.A a0.B a0.C a0.D a1.X a1.Y a1.Z 0 0 0 0)
theorem Ti_Shifted{Y}(n:Nat)(a0:Pl)(a1:Pt)(r:(Pl×Int))(h:Di_Shifted n a0 a1=some r):BT Y (.call 127 [.agg [iN a0.A,iN a0.B,iN a0.C,iN a0.D],.agg [iN a1.X,iN a1.Y,iN a1.Z]] (lk []) (.tup [.agg [iN r.1.A,iN r.1.B,iN r.1.C,iN r.1.D],iN r.2]) (lk [])):=by
 unfold Di_Shifted at h
 refine x_call (fn:=Tryz.f127) (c:=B127) (bs0:=[]) Tryz.func127 (by kernel_rfl) (by kernel_rfl) ?_
 obtain⟨v0,y0,h⟩:=bm h
 refine x_frk 14 [(5,.call [] [] (bl v0) [])] (oI (Ti_PlaneOk (Y:=Y) n a0 _ y0)) h (fun h=>?_) (fun h=>?_)
 ·obtain rfl:=sj h
  exact x_end 12 [] [] oN oN 
 ·obtain⟨v1,y1,h⟩:=bm h
  exact x_to 5 [(1,.call [] [] (bl v1) [])] (oI (Ti_PtOk (Y:=Y) a1 _ y1)) (Ti_Shifted_0 n (!v1) a0.A a0.B a0.C a0.D a1.X a1.Y a1.Z 0 0 0 0 r h) 
def Di_ShiftSolidLit1(n:Nat)(a0:Pl)(a1:Pt):Option (Pl×Bool) :=
 (Di_Shifted n a0 a1).bind fun v0=>some (v0.1,v0.2==0)
theorem Ti_ShiftSolidLit1{Y}(n:Nat)(a0:Pl)(a1:Pt)(r:(Pl×Bool))(h:Di_ShiftSolidLit1 n a0 a1=some r):BT Y (.call 126 [.agg [iN a0.A,iN a0.B,iN a0.C,iN a0.D],.cptr [iN a1.X,iN a1.Y,iN a1.Z]] (lk []) (.tup [.agg [iN r.1.A,iN r.1.B,iN r.1.C,iN r.1.D],bl r.2]) (lk [])):=by
 unfold Di_ShiftSolidLit1 at h
 refine x_call (fn:=Tryz.f126) (c:=B126) (bs0:=[]) Tryz.func126 (by kernel_rfl) (by kernel_rfl) ?_
 obtain⟨v0,y0,h⟩:=bm h
 obtain rfl:=sj h
 exact x_end 26 [(5,.call [] [] (.tup [.agg [iN v0.1.A,iN v0.1.B,iN v0.1.C,iN v0.1.D],iN v0.2]) [])] [] (oI (Ti_Shifted (Y:=Y) n a0 a1 _ y0)) oN 
def Di_movedfimpl_ShiftSolidLit1_b(n:Nat)(self:(Sol×Pt)→Option (Sol×Bool))(a:(Sol×Pt)):Option (Sol×Bool) :=
 match a with
 | (a0,a1)=>(Di_Solid_isLeaf a0).bind fun v0=>frk v0 ((Di_Leaf a0.inn).bind fun v1=>some (v1,true)) ((Di_ShiftSolidLit1 n a0.pl a1).bind fun v2=>(lget a0.kids 0).bind fun v3=>(self (v3,a1)).bind fun v4=>(lget a0.kids 1).bind fun v5=>(self (v5,a1)).bind fun v6=>(Di_nodeo1o2 v2.1 v4.1 v6.1).bind fun v7=>frk v2.2 (frk v4.2 (some (v7,v6.2)) (some (v7,false))) (some (v7,false)))
def Di_movedfimpl_ShiftSolidLit1(n:Nat)(a0:Sol)(a1:Pt):Option (Sol×Bool):=loopN (Di_movedfimpl_ShiftSolidLit1_b n) n (a0,a1)
theorem Ti_movedfimpl_ShiftSolidLit1_b{Y}(n:Nat):∀(m:Nat) (a:(Sol×Pt)) (r:(Sol×Bool)),loopN (Di_movedfimpl_ShiftSolidLit1_b n) m a=some r→∀(_:Unit),BT Y (.call 125 [eF a.1,.fnv 126 [.cptr [iN a.2.X,iN a.2.Y,iN a.2.Z]]] (lk []) (.tup [eS r.1,bl r.2]) (lk [])):=by
 refine loopN_ind (fun self hs a r h=>?_)
 have hself:∀(a:(Sol×Pt)) (r:(Sol×Bool)),self a=some r→BT Y (.call 125 [eF a.1,.fnv 126 [.cptr [iN a.2.X,iN a.2.Y,iN a.2.Z]]] (lk []) (.tup [eS r.1,bl r.2]) (lk [])):=fun a r h=>hs a r h ()
 intro _
 obtain⟨a0,a1⟩:=a
 unfold Di_movedfimpl_ShiftSolidLit1_b at h
 refine x_call (fn:=Tryz.f125) (c:=B125) (bs0:=[]) Tryz.func125 (by kernel_rfl) (by kernel_rfl) ?_
 obtain⟨v0,y0,h⟩:=bm h
 refine x_frk 11 [(3,.call [] [] (bl v0) [])] (oI (Ti_Solid_isLeaf (Y:=Y) a0 [] _ y0)) h (fun h=>?_) (fun h=>?_)
 ·obtain⟨v1,y1,h⟩:=bm h
  obtain rfl:=sj h
  exact x_end 8 [(2,.call [] [] (eS v1) [])] [] (oI (Ti_Leaf (Y:=Y) a0.inn _ y1)) oN 
 ·obtain⟨v2,y2,h⟩:=bm h
  obtain⟨v3,y3,h⟩:=bm h
  obtain⟨v4,y4,h⟩:=bm h
  obtain⟨v5,y5,h⟩:=bm h
  obtain⟨v6,y6,h⟩:=bm h
  obtain⟨v7,y7,h⟩:=bm h
  refine x_frk 52 [(3,.call [] [] (.tup [.agg [iN v2.1.A,iN v2.1.B,iN v2.1.C,iN v2.1.D],bl v2.2]) []),(8,.val (.cptr ((eSol false).c v3++(eSol false).f ((a0.kids).drop (Int.toNat 0+1))))),(2,.call [] [] (.tup [eS v4.1,bl v4.2]) []),(8,.val (.cptr ((eSol false).c v5++(eSol false).f ((a0.kids).drop (Int.toNat 1+1))))),(2,.call [] [] (.tup [eS v6.1,bl v6.2]) []),(9,.call [] [] (eS v7) [])] (oC (Ti_ShiftSolidLit1 (Y:=Y) n a0.pl a1 _ y2) (oC (ix (eSol false) y3) (oC (hself (v3,a1) _ y4) (oC (ix (eSol false) y5) (oC (hself (v5,a1) _ y6) (oI (Ti_nodeo1o2 (Y:=Y) v2.1 v4.1 v6.1 _ y7))))))) h (fun h=>?_) (fun h=>?_)
  ·refine x_frk 3 [] oN h (fun h=>?_) (fun h=>?_)
   ·obtain rfl:=sj h
    exact x_end 5 [] [] oN oN 
   ·obtain rfl:=sj h
    exact x_end 5 [] [] oN oN 
  ·obtain rfl:=sj h
   exact x_end 8 [] [] oN oN 
theorem Ti_movedfimpl_ShiftSolidLit1{Y}(n:Nat)(a0:Sol)(a1:Pt)(r:(Sol×Bool))(h:Di_movedfimpl_ShiftSolidLit1 n a0 a1=some r):BT Y (.call 125 [eF a0,.fnv 126 [.cptr [iN a1.X,iN a1.Y,iN a1.Z]]] (lk []) (.tup [eS r.1,bl r.2]) (lk [])):=Ti_movedfimpl_ShiftSolidLit1_b n n (a0,a1) r h ()
def Di_ShiftSolid_0(n:Nat)(t15 zg:Bool)(zh zi zj zk:Int)(zq:List Sol)(zl zm zn:Int)(_zr:Bool)(_zs _zt _zu _zai:Int):Option (Sol×Int) :=
 frk t15 (some ((Sol.mk false (Pl.mk 0 0 0 0) []),1)) ((Di_movedfimpl_ShiftSolidLit1 n (Sol.mk zg (Pl.mk zh zi zj zk) zq) (Pt.mk zl zm zn)).bind fun v2=>frk (!v2.2) (some ((Sol.mk false (Pl.mk 0 0 0 0) []),3)) (some (v2.1,0)))
theorem Ti_ShiftSolid_0{Y}(n:Nat)(t15 zg:Bool)(zh zi zj zk:Int)(zq:List Sol)(zl zm zn:Int)(zr:Bool)(zs zt zu zai:Int)(r:(Sol×Int))(h:Di_ShiftSolid_0 n t15 zg zh zi zj zk zq zl zm zn zr zs zt zu zai=some r):WT Y 74 [.code (cp [1,0,1] B74),.code (cp [1,1] B74)] (FT Tryz.f74 [] (.tup [eS r.1,iN r.2]) []) ⟨[(2,.ptr 2 0),(3,.ptr 3 0),(4,.ptr 4 0),(15,bl t15)],[(2,⟨true,0,[bl zg,iN zh,iN zi,iN zj,iN zk,.sl false 6 zq.length ((eSol false).f zq)]⟩),(3,⟨true,0,[iN zl,iN zm,iN zn]⟩),(4,⟨true,0,[bl zr,iN zs,iN zt,iN zu,iN zai,.nil]⟩)]⟩:=by
 unfold Di_ShiftSolid_0 at h
 refine x_frk 0 [] oN h (fun h=>?_) (fun h=>?_)
 ·obtain rfl:=sj h
  exact x_end 6 [] [(true,6)] oN oN 
 ·obtain⟨v2,y2,h⟩:=bm h
  refine x_frk 19 [(2,.call [] [] (.tup [eS v2.1,bl v2.2]) [])] (oC (Ti_movedfimpl_ShiftSolidLit1 (Y:=Y) n (Sol.mk zg (Pl.mk zh zi zj zk) zq) (Pt.mk zl zm zn) _ y2) (oI (show hasSh (.tup [eS v2.1,bl v2.2])=false by simp[eS,hasSh,hasShL,nSh,nShI,nShB,nShP,nShT,nShN,nShPs]))) h (fun h=>?_) (fun h=>?_)
  ·obtain rfl:=sj h
   exact x_end 6 [] [(true,6)] oN oN 
  ·obtain rfl:=sj h
   exact x_end 7 [] [] oN oN 
def Di_ShiftSolid(n:Nat)(a0:Sol)(a1:Pt):Option (Sol×Int) :=
 (Di_PtOk a1).bind fun v0=>frk (!v0) (some ((Sol.mk false (Pl.mk 0 0 0 0) []),1)) ((Di_SolidOk n a0).bind fun v1=>Di_ShiftSolid_0 n (!v1) a0.inn a0.pl.A a0.pl.B a0.pl.C a0.pl.D a0.kids a1.X a1.Y a1.Z false 0 0 0 0)
theorem Ti_ShiftSolid{Y}(n:Nat)(a0:Sol)(a1:Pt)(r:(Sol×Int))(h:Di_ShiftSolid n a0 a1=some r):BT Y (.call 74 [eF a0,.agg [iN a1.X,iN a1.Y,iN a1.Z]] (lk []) (.tup [eS r.1,iN r.2]) (lk [])):=by
 unfold Di_ShiftSolid at h
 refine x_call (fn:=Tryz.f74) (c:=B74) (bs0:=[]) Tryz.func74 (by kernel_rfl) (by kernel_rfl) ?_
 obtain⟨v0,y0,h⟩:=bm h
 refine x_frk 14 [(5,.call [] [] (bl v0) [])] (oI (Ti_PtOk (Y:=Y) a1 _ y0)) h (fun h=>?_) (fun h=>?_)
 ·obtain rfl:=sj h
  exact x_end 12 [] [(true,6)] oN oN 
 ·obtain⟨v1,y1,h⟩:=bm h
  exact x_to 5 [(1,.call [] [] (bl v1) [])] (oI (Ti_SolidOk (Y:=Y) n a0 _ y1)) (Ti_ShiftSolid_0 n (!v1) a0.inn a0.pl.A a0.pl.B a0.pl.C a0.pl.D a0.kids a1.X a1.Y a1.Z false 0 0 0 0 r h) 
def Di_Move_0(n:Nat)(a0:Dk8):Option (Dk8×Int) :=
 (Di_copyDesk n a0).bind fun v1=>some (v1,1)
theorem Ti_Move_0{Y}(n:Nat)(a0:Dk8)(r:(Dk8×Int))(h:Di_Move_0 n a0=some r):WT Y 28 [.code (cp [1,0,0,1,0,0] B28),.code (cp [1,0,0,1,0,1] B28),.blk 0,.code (cp [1,1] B28)] (FT Tryz.f28 [] (.tup [.agg (cT52o r.1),iN r.2]) []) ⟨[(4,.ptr 4 0),(8,.ptr 8 0)],[(4,⟨true,0,(cT52 a0)⟩),(8,⟨true,0,zD⟩)]⟩:=by
 unfold Di_Move_0 at h
 obtain⟨v1,y1,h⟩:=bm h
 obtain rfl:=sj h
 exact x_end 6 [(1,.call [] [] (.agg (cT52o v1)) [])] [] (oI (Ti_copyDesk (Y:=Y) n a0 _ y1)) oN 
def Di_Move_3(n:Nat)(t1:Int)(t51:Bool)(a0:Dk8)(zbi:Bool)(zbj zbk zbl zbm:Int)(zbn:List Sol):Option (Dk8×Int) :=
 frk t51 ((Di_copyDesk n a0).bind fun v8=>some (v8,3)) ((Di_keep n a0 t1 (Sol.mk zbi (Pl.mk zbj zbk zbl zbm) zbn)).bind fun v9=>some v9)
theorem Ti_Move_3{Y}(n:Nat)(t1:Int)(t51:Bool)(a0:Dk8)(zbi:Bool)(zbj zbk zbl zbm:Int)(zbn:List Sol)(r:(Dk8×Int))(h:Di_Move_3 n t1 t51 a0 zbi zbj zbk zbl zbm zbn=some r):WT Y 28 [.code (cp [1,1,1,0,1] B28),.code (cp [1,1,1,1] B28)] (FT Tryz.f28 [] (.tup [.agg (cT52o r.1),iN r.2]) []) ⟨[(1,iN t1),(4,.ptr 4 0),(8,.ptr 8 0),(10,.ptr 10 0),(51,bl t51)],[(4,⟨true,0,(cT52 a0)⟩),(8,⟨true,0,zD⟩),(10,⟨true,0,[bl zbi,iN zbj,iN zbk,iN zbl,iN zbm,.sl true 6 zbn.length ((eSol true).f zbn)]⟩)]⟩:=by
 unfold Di_Move_3 at h
 refine x_frk 0 [] oN h (fun h=>?_) (fun h=>?_)
 ·obtain⟨v8,y8,h⟩:=bm h
  obtain rfl:=sj h
  exact x_end 7 [(1,.call [] [] (.agg (cT52o v8)) [])] [] (oI (Ti_copyDesk (Y:=Y) n a0 _ y8)) oN 
 ·obtain⟨v9,y9,h⟩:=bm h
  obtain rfl:=sj h
  exact x_end 12 [(2,.rows [(eSol false).f zbn]),(0,.call [] [] (.tup [.agg (cT52o v9.1),iN v9.2]) [])] [] (oC (Enc.share (eSol true) (eSol false) (sSol true) zbn) (oI (Ti_keep (Y:=Y) n a0 t1 (Sol.mk zbi (Pl.mk zbj zbk zbl zbm) zbn) _ y9))) oN 
def Di_Move_2(n:Nat)(t1 t2:Int)(t33:Bool)(a0:Dk8)(zz zaa zab:Int):Option (Dk8×Int) :=
 frk t33 ((Di_copyDesk n a0).bind fun v6=>some (v6,2)) (frk (t2==0) ((Di_ShiftSolid n a0.1.1 (Pt.mk zz zaa zab)).bind fun v7=>Di_Move_3 n t1 (v7.2 != 0) a0 v7.1.inn v7.1.pl.A v7.1.pl.B v7.1.pl.C v7.1.pl.D v7.1.kids) (frk (t2==1) ((Di_ShiftSolid n a0.1.2.1 (Pt.mk zz zaa zab)).bind fun v10=>Di_Move_3 n t1 (v10.2 != 0) a0 v10.1.inn v10.1.pl.A v10.1.pl.B v10.1.pl.C v10.1.pl.D v10.1.kids) (frk (t2==2) ((Di_ShiftSolid n a0.1.2.2.1 (Pt.mk zz zaa zab)).bind fun v11=>Di_Move_3 n t1 (v11.2 != 0) a0 v11.1.inn v11.1.pl.A v11.1.pl.B v11.1.pl.C v11.1.pl.D v11.1.kids) (frk (t2==3) ((Di_ShiftSolid n a0.1.2.2.2.1 (Pt.mk zz zaa zab)).bind fun v12=>Di_Move_3 n t1 (v12.2 != 0) a0 v12.1.inn v12.1.pl.A v12.1.pl.B v12.1.pl.C v12.1.pl.D v12.1.kids) (frk (t2==4) ((Di_ShiftSolid n a0.1.2.2.2.2.1 (Pt.mk zz zaa zab)).bind fun v13=>Di_Move_3 n t1 (v13.2 != 0) a0 v13.1.inn v13.1.pl.A v13.1.pl.B v13.1.pl.C v13.1.pl.D v13.1.kids) (frk (t2==5) ((Di_ShiftSolid n a0.1.2.2.2.2.2.1 (Pt.mk zz zaa zab)).bind fun v14=>Di_Move_3 n t1 (v14.2 != 0) a0 v14.1.inn v14.1.pl.A v14.1.pl.B v14.1.pl.C v14.1.pl.D v14.1.kids) (frk (t2==6) ((Di_ShiftSolid n a0.1.2.2.2.2.2.2.1 (Pt.mk zz zaa zab)).bind fun v15=>Di_Move_3 n t1 (v15.2 != 0) a0 v15.1.inn v15.1.pl.A v15.1.pl.B v15.1.pl.C v15.1.pl.D v15.1.kids) (frk (t2==7) ((Di_ShiftSolid n a0.1.2.2.2.2.2.2.2 (Pt.mk zz zaa zab)).bind fun v16=>Di_Move_3 n t1 (v16.2 != 0) a0 v16.1.inn v16.1.pl.A v16.1.pl.B v16.1.pl.C v16.1.pl.D v16.1.kids) (none)))))))))
theorem Ti_Move_2{Y}(n:Nat)(t1 t2:Int)(t33:Bool)(a0:Dk8)(zz zaa zab:Int)(r:(Dk8×Int))(h:Di_Move_2 n t1 t2 t33 a0 zz zaa zab=some r):WT Y 28 [.code (cp [1,0,0,1,1,1] B28),.blk 0,.code (cp [1,1] B28)] (FT Tryz.f28 [] (.tup [.agg (cT52o r.1),iN r.2]) []) ⟨[(1,iN t1),(2,iN t2),(4,.ptr 4 0),(7,.ptr 7 0),(8,.ptr 8 0),(33,bl t33)],[(4,⟨true,0,(cT52 a0)⟩),(7,⟨true,0,[iN zz,iN zaa,iN zab]⟩),(8,⟨true,0,zD⟩)]⟩:=by
 unfold Di_Move_2 at h
 refine x_frk 0 [] oN h (fun h=>?_) (fun h=>?_)
 ·obtain⟨v6,y6,h⟩:=bm h
  obtain rfl:=sj h
  exact x_end 7 [(1,.call [] [] (.agg (cT52o v6)) [])] [] (oI (Ti_copyDesk (Y:=Y) n a0 _ y6)) oN 
 ·refine x_pt 6 [] oN (by kernel_rfl) ?_
  iterate 8
   rcases frk_eq h with ⟨hc,hk206⟩ | h
   ·subst hc
    replace h:=hk206
    obtain⟨v7,y7,h⟩:=bm h
    exact x_to 17 [(3,.call [] [] (.tup [eS v7.1,iN v7.2]) [])] (oI (Ti_ShiftSolid (Y:=Y) n _ (Pt.mk zz zaa zab) _ y7)) (Ti_Move_3 n t1 (v7.2 != 0) a0 v7.1.inn v7.1.pl.A v7.1.pl.B v7.1.pl.C v7.1.pl.D v7.1.kids r h) 
  exact absurd h (by simp)
def Di_Move_1(n:Nat)(t1 t2:Int)(t12:Bool)(a0:Dk8)(zz zaa zab:Int):Option (Dk8×Int) :=
 frk t12 ((Di_copyDesk n a0).bind fun v5=>some (v5,1)) (frk (t2==0) (Di_Move_2 n t1 0 (!a0.2.1) a0 zz zaa zab) (frk (t2==1) (Di_Move_2 n t1 1 (!a0.2.2.1) a0 zz zaa zab) (frk (t2==2) (Di_Move_2 n t1 2 (!a0.2.2.2.1) a0 zz zaa zab) (frk (t2==3) (Di_Move_2 n t1 3 (!a0.2.2.2.2.1) a0 zz zaa zab) (frk (t2==4) (Di_Move_2 n t1 4 (!a0.2.2.2.2.2.1) a0 zz zaa zab) (frk (t2==5) (Di_Move_2 n t1 5 (!a0.2.2.2.2.2.2.1) a0 zz zaa zab) (frk (t2==6) (Di_Move_2 n t1 6 (!a0.2.2.2.2.2.2.2.1) a0 zz zaa zab) (frk (t2==7) (Di_Move_2 n t1 7 (!a0.2.2.2.2.2.2.2.2) a0 zz zaa zab) (none)))))))))
theorem Ti_Move_1{Y}(n:Nat)(t1 t2:Int)(t12:Bool)(a0:Dk8)(zz zaa zab:Int)(r:(Dk8×Int))(h:Di_Move_1 n t1 t2 t12 a0 zz zaa zab=some r):WT Y 28 [.code (cp [1,0,0,1] B28),.blk 0,.code (cp [1,1] B28)] (FT Tryz.f28 [] (.tup [.agg (cT52o r.1),iN r.2]) []) ⟨[(1,iN t1),(2,iN t2),(4,.ptr 4 0),(7,.ptr 7 0),(8,.ptr 8 0),(12,bl t12)],[(4,⟨true,0,(cT52 a0)⟩),(7,⟨true,0,[iN zz,iN zaa,iN zab]⟩),(8,⟨true,0,zD⟩)]⟩:=by
 unfold Di_Move_1 at h
 refine x_frk 0 [] oN h (fun h=>?_) (fun h=>?_)
 ·obtain⟨v5,y5,h⟩:=bm h
  obtain rfl:=sj h
  exact x_end 7 [(1,.call [] [] (.agg (cT52o v5)) [])] [] (oI (Ti_copyDesk (Y:=Y) n a0 _ y5)) oN 
 ·refine x_pt 4 [] oN (by kernel_rfl) ?_
  rcases frk_eq h with ⟨hc,hk207⟩ | h
  ·subst hc
   replace h:=hk207
   exact x_to 5 [] oN (Ti_Move_2 n t1 0 (!a0.2.1) a0 zz zaa zab r h) 
  rcases frk_eq h with ⟨hc,hk208⟩ | h
  ·subst hc
   replace h:=hk208
   exact x_to 5 [] oN (Ti_Move_2 n t1 1 (!a0.2.2.1) a0 zz zaa zab r h) 
  rcases frk_eq h with ⟨hc,hk209⟩ | h
  ·subst hc
   replace h:=hk209
   exact x_to 5 [] oN (Ti_Move_2 n t1 2 (!a0.2.2.2.1) a0 zz zaa zab r h) 
  rcases frk_eq h with ⟨hc,hk210⟩ | h
  ·subst hc
   replace h:=hk210
   exact x_to 5 [] oN (Ti_Move_2 n t1 3 (!a0.2.2.2.2.1) a0 zz zaa zab r h) 
  rcases frk_eq h with ⟨hc,hk211⟩ | h
  ·subst hc
   replace h:=hk211
   exact x_to 5 [] oN (Ti_Move_2 n t1 4 (!a0.2.2.2.2.2.1) a0 zz zaa zab r h) 
  rcases frk_eq h with ⟨hc,hk212⟩ | h
  ·subst hc
   replace h:=hk212
   exact x_to 5 [] oN (Ti_Move_2 n t1 5 (!a0.2.2.2.2.2.2.1) a0 zz zaa zab r h) 
  rcases frk_eq h with ⟨hc,hk213⟩ | h
  ·subst hc
   replace h:=hk213
   exact x_to 5 [] oN (Ti_Move_2 n t1 6 (!a0.2.2.2.2.2.2.2.1) a0 zz zaa zab r h) 
  rcases frk_eq h with ⟨hc,hk214⟩ | h
  ·subst hc
   replace h:=hk214
   exact x_to 5 [] oN (Ti_Move_2 n t1 7 (!a0.2.2.2.2.2.2.2.2) a0 zz zaa zab r h) 
  exact absurd h (by simp)
def Di_Move(n:Nat)(a0:Dk8)(a1 a2:Int)(a3:Pt):Option (Dk8×Int) :=
 (Di_isPlace a1).bind fun v0=>frk (!v0) (Di_Move_0 n a0) ((Di_isPlace a2).bind fun v2=>frk (!v2) (Di_Move_0 n a0) ((Di_PtOk a3).bind fun v3=>frk (!v3) (Di_Move_0 n a0) ((Di_DeskOk n a0).bind fun v4=>Di_Move_1 n a1 a2 (!v4) a0 a3.X a3.Y a3.Z)))
theorem Ti_Move{Y}(n:Nat)(a0:Dk8)(a1 a2:Int)(a3:Pt)(r:(Dk8×Int))(h:Di_Move n a0 a1 a2 a3=some r):BT Y (.call 28 [.agg (cT52 a0),iN a1,iN a2,.agg [iN a3.X,iN a3.Y,iN a3.Z]] (lk []) (.tup [.agg (cT52o r.1),iN r.2]) (lk [])):=by
 unfold Di_Move at h
 refine x_call (fn:=Tryz.f28) (c:=B28) (bs0:=[]) Tryz.func28 (by kernel_rfl) (by kernel_rfl) ?_
 obtain⟨v0,y0,h⟩:=bm h
 refine x_frk 15 [(5,.call [] [] (bl v0) [])] (oI (Ti_isPlace (Y:=Y) a1 _ y0)) h (fun h=>?_) (fun h=>?_)
 ·exact x_to 18 [] oN (Ti_Move_0 n a0 r h) 
 ·obtain⟨v2,y2,h⟩:=bm h
  refine x_frk 5 [(1,.call [] [] (bl v2) [])] (oI (Ti_isPlace (Y:=Y) a2 _ y2)) h (fun h=>?_) (fun h=>?_)
  ·exact x_to 13 [] oN (Ti_Move_0 n a0 r h) 
  ·obtain⟨v3,y3,h⟩:=bm h
   refine x_frk 5 [(1,.call [] [] (bl v3) [])] (oI (Ti_PtOk (Y:=Y) a3 _ y3)) h (fun h=>?_) (fun h=>?_)
   ·exact x_to 8 [] oN (Ti_Move_0 n a0 r h) 
   ·obtain⟨v4,y4,h⟩:=bm h
    exact x_to 6 [(1,.call [] [] (bl v4) [])] (oI (Ti_DeskOk (Y:=Y) n a0 _ y4)) (Ti_Move_1 n a1 a2 (!v4) a0 a3.X a3.Y a3.Z r h) 
def Di_Put_0(_n:Nat)(_zam:Bool)(_zan _zao _zap _zaq:Int):Option (Sol×Bool) :=
 (Di_Leaf false).bind fun v1=>some (v1,false)
theorem Ti_Put_0{Y}(n:Nat)(zam:Bool)(zan zao zap zaq:Int)(r:(Sol×Bool))(h:Di_Put_0 n zam zan zao zap zaq=some r):WT Y 128 [.code (cp [1,0,1,0,0] B128),.code (cp [1,0,1,0,1] B128),.code (cp [1,1] B128)] (FT Tryz.f128 [] (.tup [eS r.1,bl r.2]) []) ⟨[(6,.ptr 6 0)],[(6,⟨true,0,[bl zam,iN zan,iN zao,iN zap,iN zaq,.nil]⟩)]⟩:=by
 unfold Di_Put_0 at h
 obtain⟨v1,y1,h⟩:=bm h
 obtain rfl:=sj h
 exact x_end 5 [(0,.call [] [] (eS v1) [])] [] (oI (Ti_Leaf (Y:=Y) false _ y1)) oN 
def Di_Put_1(n:Nat)(t2:Int)(t20 zl:Bool)(zm zn zo zp:Int)(zaz:List Sol)(zr:Bool)(zs zt zu zai:Int)(zaj:List Sol)(_zam:Bool)(_zan _zao _zap _zaq:Int):Option (Sol×Bool) :=
 frk t20 ((Di_Leaf false).bind fun v4=>some (v4,false)) ((Di_put n (Sol.mk zl (Pl.mk zm zn zo zp) zaz) (Sol.mk zr (Pl.mk zs zt zu zai) zaj) t2).bind fun v5=>some v5)
theorem Ti_Put_1{Y}(n:Nat)(t2:Int)(t20 zl:Bool)(zm zn zo zp:Int)(zaz:List Sol)(zr:Bool)(zs zt zu zai:Int)(zaj:List Sol)(zam:Bool)(zan zao zap zaq:Int)(r:(Sol×Bool))(h:Di_Put_1 n t2 t20 zl zm zn zo zp zaz zr zs zt zu zai zaj zam zan zao zap zaq=some r):WT Y 128 [.code (cp [1,0,1] B128),.code (cp [1,1] B128)] (FT Tryz.f128 [] (.tup [eS r.1,bl r.2]) []) ⟨[(2,iN t2),(3,.ptr 3 0),(4,.ptr 4 0),(6,.ptr 6 0),(20,bl t20)],[(3,⟨true,0,[bl zl,iN zm,iN zn,iN zo,iN zp,.sl false 6 zaz.length ((eSol false).f zaz)]⟩),(4,⟨true,0,[bl zr,iN zs,iN zt,iN zu,iN zai,.sl false 6 zaj.length ((eSol false).f zaj)]⟩),(6,⟨true,0,[bl zam,iN zan,iN zao,iN zap,iN zaq,.nil]⟩)]⟩:=by
 unfold Di_Put_1 at h
 refine x_frk 0 [] oN h (fun h=>?_) (fun h=>?_)
 ·obtain⟨v4,y4,h⟩:=bm h
  obtain rfl:=sj h
  exact x_end 6 [(0,.call [] [] (eS v4) [])] [] (oI (Ti_Leaf (Y:=Y) false _ y4)) oN 
 ·obtain⟨v5,y5,h⟩:=bm h
  obtain rfl:=sj h
  exact x_end 12 [(3,.call [] [] (.tup [eS v5.1,bl v5.2]) [])] [] (oI (Ti_put (Y:=Y) n (Sol.mk zl (Pl.mk zm zn zo zp) zaz) (Sol.mk zr (Pl.mk zs zt zu zai) zaj) t2 _ y5)) oN 
def Di_Put(n:Nat)(a0:Sol)(a1:Sol)(a2:Int):Option (Sol×Bool) :=
 (Di_isOp a2).bind fun v0=>frk (!v0) (Di_Put_0 n false 0 0 0 0) ((Di_SolidOk n a0).bind fun v2=>frk (!v2) (Di_Put_0 n false 0 0 0 0) ((Di_SolidOk n a1).bind fun v3=>Di_Put_1 n a2 (!v3) a0.inn a0.pl.A a0.pl.B a0.pl.C a0.pl.D a0.kids a1.inn a1.pl.A a1.pl.B a1.pl.C a1.pl.D a1.kids false 0 0 0 0))
theorem Ti_Put{Y}(n:Nat)(a0:Sol)(a1:Sol)(a2:Int)(r:(Sol×Bool))(h:Di_Put n a0 a1 a2=some r):BT Y (.call 128 [eF a0,eF a1,iN a2] (lk []) (.tup [eS r.1,bl r.2]) (lk [])):=by
 unfold Di_Put at h
 refine x_call (fn:=Tryz.f128) (c:=B128) (bs0:=[]) Tryz.func128 (by kernel_rfl) (by kernel_rfl) ?_
 obtain⟨v0,y0,h⟩:=bm h
 refine x_frk 14 [(5,.call [] [] (bl v0) [])] (oI (Ti_isOp (Y:=Y) a2 _ y0)) h (fun h=>?_) (fun h=>?_)
 ·exact x_to 12 [] oN (Ti_Put_0 n false 0 0 0 0 r h) 
 ·obtain⟨v2,y2,h⟩:=bm h
  refine x_frk 5 [(1,.call [] [] (bl v2) [])] (oI (Ti_SolidOk (Y:=Y) n a0 _ y2)) h (fun h=>?_) (fun h=>?_)
  ·exact x_to 7 [] oN (Ti_Put_0 n false 0 0 0 0 r h) 
  ·obtain⟨v3,y3,h⟩:=bm h
   exact x_to 5 [(1,.call [] [] (bl v3) [])] (oI (Ti_SolidOk (Y:=Y) n a1 _ y3)) (Ti_Put_1 n a2 (!v3) a0.inn a0.pl.A a0.pl.B a0.pl.C a0.pl.D a0.kids a1.inn a1.pl.A a1.pl.B a1.pl.C a1.pl.D a1.kids false 0 0 0 0 r h) 
def Di_Solid_has_b(_n:Nat)(self:(Sol×Bool)→Option Bool)(a:(Sol×Bool)):Option Bool :=
 match a with
 | (a0,a1)=>(Di_Solid_isLeaf a0).bind fun v0=>frk v0 (some (a0.inn==a1)) ((lget a0.kids 0).bind fun v1=>(self (v1,a1)).bind fun v2=>frk v2 (some true) ((lget a0.kids 1).bind fun v3=>(self (v3,a1)).bind fun v4=>some v4))
def Di_Solid_has(n:Nat)(a0:Sol)(a1:Bool):Option Bool:=loopN (Di_Solid_has_b n) n (a0,a1)
theorem Ti_Solid_has_b{Y}(n:Nat):∀(m:Nat) (a:(Sol×Bool)) (r:Bool),loopN (Di_Solid_has_b n) m a=some r→∀(q0:List AV),BT Y (.call 59 [.cptr ([bl a.1.inn,iN a.1.pl.A,iN a.1.pl.B,iN a.1.pl.C,iN a.1.pl.D,.sl false 6 a.1.kids.length ((eSol false).f a.1.kids)]++q0),bl a.2] (lk []) (bl r) (lk [])):=by
 refine loopN_ind (fun self hs a r h=>?_)
 have hself:∀(a:(Sol×Bool)) (q0:List AV) (r:Bool),self a=some r→BT Y (.call 59 [.cptr ([bl a.1.inn,iN a.1.pl.A,iN a.1.pl.B,iN a.1.pl.C,iN a.1.pl.D,.sl false 6 a.1.kids.length ((eSol false).f a.1.kids)]++q0),bl a.2] (lk []) (bl r) (lk [])):=fun a q0 r h=>hs a r h q0
 intro q0
 obtain⟨a0,a1⟩:=a
 unfold Di_Solid_has_b at h
 refine x_call (fn:=Tryz.f59) (c:=B59) (bs0:=[]) Tryz.func59 (by kernel_rfl) (by kernel_rfl) ?_
 obtain⟨v0,y0,h⟩:=bm h
 refine x_frk 10 [(2,.call [] [] (bl v0) [])] (oI (Ti_Solid_isLeaf (Y:=Y) a0 q0 _ y0)) h (fun h=>?_) (fun h=>?_)
 ·obtain rfl:=sj h
  exact x_end 10 [] [] oN oN 
 ·obtain⟨v1,y1,h⟩:=bm h
  obtain⟨v2,y2,h⟩:=bm h
  refine x_frk 11 [(4,.val (.cptr ((eSol false).c v1++(eSol false).f ((a0.kids).drop (Int.toNat 0+1))))),(1,.call [] [] (bl v2) [])] (oC (ix (eSol false) y1) (oI (hself (v1,a1) ((eSol false).f ((a0.kids).drop (Int.toNat 0+1))) _ y2))) h (fun h=>?_) (fun h=>?_)
  ·obtain rfl:=sj h
   exact x_end 10 [] [] oN oN 
  ·obtain⟨v3,y3,h⟩:=bm h
   obtain⟨v4,y4,h⟩:=bm h
   obtain rfl:=sj h
   exact x_end 10 [(4,.val (.cptr ((eSol false).c v3++(eSol false).f ((a0.kids).drop (Int.toNat 1+1))))),(1,.call [] [] (bl v4) [])] [] (oC (ix (eSol false) y3) (oI (hself (v3,a1) ((eSol false).f ((a0.kids).drop (Int.toNat 1+1))) _ y4))) oN 
theorem Ti_Solid_has{Y}(n:Nat)(a0:Sol)(a1:Bool)(q0:List AV)(r:Bool)(h:Di_Solid_has n a0 a1=some r):BT Y (.call 59 [.cptr ([bl a0.inn,iN a0.pl.A,iN a0.pl.B,iN a0.pl.C,iN a0.pl.D,.sl false 6 a0.kids.length ((eSol false).f a0.kids)]++q0),bl a1] (lk []) (bl r) (lk [])):=Ti_Solid_has_b n n (a0,a1) r h q0
def Di_isNothing(n:Nat)(a0:Sol)(a1:Sol)(a2:Int):Option Bool :=
 (Di_Put n a0 a1 a2).bind fun v0=>frk v0.2 ((Di_Solid_has n v0.1 true).bind fun v1=>some (!v1)) (some false)
theorem Ti_isNothing{Y}(n:Nat)(a0:Sol)(a1:Sol)(a2:Int)(r:Bool)(h:Di_isNothing n a0 a1 a2=some r):BT Y (.call 76 [eF a0,eF a1,iN a2] (lk []) (bl r) (lk [])):=by
 unfold Di_isNothing at h
 refine x_call (fn:=Tryz.f76) (c:=B76) (bs0:=[]) Tryz.func76 (by kernel_rfl) (by kernel_rfl) ?_
 obtain⟨v0,y0,h⟩:=bm h
 refine x_frk 23 [(6,.call [] [] (.tup [eS v0.1,bl v0.2]) [])] (oI (Ti_Put (Y:=Y) n a0 a1 a2 _ y0)) h (fun h=>?_) (fun h=>?_)
 ·obtain⟨v1,y1,h⟩:=bm h
  obtain rfl:=sj h
  exact x_end 5 [(0,.call [] [(eSol false).f v0.1.kids] (bl v1) [])] [] (oC (Ti_Solid_has (Y:=Y) n v0.1 true [] _ y1) (oI (Enc.share (eSol true) (eSol false) (sSol true) v0.1.kids))) oN 
 ·obtain rfl:=sj h
  exact x_end 5 [] [] oN oN 
def Di_Same(n:Nat)(a0:Sol)(a1:Sol):Option Bool :=
 (Di_isNothing n a0 a1 4).bind fun v0=>some v0
theorem Ti_Same{Y}(n:Nat)(a0:Sol)(a1:Sol)(r:Bool)(h:Di_Same n a0 a1=some r):BT Y (.call 30 [eF a0,eF a1] (lk []) (bl r) (lk [])):=by
 unfold Di_Same at h
 refine x_call (fn:=Tryz.f30) (c:=B30) (bs0:=[]) Tryz.func30 (by kernel_rfl) (by kernel_rfl) ?_
 obtain⟨v0,y0,h⟩:=bm h
 obtain rfl:=sj h
 exact x_end 13 [(5,.call [] [] (bl v0) [])] [] (oI (Ti_isNothing (Y:=Y) n a0 a1 4 _ y0)) oN 
def Di_Nothing(n:Nat)(a0:Sol):Option Bool :=
 (Di_SolidOk n a0).bind fun v0=>frk v0 ((Di_Solid_has n a0 true).bind fun v1=>some (!v1)) (some false)
theorem Ti_Nothing{Y}(n:Nat)(a0:Sol)(r:Bool)(h:Di_Nothing n a0=some r):BT Y (.call 19 [eF a0] (lk []) (bl r) (lk [])):=by
 unfold Di_Nothing at h
 refine x_call (fn:=Tryz.f19) (c:=B19) (bs0:=[]) Tryz.func19 (by kernel_rfl) (by kernel_rfl) ?_
 obtain⟨v0,y0,h⟩:=bm h
 refine x_frk 10 [(3,.call [] [] (bl v0) [])] (oI (Ti_SolidOk (Y:=Y) n a0 _ y0)) h (fun h=>?_) (fun h=>?_)
 ·obtain⟨v1,y1,h⟩:=bm h
  obtain rfl:=sj h
  exact x_end 5 [(0,.call [] [] (bl v1) [])] [] (oI (Ti_Solid_has (Y:=Y) n a0 true [] _ y1)) oN 
 ·obtain rfl:=sj h
  exact x_end 5 [] [] oN oN 
def Di_NodesOf(n:Nat)(a0:Sol):Option Int :=
 (Di_SolidOk n a0).bind fun v0=>frk (!v0) (some 0) ((Di_Solid_nodes n a0).bind fun v1=>some v1)
theorem Ti_NodesOf{Y}(n:Nat)(a0:Sol)(r:Int)(h:Di_NodesOf n a0=some r):BT Y (.call 31 [eF a0] (lk []) (iN r) (lk [])):=by
 unfold Di_NodesOf at h
 refine x_call (fn:=Tryz.f31) (c:=B31) (bs0:=[]) Tryz.func31 (by kernel_rfl) (by kernel_rfl) ?_
 obtain⟨v0,y0,h⟩:=bm h
 refine x_frk 12 [(3,.call [] [] (bl v0) [])] (oI (Ti_SolidOk (Y:=Y) n a0 _ y0)) h (fun h=>?_) (fun h=>?_)
 ·obtain rfl:=sj h
  exact x_end 4 [] [] oN oN 
 ·obtain⟨v1,y1,h⟩:=bm h
  obtain rfl:=sj h
  exact x_end 6 [(0,.call [] [] (iN v1) [])] [] (oI (Ti_Solid_nodes (Y:=Y) n a0 [] _ y1)) oN 
def Dlaws_FnDesk_1(n:Nat)(v10:(Dk8×Int))(v11:(Dk8×Int))(v12:(Dk8×Int))(v13:(Dk8×Int))(v14:(Dk8×Int))(zv:Bool)(zw zx zy zak:Int)(zal:List Sol)(v4:(Dk8×Int)):Option Bool :=
 frk v4.1.2.1 ((Di_SameTree n v4.1.1.1 (Sol.mk zv (Pl.mk zw zx zy zak) zal)).bind fun v15=>frk v15 (frk (v10.2==0) ((Di_Same n v10.1.1.1 (Sol.mk zv (Pl.mk zw zx zy zak) zal)).bind fun v16=>frk v16 (frk (v11.2==0) ((Di_Nothing n v11.1.1.1).bind fun v17=>frk v17 (frk (v12.2==0) (frk (!v12.1.2.1) (frk (v13.2==2) (frk (v14.2==0) ((Di_SameTree n v14.1.1.1 (Sol.mk zv (Pl.mk zw zx zy zak) zal)).bind fun v18=>frk v18 ((Di_Held n v12.1).bind fun v19=>(Di_NodesOf n (Sol.mk zv (Pl.mk zw zx zy zak) zal)).bind fun v20=>(Di_Held n v4.1).bind fun v21=>some ((w64 (v19+v20))==v21)) (some false)) (some false)) (some false)) (some false)) (some false)) (some false)) (some false)) (some false)) (some false)) (some false)) (some false)
theorem Tlaws_FnDesk_1{Y}(n:Nat)(v10:(Dk8×Int))(v11:(Dk8×Int))(v12:(Dk8×Int))(v13:(Dk8×Int))(v14:(Dk8×Int))(zv:Bool)(zw zx zy zak:Int)(zal:List Sol)(v4:(Dk8×Int))(r:Bool)(h:Dlaws_FnDesk_1 n v10 v11 v12 v13 v14 zv zw zx zy zak zal v4=some r):WT Y 5 [.code (cp [1,1,1,1,1,1,1,1,1,1,1,1,1,1,0] B5),.code (cp [1,1,1,1,1,1,1,1,1,1,1,1,1,1,1] B5)] (FT Tryz.f5 [] (bl r) []) ⟨[(4,iN 0),(5,.ptr 5 0),(7,.ptr 7 0),(11,.ptr 11 0),(12,iN v10.2),(13,.ptr 13 0),(14,iN v11.2),(15,.ptr 15 0),(16,iN v12.2),(18,iN v13.2),(19,.ptr 19 0),(20,iN v14.2)],[(5,⟨true,0,[bl zv,iN zw,iN zx,iN zy,iN zak,.sl true 6 zal.length ((eSol true).f zal)]⟩),(7,⟨true,0,(cT52o v4.1)⟩),(11,⟨true,0,(cT52o v10.1)⟩),(13,⟨true,0,(cT52o v11.1)⟩),(15,⟨true,0,(cT52o v12.1)⟩),(19,⟨true,0,(cT52o v14.1)⟩)]⟩:=by
 unfold Dlaws_FnDesk_1 at h
 refine x_frk 6 [] oN h (fun h=>?_) (fun h=>?_)
 ·obtain⟨v15,y15,h⟩:=bm h
  refine x_frk 8 [(3,.rows [(eSol false).f v4.1.1.1.kids]),(0,.rows [(eSol false).f zal]),(0,.call [] [] (bl v15) [])] (oC (Enc.share (eSol true) (eSol false) (sSol true) v4.1.1.1.kids) (oC (Enc.share (eSol true) (eSol false) (sSol true) zal) (oI (Ti_SameTree (Y:=Y) n v4.1.1.1 (Sol.mk zv (Pl.mk zw zx zy zak) zal) _ y15)))) h (fun h=>?_) (fun h=>?_)
  ·refine x_frk 4 [] oN h (fun h=>?_) (fun h=>?_)
   ·obtain⟨v16,y16,h⟩:=bm h
    refine x_frk 8 [(3,.rows [(eSol false).f v10.1.1.1.kids]),(0,.rows [(eSol false).f zal]),(0,.call [] [] (bl v16) [])] (oC (Enc.share (eSol true) (eSol false) (sSol true) v10.1.1.1.kids) (oC (Enc.share (eSol true) (eSol false) (sSol true) zal) (oI (Ti_Same (Y:=Y) n v10.1.1.1 (Sol.mk zv (Pl.mk zw zx zy zak) zal) _ y16)))) h (fun h=>?_) (fun h=>?_)
    ·refine x_frk 4 [] oN h (fun h=>?_) (fun h=>?_)
     ·obtain⟨v17,y17,h⟩:=bm h
      refine x_frk 7 [(3,.rows [(eSol false).f v11.1.1.1.kids]),(0,.call [] [] (bl v17) [])] (oC (Enc.share (eSol true) (eSol false) (sSol true) v11.1.1.1.kids) (oI (Ti_Nothing (Y:=Y) n v11.1.1.1 _ y17))) h (fun h=>?_) (fun h=>?_)
      ·refine x_frk 4 [] oN h (fun h=>?_) (fun h=>?_)
       ·refine x_frk 7 [] oN h (fun h=>?_) (fun h=>?_)
        ·refine x_frk 4 [] oN h (fun h=>?_) (fun h=>?_)
         ·refine x_frk 4 [] oN h (fun h=>?_) (fun h=>?_)
          ·obtain⟨v18,y18,h⟩:=bm h
           refine x_frk 8 [(3,.rows [(eSol false).f v14.1.1.1.kids]),(0,.rows [(eSol false).f zal]),(0,.call [] [] (bl v18) [])] (oC (Enc.share (eSol true) (eSol false) (sSol true) v14.1.1.1.kids) (oC (Enc.share (eSol true) (eSol false) (sSol true) zal) (oI (Ti_SameTree (Y:=Y) n v14.1.1.1 (Sol.mk zv (Pl.mk zw zx zy zak) zal) _ y18)))) h (fun h=>?_) (fun h=>?_)
           ·obtain⟨v19,y19,h⟩:=bm h
            obtain⟨v20,y20,h⟩:=bm h
            obtain⟨v21,y21,h⟩:=bm h
            obtain rfl:=sj h
            exact x_end 11 [(0,.rows (kF v12.1)),(0,.call [] [] (iN v19) []),(0,.rows [(eSol false).f zal]),(0,.call [] [] (iN v20) []),(1,.rows (kF v4.1)),(0,.call [] [] (iN v21) [])] [] (oSh8 v12.1 (oC (Ti_Held (Y:=Y) n v12.1 _ y19) (oC (Enc.share (eSol true) (eSol false) (sSol true) zal) (oC (Ti_NodesOf (Y:=Y) n (Sol.mk zv (Pl.mk zw zx zy zak) zal) _ y20) (oSh8 v4.1 (oI (Ti_Held (Y:=Y) n v4.1 _ y21))))))) oN 
           ·obtain rfl:=sj h
            exact x_end 11 [] [] oN oN 
          ·obtain rfl:=sj h
           exact x_end 19 [] [] oN oN 
         ·obtain rfl:=sj h
          exact x_end 23 [] [] oN oN 
        ·obtain rfl:=sj h
         exact x_end 27 [] [] oN oN 
       ·obtain rfl:=sj h
        exact x_end 34 [] [] oN oN 
      ·obtain rfl:=sj h
       exact x_end 38 [] [] oN oN 
     ·obtain rfl:=sj h
      exact x_end 45 [] [] oN oN 
    ·obtain rfl:=sj h
     exact x_end 49 [] [] oN oN 
   ·obtain rfl:=sj h
    exact x_end 57 [] [] oN oN 
  ·obtain rfl:=sj h
   exact x_end 61 [] [] oN oN 
 ·obtain rfl:=sj h
  exact x_end 69 [] [] oN oN 
def Dlaws_FnDesk_2(n:Nat)(v10:(Dk8×Int))(v11:(Dk8×Int))(v12:(Dk8×Int))(v13:(Dk8×Int))(v14:(Dk8×Int))(zv:Bool)(zw zx zy zak:Int)(zal:List Sol)(v4:(Dk8×Int)):Option Bool :=
 frk v4.1.2.2.1 ((Di_SameTree n v4.1.1.2.1 (Sol.mk zv (Pl.mk zw zx zy zak) zal)).bind fun v22=>frk v22 (frk (v10.2==0) ((Di_Same n v10.1.1.2.1 (Sol.mk zv (Pl.mk zw zx zy zak) zal)).bind fun v23=>frk v23 (frk (v11.2==0) ((Di_Nothing n v11.1.1.2.1).bind fun v24=>frk v24 (frk (v12.2==0) (frk (!v12.1.2.2.1) (frk (v13.2==2) (frk (v14.2==0) ((Di_SameTree n v14.1.1.2.1 (Sol.mk zv (Pl.mk zw zx zy zak) zal)).bind fun v25=>frk v25 ((Di_Held n v12.1).bind fun v26=>(Di_NodesOf n (Sol.mk zv (Pl.mk zw zx zy zak) zal)).bind fun v27=>(Di_Held n v4.1).bind fun v28=>some ((w64 (v26+v27))==v28)) (some false)) (some false)) (some false)) (some false)) (some false)) (some false)) (some false)) (some false)) (some false)) (some false)) (some false)
theorem Tlaws_FnDesk_2{Y}(n:Nat)(v10:(Dk8×Int))(v11:(Dk8×Int))(v12:(Dk8×Int))(v13:(Dk8×Int))(v14:(Dk8×Int))(zv:Bool)(zw zx zy zak:Int)(zal:List Sol)(v4:(Dk8×Int))(r:Bool)(h:Dlaws_FnDesk_2 n v10 v11 v12 v13 v14 zv zw zx zy zak zal v4=some r):WT Y 5 [.code (cp [1,1,1,1,1,1,1,1,1,1,1,1,1,1,0] B5),.code (cp [1,1,1,1,1,1,1,1,1,1,1,1,1,1,1] B5)] (FT Tryz.f5 [] (bl r) []) ⟨[(4,iN 1),(5,.ptr 5 0),(7,.ptr 7 0),(11,.ptr 11 0),(12,iN v10.2),(13,.ptr 13 0),(14,iN v11.2),(15,.ptr 15 0),(16,iN v12.2),(18,iN v13.2),(19,.ptr 19 0),(20,iN v14.2)],[(5,⟨true,0,[bl zv,iN zw,iN zx,iN zy,iN zak,.sl true 6 zal.length ((eSol true).f zal)]⟩),(7,⟨true,0,(cT52o v4.1)⟩),(11,⟨true,0,(cT52o v10.1)⟩),(13,⟨true,0,(cT52o v11.1)⟩),(15,⟨true,0,(cT52o v12.1)⟩),(19,⟨true,0,(cT52o v14.1)⟩)]⟩:=by
 unfold Dlaws_FnDesk_2 at h
 refine x_frk 6 [] oN h (fun h=>?_) (fun h=>?_)
 ·obtain⟨v22,y22,h⟩:=bm h
  refine x_frk 8 [(3,.rows [(eSol false).f v4.1.1.2.1.kids]),(0,.rows [(eSol false).f zal]),(0,.call [] [] (bl v22) [])] (oC (Enc.share (eSol true) (eSol false) (sSol true) v4.1.1.2.1.kids) (oC (Enc.share (eSol true) (eSol false) (sSol true) zal) (oI (Ti_SameTree (Y:=Y) n v4.1.1.2.1 (Sol.mk zv (Pl.mk zw zx zy zak) zal) _ y22)))) h (fun h=>?_) (fun h=>?_)
  ·refine x_frk 4 [] oN h (fun h=>?_) (fun h=>?_)
   ·obtain⟨v23,y23,h⟩:=bm h
    refine x_frk 8 [(3,.rows [(eSol false).f v10.1.1.2.1.kids]),(0,.rows [(eSol false).f zal]),(0,.call [] [] (bl v23) [])] (oC (Enc.share (eSol true) (eSol false) (sSol true) v10.1.1.2.1.kids) (oC (Enc.share (eSol true) (eSol false) (sSol true) zal) (oI (Ti_Same (Y:=Y) n v10.1.1.2.1 (Sol.mk zv (Pl.mk zw zx zy zak) zal) _ y23)))) h (fun h=>?_) (fun h=>?_)
    ·refine x_frk 4 [] oN h (fun h=>?_) (fun h=>?_)
     ·obtain⟨v24,y24,h⟩:=bm h
      refine x_frk 7 [(3,.rows [(eSol false).f v11.1.1.2.1.kids]),(0,.call [] [] (bl v24) [])] (oC (Enc.share (eSol true) (eSol false) (sSol true) v11.1.1.2.1.kids) (oI (Ti_Nothing (Y:=Y) n v11.1.1.2.1 _ y24))) h (fun h=>?_) (fun h=>?_)
      ·refine x_frk 4 [] oN h (fun h=>?_) (fun h=>?_)
       ·refine x_frk 7 [] oN h (fun h=>?_) (fun h=>?_)
        ·refine x_frk 4 [] oN h (fun h=>?_) (fun h=>?_)
         ·refine x_frk 4 [] oN h (fun h=>?_) (fun h=>?_)
          ·obtain⟨v25,y25,h⟩:=bm h
           refine x_frk 8 [(3,.rows [(eSol false).f v14.1.1.2.1.kids]),(0,.rows [(eSol false).f zal]),(0,.call [] [] (bl v25) [])] (oC (Enc.share (eSol true) (eSol false) (sSol true) v14.1.1.2.1.kids) (oC (Enc.share (eSol true) (eSol false) (sSol true) zal) (oI (Ti_SameTree (Y:=Y) n v14.1.1.2.1 (Sol.mk zv (Pl.mk zw zx zy zak) zal) _ y25)))) h (fun h=>?_) (fun h=>?_)
           ·obtain⟨v26,y26,h⟩:=bm h
            obtain⟨v27,y27,h⟩:=bm h
            obtain⟨v28,y28,h⟩:=bm h
            obtain rfl:=sj h
            exact x_end 11 [(0,.rows (kF v12.1)),(0,.call [] [] (iN v26) []),(0,.rows [(eSol false).f zal]),(0,.call [] [] (iN v27) []),(1,.rows (kF v4.1)),(0,.call [] [] (iN v28) [])] [] (oSh8 v12.1 (oC (Ti_Held (Y:=Y) n v12.1 _ y26) (oC (Enc.share (eSol true) (eSol false) (sSol true) zal) (oC (Ti_NodesOf (Y:=Y) n (Sol.mk zv (Pl.mk zw zx zy zak) zal) _ y27) (oSh8 v4.1 (oI (Ti_Held (Y:=Y) n v4.1 _ y28))))))) oN 
           ·obtain rfl:=sj h
            exact x_end 11 [] [] oN oN 
          ·obtain rfl:=sj h
           exact x_end 19 [] [] oN oN 
         ·obtain rfl:=sj h
          exact x_end 23 [] [] oN oN 
        ·obtain rfl:=sj h
         exact x_end 27 [] [] oN oN 
       ·obtain rfl:=sj h
        exact x_end 34 [] [] oN oN 
      ·obtain rfl:=sj h
       exact x_end 38 [] [] oN oN 
     ·obtain rfl:=sj h
      exact x_end 45 [] [] oN oN 
    ·obtain rfl:=sj h
     exact x_end 49 [] [] oN oN 
   ·obtain rfl:=sj h
    exact x_end 57 [] [] oN oN 
  ·obtain rfl:=sj h
   exact x_end 61 [] [] oN oN 
 ·obtain rfl:=sj h
  exact x_end 69 [] [] oN oN 
def Dlaws_FnDesk_3(n:Nat)(v10:(Dk8×Int))(v11:(Dk8×Int))(v12:(Dk8×Int))(v13:(Dk8×Int))(v14:(Dk8×Int))(zv:Bool)(zw zx zy zak:Int)(zal:List Sol)(v4:(Dk8×Int)):Option Bool :=
 frk v4.1.2.2.2.1 ((Di_SameTree n v4.1.1.2.2.1 (Sol.mk zv (Pl.mk zw zx zy zak) zal)).bind fun v29=>frk v29 (frk (v10.2==0) ((Di_Same n v10.1.1.2.2.1 (Sol.mk zv (Pl.mk zw zx zy zak) zal)).bind fun v30=>frk v30 (frk (v11.2==0) ((Di_Nothing n v11.1.1.2.2.1).bind fun v31=>frk v31 (frk (v12.2==0) (frk (!v12.1.2.2.2.1) (frk (v13.2==2) (frk (v14.2==0) ((Di_SameTree n v14.1.1.2.2.1 (Sol.mk zv (Pl.mk zw zx zy zak) zal)).bind fun v32=>frk v32 ((Di_Held n v12.1).bind fun v33=>(Di_NodesOf n (Sol.mk zv (Pl.mk zw zx zy zak) zal)).bind fun v34=>(Di_Held n v4.1).bind fun v35=>some ((w64 (v33+v34))==v35)) (some false)) (some false)) (some false)) (some false)) (some false)) (some false)) (some false)) (some false)) (some false)) (some false)) (some false)
theorem Tlaws_FnDesk_3{Y}(n:Nat)(v10:(Dk8×Int))(v11:(Dk8×Int))(v12:(Dk8×Int))(v13:(Dk8×Int))(v14:(Dk8×Int))(zv:Bool)(zw zx zy zak:Int)(zal:List Sol)(v4:(Dk8×Int))(r:Bool)(h:Dlaws_FnDesk_3 n v10 v11 v12 v13 v14 zv zw zx zy zak zal v4=some r):WT Y 5 [.code (cp [1,1,1,1,1,1,1,1,1,1,1,1,1,1,0] B5),.code (cp [1,1,1,1,1,1,1,1,1,1,1,1,1,1,1] B5)] (FT Tryz.f5 [] (bl r) []) ⟨[(4,iN 2),(5,.ptr 5 0),(7,.ptr 7 0),(11,.ptr 11 0),(12,iN v10.2),(13,.ptr 13 0),(14,iN v11.2),(15,.ptr 15 0),(16,iN v12.2),(18,iN v13.2),(19,.ptr 19 0),(20,iN v14.2)],[(5,⟨true,0,[bl zv,iN zw,iN zx,iN zy,iN zak,.sl true 6 zal.length ((eSol true).f zal)]⟩),(7,⟨true,0,(cT52o v4.1)⟩),(11,⟨true,0,(cT52o v10.1)⟩),(13,⟨true,0,(cT52o v11.1)⟩),(15,⟨true,0,(cT52o v12.1)⟩),(19,⟨true,0,(cT52o v14.1)⟩)]⟩:=by
 unfold Dlaws_FnDesk_3 at h
 refine x_frk 6 [] oN h (fun h=>?_) (fun h=>?_)
 ·obtain⟨v29,y29,h⟩:=bm h
  refine x_frk 8 [(3,.rows [(eSol false).f v4.1.1.2.2.1.kids]),(0,.rows [(eSol false).f zal]),(0,.call [] [] (bl v29) [])] (oC (Enc.share (eSol true) (eSol false) (sSol true) v4.1.1.2.2.1.kids) (oC (Enc.share (eSol true) (eSol false) (sSol true) zal) (oI (Ti_SameTree (Y:=Y) n v4.1.1.2.2.1 (Sol.mk zv (Pl.mk zw zx zy zak) zal) _ y29)))) h (fun h=>?_) (fun h=>?_)
  ·refine x_frk 4 [] oN h (fun h=>?_) (fun h=>?_)
   ·obtain⟨v30,y30,h⟩:=bm h
    refine x_frk 8 [(3,.rows [(eSol false).f v10.1.1.2.2.1.kids]),(0,.rows [(eSol false).f zal]),(0,.call [] [] (bl v30) [])] (oC (Enc.share (eSol true) (eSol false) (sSol true) v10.1.1.2.2.1.kids) (oC (Enc.share (eSol true) (eSol false) (sSol true) zal) (oI (Ti_Same (Y:=Y) n v10.1.1.2.2.1 (Sol.mk zv (Pl.mk zw zx zy zak) zal) _ y30)))) h (fun h=>?_) (fun h=>?_)
    ·refine x_frk 4 [] oN h (fun h=>?_) (fun h=>?_)
     ·obtain⟨v31,y31,h⟩:=bm h
      refine x_frk 7 [(3,.rows [(eSol false).f v11.1.1.2.2.1.kids]),(0,.call [] [] (bl v31) [])] (oC (Enc.share (eSol true) (eSol false) (sSol true) v11.1.1.2.2.1.kids) (oI (Ti_Nothing (Y:=Y) n v11.1.1.2.2.1 _ y31))) h (fun h=>?_) (fun h=>?_)
      ·refine x_frk 4 [] oN h (fun h=>?_) (fun h=>?_)
       ·refine x_frk 7 [] oN h (fun h=>?_) (fun h=>?_)
        ·refine x_frk 4 [] oN h (fun h=>?_) (fun h=>?_)
         ·refine x_frk 4 [] oN h (fun h=>?_) (fun h=>?_)
          ·obtain⟨v32,y32,h⟩:=bm h
           refine x_frk 8 [(3,.rows [(eSol false).f v14.1.1.2.2.1.kids]),(0,.rows [(eSol false).f zal]),(0,.call [] [] (bl v32) [])] (oC (Enc.share (eSol true) (eSol false) (sSol true) v14.1.1.2.2.1.kids) (oC (Enc.share (eSol true) (eSol false) (sSol true) zal) (oI (Ti_SameTree (Y:=Y) n v14.1.1.2.2.1 (Sol.mk zv (Pl.mk zw zx zy zak) zal) _ y32)))) h (fun h=>?_) (fun h=>?_)
           ·obtain⟨v33,y33,h⟩:=bm h
            obtain⟨v34,y34,h⟩:=bm h
            obtain⟨v35,y35,h⟩:=bm h
            obtain rfl:=sj h
            exact x_end 11 [(0,.rows (kF v12.1)),(0,.call [] [] (iN v33) []),(0,.rows [(eSol false).f zal]),(0,.call [] [] (iN v34) []),(1,.rows (kF v4.1)),(0,.call [] [] (iN v35) [])] [] (oSh8 v12.1 (oC (Ti_Held (Y:=Y) n v12.1 _ y33) (oC (Enc.share (eSol true) (eSol false) (sSol true) zal) (oC (Ti_NodesOf (Y:=Y) n (Sol.mk zv (Pl.mk zw zx zy zak) zal) _ y34) (oSh8 v4.1 (oI (Ti_Held (Y:=Y) n v4.1 _ y35))))))) oN 
           ·obtain rfl:=sj h
            exact x_end 11 [] [] oN oN 
          ·obtain rfl:=sj h
           exact x_end 19 [] [] oN oN 
         ·obtain rfl:=sj h
          exact x_end 23 [] [] oN oN 
        ·obtain rfl:=sj h
         exact x_end 27 [] [] oN oN 
       ·obtain rfl:=sj h
        exact x_end 34 [] [] oN oN 
      ·obtain rfl:=sj h
       exact x_end 38 [] [] oN oN 
     ·obtain rfl:=sj h
      exact x_end 45 [] [] oN oN 
    ·obtain rfl:=sj h
     exact x_end 49 [] [] oN oN 
   ·obtain rfl:=sj h
    exact x_end 57 [] [] oN oN 
  ·obtain rfl:=sj h
   exact x_end 61 [] [] oN oN 
 ·obtain rfl:=sj h
  exact x_end 69 [] [] oN oN 
def Dlaws_FnDesk_4(n:Nat)(v10:(Dk8×Int))(v11:(Dk8×Int))(v12:(Dk8×Int))(v13:(Dk8×Int))(v14:(Dk8×Int))(zv:Bool)(zw zx zy zak:Int)(zal:List Sol)(v4:(Dk8×Int)):Option Bool :=
 frk v4.1.2.2.2.2.1 ((Di_SameTree n v4.1.1.2.2.2.1 (Sol.mk zv (Pl.mk zw zx zy zak) zal)).bind fun v36=>frk v36 (frk (v10.2==0) ((Di_Same n v10.1.1.2.2.2.1 (Sol.mk zv (Pl.mk zw zx zy zak) zal)).bind fun v37=>frk v37 (frk (v11.2==0) ((Di_Nothing n v11.1.1.2.2.2.1).bind fun v38=>frk v38 (frk (v12.2==0) (frk (!v12.1.2.2.2.2.1) (frk (v13.2==2) (frk (v14.2==0) ((Di_SameTree n v14.1.1.2.2.2.1 (Sol.mk zv (Pl.mk zw zx zy zak) zal)).bind fun v39=>frk v39 ((Di_Held n v12.1).bind fun v40=>(Di_NodesOf n (Sol.mk zv (Pl.mk zw zx zy zak) zal)).bind fun v41=>(Di_Held n v4.1).bind fun v42=>some ((w64 (v40+v41))==v42)) (some false)) (some false)) (some false)) (some false)) (some false)) (some false)) (some false)) (some false)) (some false)) (some false)) (some false)
theorem Tlaws_FnDesk_4{Y}(n:Nat)(v10:(Dk8×Int))(v11:(Dk8×Int))(v12:(Dk8×Int))(v13:(Dk8×Int))(v14:(Dk8×Int))(zv:Bool)(zw zx zy zak:Int)(zal:List Sol)(v4:(Dk8×Int))(r:Bool)(h:Dlaws_FnDesk_4 n v10 v11 v12 v13 v14 zv zw zx zy zak zal v4=some r):WT Y 5 [.code (cp [1,1,1,1,1,1,1,1,1,1,1,1,1,1,0] B5),.code (cp [1,1,1,1,1,1,1,1,1,1,1,1,1,1,1] B5)] (FT Tryz.f5 [] (bl r) []) ⟨[(4,iN 3),(5,.ptr 5 0),(7,.ptr 7 0),(11,.ptr 11 0),(12,iN v10.2),(13,.ptr 13 0),(14,iN v11.2),(15,.ptr 15 0),(16,iN v12.2),(18,iN v13.2),(19,.ptr 19 0),(20,iN v14.2)],[(5,⟨true,0,[bl zv,iN zw,iN zx,iN zy,iN zak,.sl true 6 zal.length ((eSol true).f zal)]⟩),(7,⟨true,0,(cT52o v4.1)⟩),(11,⟨true,0,(cT52o v10.1)⟩),(13,⟨true,0,(cT52o v11.1)⟩),(15,⟨true,0,(cT52o v12.1)⟩),(19,⟨true,0,(cT52o v14.1)⟩)]⟩:=by
 unfold Dlaws_FnDesk_4 at h
 refine x_frk 6 [] oN h (fun h=>?_) (fun h=>?_)
 ·obtain⟨v36,y36,h⟩:=bm h
  refine x_frk 8 [(3,.rows [(eSol false).f v4.1.1.2.2.2.1.kids]),(0,.rows [(eSol false).f zal]),(0,.call [] [] (bl v36) [])] (oC (Enc.share (eSol true) (eSol false) (sSol true) v4.1.1.2.2.2.1.kids) (oC (Enc.share (eSol true) (eSol false) (sSol true) zal) (oI (Ti_SameTree (Y:=Y) n v4.1.1.2.2.2.1 (Sol.mk zv (Pl.mk zw zx zy zak) zal) _ y36)))) h (fun h=>?_) (fun h=>?_)
  ·refine x_frk 4 [] oN h (fun h=>?_) (fun h=>?_)
   ·obtain⟨v37,y37,h⟩:=bm h
    refine x_frk 8 [(3,.rows [(eSol false).f v10.1.1.2.2.2.1.kids]),(0,.rows [(eSol false).f zal]),(0,.call [] [] (bl v37) [])] (oC (Enc.share (eSol true) (eSol false) (sSol true) v10.1.1.2.2.2.1.kids) (oC (Enc.share (eSol true) (eSol false) (sSol true) zal) (oI (Ti_Same (Y:=Y) n v10.1.1.2.2.2.1 (Sol.mk zv (Pl.mk zw zx zy zak) zal) _ y37)))) h (fun h=>?_) (fun h=>?_)
    ·refine x_frk 4 [] oN h (fun h=>?_) (fun h=>?_)
     ·obtain⟨v38,y38,h⟩:=bm h
      refine x_frk 7 [(3,.rows [(eSol false).f v11.1.1.2.2.2.1.kids]),(0,.call [] [] (bl v38) [])] (oC (Enc.share (eSol true) (eSol false) (sSol true) v11.1.1.2.2.2.1.kids) (oI (Ti_Nothing (Y:=Y) n v11.1.1.2.2.2.1 _ y38))) h (fun h=>?_) (fun h=>?_)
      ·refine x_frk 4 [] oN h (fun h=>?_) (fun h=>?_)
       ·refine x_frk 7 [] oN h (fun h=>?_) (fun h=>?_)
        ·refine x_frk 4 [] oN h (fun h=>?_) (fun h=>?_)
         ·refine x_frk 4 [] oN h (fun h=>?_) (fun h=>?_)
          ·obtain⟨v39,y39,h⟩:=bm h
           refine x_frk 8 [(3,.rows [(eSol false).f v14.1.1.2.2.2.1.kids]),(0,.rows [(eSol false).f zal]),(0,.call [] [] (bl v39) [])] (oC (Enc.share (eSol true) (eSol false) (sSol true) v14.1.1.2.2.2.1.kids) (oC (Enc.share (eSol true) (eSol false) (sSol true) zal) (oI (Ti_SameTree (Y:=Y) n v14.1.1.2.2.2.1 (Sol.mk zv (Pl.mk zw zx zy zak) zal) _ y39)))) h (fun h=>?_) (fun h=>?_)
           ·obtain⟨v40,y40,h⟩:=bm h
            obtain⟨v41,y41,h⟩:=bm h
            obtain⟨v42,y42,h⟩:=bm h
            obtain rfl:=sj h
            exact x_end 11 [(0,.rows (kF v12.1)),(0,.call [] [] (iN v40) []),(0,.rows [(eSol false).f zal]),(0,.call [] [] (iN v41) []),(1,.rows (kF v4.1)),(0,.call [] [] (iN v42) [])] [] (oSh8 v12.1 (oC (Ti_Held (Y:=Y) n v12.1 _ y40) (oC (Enc.share (eSol true) (eSol false) (sSol true) zal) (oC (Ti_NodesOf (Y:=Y) n (Sol.mk zv (Pl.mk zw zx zy zak) zal) _ y41) (oSh8 v4.1 (oI (Ti_Held (Y:=Y) n v4.1 _ y42))))))) oN 
           ·obtain rfl:=sj h
            exact x_end 11 [] [] oN oN 
          ·obtain rfl:=sj h
           exact x_end 19 [] [] oN oN 
         ·obtain rfl:=sj h
          exact x_end 23 [] [] oN oN 
        ·obtain rfl:=sj h
         exact x_end 27 [] [] oN oN 
       ·obtain rfl:=sj h
        exact x_end 34 [] [] oN oN 
      ·obtain rfl:=sj h
       exact x_end 38 [] [] oN oN 
     ·obtain rfl:=sj h
      exact x_end 45 [] [] oN oN 
    ·obtain rfl:=sj h
     exact x_end 49 [] [] oN oN 
   ·obtain rfl:=sj h
    exact x_end 57 [] [] oN oN 
  ·obtain rfl:=sj h
   exact x_end 61 [] [] oN oN 
 ·obtain rfl:=sj h
  exact x_end 69 [] [] oN oN 
def Dlaws_FnDesk_5(n:Nat)(v10:(Dk8×Int))(v11:(Dk8×Int))(v12:(Dk8×Int))(v13:(Dk8×Int))(v14:(Dk8×Int))(zv:Bool)(zw zx zy zak:Int)(zal:List Sol)(v4:(Dk8×Int)):Option Bool :=
 frk v4.1.2.2.2.2.2.1 ((Di_SameTree n v4.1.1.2.2.2.2.1 (Sol.mk zv (Pl.mk zw zx zy zak) zal)).bind fun v43=>frk v43 (frk (v10.2==0) ((Di_Same n v10.1.1.2.2.2.2.1 (Sol.mk zv (Pl.mk zw zx zy zak) zal)).bind fun v44=>frk v44 (frk (v11.2==0) ((Di_Nothing n v11.1.1.2.2.2.2.1).bind fun v45=>frk v45 (frk (v12.2==0) (frk (!v12.1.2.2.2.2.2.1) (frk (v13.2==2) (frk (v14.2==0) ((Di_SameTree n v14.1.1.2.2.2.2.1 (Sol.mk zv (Pl.mk zw zx zy zak) zal)).bind fun v46=>frk v46 ((Di_Held n v12.1).bind fun v47=>(Di_NodesOf n (Sol.mk zv (Pl.mk zw zx zy zak) zal)).bind fun v48=>(Di_Held n v4.1).bind fun v49=>some ((w64 (v47+v48))==v49)) (some false)) (some false)) (some false)) (some false)) (some false)) (some false)) (some false)) (some false)) (some false)) (some false)) (some false)
theorem Tlaws_FnDesk_5{Y}(n:Nat)(v10:(Dk8×Int))(v11:(Dk8×Int))(v12:(Dk8×Int))(v13:(Dk8×Int))(v14:(Dk8×Int))(zv:Bool)(zw zx zy zak:Int)(zal:List Sol)(v4:(Dk8×Int))(r:Bool)(h:Dlaws_FnDesk_5 n v10 v11 v12 v13 v14 zv zw zx zy zak zal v4=some r):WT Y 5 [.code (cp [1,1,1,1,1,1,1,1,1,1,1,1,1,1,0] B5),.code (cp [1,1,1,1,1,1,1,1,1,1,1,1,1,1,1] B5)] (FT Tryz.f5 [] (bl r) []) ⟨[(4,iN 4),(5,.ptr 5 0),(7,.ptr 7 0),(11,.ptr 11 0),(12,iN v10.2),(13,.ptr 13 0),(14,iN v11.2),(15,.ptr 15 0),(16,iN v12.2),(18,iN v13.2),(19,.ptr 19 0),(20,iN v14.2)],[(5,⟨true,0,[bl zv,iN zw,iN zx,iN zy,iN zak,.sl true 6 zal.length ((eSol true).f zal)]⟩),(7,⟨true,0,(cT52o v4.1)⟩),(11,⟨true,0,(cT52o v10.1)⟩),(13,⟨true,0,(cT52o v11.1)⟩),(15,⟨true,0,(cT52o v12.1)⟩),(19,⟨true,0,(cT52o v14.1)⟩)]⟩:=by
 unfold Dlaws_FnDesk_5 at h
 refine x_frk 6 [] oN h (fun h=>?_) (fun h=>?_)
 ·obtain⟨v43,y43,h⟩:=bm h
  refine x_frk 8 [(3,.rows [(eSol false).f v4.1.1.2.2.2.2.1.kids]),(0,.rows [(eSol false).f zal]),(0,.call [] [] (bl v43) [])] (oC (Enc.share (eSol true) (eSol false) (sSol true) v4.1.1.2.2.2.2.1.kids) (oC (Enc.share (eSol true) (eSol false) (sSol true) zal) (oI (Ti_SameTree (Y:=Y) n v4.1.1.2.2.2.2.1 (Sol.mk zv (Pl.mk zw zx zy zak) zal) _ y43)))) h (fun h=>?_) (fun h=>?_)
  ·refine x_frk 4 [] oN h (fun h=>?_) (fun h=>?_)
   ·obtain⟨v44,y44,h⟩:=bm h
    refine x_frk 8 [(3,.rows [(eSol false).f v10.1.1.2.2.2.2.1.kids]),(0,.rows [(eSol false).f zal]),(0,.call [] [] (bl v44) [])] (oC (Enc.share (eSol true) (eSol false) (sSol true) v10.1.1.2.2.2.2.1.kids) (oC (Enc.share (eSol true) (eSol false) (sSol true) zal) (oI (Ti_Same (Y:=Y) n v10.1.1.2.2.2.2.1 (Sol.mk zv (Pl.mk zw zx zy zak) zal) _ y44)))) h (fun h=>?_) (fun h=>?_)
    ·refine x_frk 4 [] oN h (fun h=>?_) (fun h=>?_)
     ·obtain⟨v45,y45,h⟩:=bm h
      refine x_frk 7 [(3,.rows [(eSol false).f v11.1.1.2.2.2.2.1.kids]),(0,.call [] [] (bl v45) [])] (oC (Enc.share (eSol true) (eSol false) (sSol true) v11.1.1.2.2.2.2.1.kids) (oI (Ti_Nothing (Y:=Y) n v11.1.1.2.2.2.2.1 _ y45))) h (fun h=>?_) (fun h=>?_)
      ·refine x_frk 4 [] oN h (fun h=>?_) (fun h=>?_)
       ·refine x_frk 7 [] oN h (fun h=>?_) (fun h=>?_)
        ·refine x_frk 4 [] oN h (fun h=>?_) (fun h=>?_)
         ·refine x_frk 4 [] oN h (fun h=>?_) (fun h=>?_)
          ·obtain⟨v46,y46,h⟩:=bm h
           refine x_frk 8 [(3,.rows [(eSol false).f v14.1.1.2.2.2.2.1.kids]),(0,.rows [(eSol false).f zal]),(0,.call [] [] (bl v46) [])] (oC (Enc.share (eSol true) (eSol false) (sSol true) v14.1.1.2.2.2.2.1.kids) (oC (Enc.share (eSol true) (eSol false) (sSol true) zal) (oI (Ti_SameTree (Y:=Y) n v14.1.1.2.2.2.2.1 (Sol.mk zv (Pl.mk zw zx zy zak) zal) _ y46)))) h (fun h=>?_) (fun h=>?_)
           ·obtain⟨v47,y47,h⟩:=bm h
            obtain⟨v48,y48,h⟩:=bm h
            obtain⟨v49,y49,h⟩:=bm h
            obtain rfl:=sj h
            exact x_end 11 [(0,.rows (kF v12.1)),(0,.call [] [] (iN v47) []),(0,.rows [(eSol false).f zal]),(0,.call [] [] (iN v48) []),(1,.rows (kF v4.1)),(0,.call [] [] (iN v49) [])] [] (oSh8 v12.1 (oC (Ti_Held (Y:=Y) n v12.1 _ y47) (oC (Enc.share (eSol true) (eSol false) (sSol true) zal) (oC (Ti_NodesOf (Y:=Y) n (Sol.mk zv (Pl.mk zw zx zy zak) zal) _ y48) (oSh8 v4.1 (oI (Ti_Held (Y:=Y) n v4.1 _ y49))))))) oN 
           ·obtain rfl:=sj h
            exact x_end 11 [] [] oN oN 
          ·obtain rfl:=sj h
           exact x_end 19 [] [] oN oN 
         ·obtain rfl:=sj h
          exact x_end 23 [] [] oN oN 
        ·obtain rfl:=sj h
         exact x_end 27 [] [] oN oN 
       ·obtain rfl:=sj h
        exact x_end 34 [] [] oN oN 
      ·obtain rfl:=sj h
       exact x_end 38 [] [] oN oN 
     ·obtain rfl:=sj h
      exact x_end 45 [] [] oN oN 
    ·obtain rfl:=sj h
     exact x_end 49 [] [] oN oN 
   ·obtain rfl:=sj h
    exact x_end 57 [] [] oN oN 
  ·obtain rfl:=sj h
   exact x_end 61 [] [] oN oN 
 ·obtain rfl:=sj h
  exact x_end 69 [] [] oN oN 
def Dlaws_FnDesk_6(n:Nat)(v10:(Dk8×Int))(v11:(Dk8×Int))(v12:(Dk8×Int))(v13:(Dk8×Int))(v14:(Dk8×Int))(zv:Bool)(zw zx zy zak:Int)(zal:List Sol)(v4:(Dk8×Int)):Option Bool :=
 frk v4.1.2.2.2.2.2.2.1 ((Di_SameTree n v4.1.1.2.2.2.2.2.1 (Sol.mk zv (Pl.mk zw zx zy zak) zal)).bind fun v50=>frk v50 (frk (v10.2==0) ((Di_Same n v10.1.1.2.2.2.2.2.1 (Sol.mk zv (Pl.mk zw zx zy zak) zal)).bind fun v51=>frk v51 (frk (v11.2==0) ((Di_Nothing n v11.1.1.2.2.2.2.2.1).bind fun v52=>frk v52 (frk (v12.2==0) (frk (!v12.1.2.2.2.2.2.2.1) (frk (v13.2==2) (frk (v14.2==0) ((Di_SameTree n v14.1.1.2.2.2.2.2.1 (Sol.mk zv (Pl.mk zw zx zy zak) zal)).bind fun v53=>frk v53 ((Di_Held n v12.1).bind fun v54=>(Di_NodesOf n (Sol.mk zv (Pl.mk zw zx zy zak) zal)).bind fun v55=>(Di_Held n v4.1).bind fun v56=>some ((w64 (v54+v55))==v56)) (some false)) (some false)) (some false)) (some false)) (some false)) (some false)) (some false)) (some false)) (some false)) (some false)) (some false)
theorem Tlaws_FnDesk_6{Y}(n:Nat)(v10:(Dk8×Int))(v11:(Dk8×Int))(v12:(Dk8×Int))(v13:(Dk8×Int))(v14:(Dk8×Int))(zv:Bool)(zw zx zy zak:Int)(zal:List Sol)(v4:(Dk8×Int))(r:Bool)(h:Dlaws_FnDesk_6 n v10 v11 v12 v13 v14 zv zw zx zy zak zal v4=some r):WT Y 5 [.code (cp [1,1,1,1,1,1,1,1,1,1,1,1,1,1,0] B5),.code (cp [1,1,1,1,1,1,1,1,1,1,1,1,1,1,1] B5)] (FT Tryz.f5 [] (bl r) []) ⟨[(4,iN 5),(5,.ptr 5 0),(7,.ptr 7 0),(11,.ptr 11 0),(12,iN v10.2),(13,.ptr 13 0),(14,iN v11.2),(15,.ptr 15 0),(16,iN v12.2),(18,iN v13.2),(19,.ptr 19 0),(20,iN v14.2)],[(5,⟨true,0,[bl zv,iN zw,iN zx,iN zy,iN zak,.sl true 6 zal.length ((eSol true).f zal)]⟩),(7,⟨true,0,(cT52o v4.1)⟩),(11,⟨true,0,(cT52o v10.1)⟩),(13,⟨true,0,(cT52o v11.1)⟩),(15,⟨true,0,(cT52o v12.1)⟩),(19,⟨true,0,(cT52o v14.1)⟩)]⟩:=by
 unfold Dlaws_FnDesk_6 at h
 refine x_frk 6 [] oN h (fun h=>?_) (fun h=>?_)
 ·obtain⟨v50,y50,h⟩:=bm h
  refine x_frk 8 [(3,.rows [(eSol false).f v4.1.1.2.2.2.2.2.1.kids]),(0,.rows [(eSol false).f zal]),(0,.call [] [] (bl v50) [])] (oC (Enc.share (eSol true) (eSol false) (sSol true) v4.1.1.2.2.2.2.2.1.kids) (oC (Enc.share (eSol true) (eSol false) (sSol true) zal) (oI (Ti_SameTree (Y:=Y) n v4.1.1.2.2.2.2.2.1 (Sol.mk zv (Pl.mk zw zx zy zak) zal) _ y50)))) h (fun h=>?_) (fun h=>?_)
  ·refine x_frk 4 [] oN h (fun h=>?_) (fun h=>?_)
   ·obtain⟨v51,y51,h⟩:=bm h
    refine x_frk 8 [(3,.rows [(eSol false).f v10.1.1.2.2.2.2.2.1.kids]),(0,.rows [(eSol false).f zal]),(0,.call [] [] (bl v51) [])] (oC (Enc.share (eSol true) (eSol false) (sSol true) v10.1.1.2.2.2.2.2.1.kids) (oC (Enc.share (eSol true) (eSol false) (sSol true) zal) (oI (Ti_Same (Y:=Y) n v10.1.1.2.2.2.2.2.1 (Sol.mk zv (Pl.mk zw zx zy zak) zal) _ y51)))) h (fun h=>?_) (fun h=>?_)
    ·refine x_frk 4 [] oN h (fun h=>?_) (fun h=>?_)
     ·obtain⟨v52,y52,h⟩:=bm h
      refine x_frk 7 [(3,.rows [(eSol false).f v11.1.1.2.2.2.2.2.1.kids]),(0,.call [] [] (bl v52) [])] (oC (Enc.share (eSol true) (eSol false) (sSol true) v11.1.1.2.2.2.2.2.1.kids) (oI (Ti_Nothing (Y:=Y) n v11.1.1.2.2.2.2.2.1 _ y52))) h (fun h=>?_) (fun h=>?_)
      ·refine x_frk 4 [] oN h (fun h=>?_) (fun h=>?_)
       ·refine x_frk 7 [] oN h (fun h=>?_) (fun h=>?_)
        ·refine x_frk 4 [] oN h (fun h=>?_) (fun h=>?_)
         ·refine x_frk 4 [] oN h (fun h=>?_) (fun h=>?_)
          ·obtain⟨v53,y53,h⟩:=bm h
           refine x_frk 8 [(3,.rows [(eSol false).f v14.1.1.2.2.2.2.2.1.kids]),(0,.rows [(eSol false).f zal]),(0,.call [] [] (bl v53) [])] (oC (Enc.share (eSol true) (eSol false) (sSol true) v14.1.1.2.2.2.2.2.1.kids) (oC (Enc.share (eSol true) (eSol false) (sSol true) zal) (oI (Ti_SameTree (Y:=Y) n v14.1.1.2.2.2.2.2.1 (Sol.mk zv (Pl.mk zw zx zy zak) zal) _ y53)))) h (fun h=>?_) (fun h=>?_)
           ·obtain⟨v54,y54,h⟩:=bm h
            obtain⟨v55,y55,h⟩:=bm h
            obtain⟨v56,y56,h⟩:=bm h
            obtain rfl:=sj h
            exact x_end 11 [(0,.rows (kF v12.1)),(0,.call [] [] (iN v54) []),(0,.rows [(eSol false).f zal]),(0,.call [] [] (iN v55) []),(1,.rows (kF v4.1)),(0,.call [] [] (iN v56) [])] [] (oSh8 v12.1 (oC (Ti_Held (Y:=Y) n v12.1 _ y54) (oC (Enc.share (eSol true) (eSol false) (sSol true) zal) (oC (Ti_NodesOf (Y:=Y) n (Sol.mk zv (Pl.mk zw zx zy zak) zal) _ y55) (oSh8 v4.1 (oI (Ti_Held (Y:=Y) n v4.1 _ y56))))))) oN 
           ·obtain rfl:=sj h
            exact x_end 11 [] [] oN oN 
          ·obtain rfl:=sj h
           exact x_end 19 [] [] oN oN 
         ·obtain rfl:=sj h
          exact x_end 23 [] [] oN oN 
        ·obtain rfl:=sj h
         exact x_end 27 [] [] oN oN 
       ·obtain rfl:=sj h
        exact x_end 34 [] [] oN oN 
      ·obtain rfl:=sj h
       exact x_end 38 [] [] oN oN 
     ·obtain rfl:=sj h
      exact x_end 45 [] [] oN oN 
    ·obtain rfl:=sj h
     exact x_end 49 [] [] oN oN 
   ·obtain rfl:=sj h
    exact x_end 57 [] [] oN oN 
  ·obtain rfl:=sj h
   exact x_end 61 [] [] oN oN 
 ·obtain rfl:=sj h
  exact x_end 69 [] [] oN oN 
def Dlaws_FnDesk_7(n:Nat)(v10:(Dk8×Int))(v11:(Dk8×Int))(v12:(Dk8×Int))(v13:(Dk8×Int))(v14:(Dk8×Int))(zv:Bool)(zw zx zy zak:Int)(zal:List Sol)(v4:(Dk8×Int)):Option Bool :=
 frk v4.1.2.2.2.2.2.2.2.1 ((Di_SameTree n v4.1.1.2.2.2.2.2.2.1 (Sol.mk zv (Pl.mk zw zx zy zak) zal)).bind fun v57=>frk v57 (frk (v10.2==0) ((Di_Same n v10.1.1.2.2.2.2.2.2.1 (Sol.mk zv (Pl.mk zw zx zy zak) zal)).bind fun v58=>frk v58 (frk (v11.2==0) ((Di_Nothing n v11.1.1.2.2.2.2.2.2.1).bind fun v59=>frk v59 (frk (v12.2==0) (frk (!v12.1.2.2.2.2.2.2.2.1) (frk (v13.2==2) (frk (v14.2==0) ((Di_SameTree n v14.1.1.2.2.2.2.2.2.1 (Sol.mk zv (Pl.mk zw zx zy zak) zal)).bind fun v60=>frk v60 ((Di_Held n v12.1).bind fun v61=>(Di_NodesOf n (Sol.mk zv (Pl.mk zw zx zy zak) zal)).bind fun v62=>(Di_Held n v4.1).bind fun v63=>some ((w64 (v61+v62))==v63)) (some false)) (some false)) (some false)) (some false)) (some false)) (some false)) (some false)) (some false)) (some false)) (some false)) (some false)
theorem Tlaws_FnDesk_7{Y}(n:Nat)(v10:(Dk8×Int))(v11:(Dk8×Int))(v12:(Dk8×Int))(v13:(Dk8×Int))(v14:(Dk8×Int))(zv:Bool)(zw zx zy zak:Int)(zal:List Sol)(v4:(Dk8×Int))(r:Bool)(h:Dlaws_FnDesk_7 n v10 v11 v12 v13 v14 zv zw zx zy zak zal v4=some r):WT Y 5 [.code (cp [1,1,1,1,1,1,1,1,1,1,1,1,1,1,0] B5),.code (cp [1,1,1,1,1,1,1,1,1,1,1,1,1,1,1] B5)] (FT Tryz.f5 [] (bl r) []) ⟨[(4,iN 6),(5,.ptr 5 0),(7,.ptr 7 0),(11,.ptr 11 0),(12,iN v10.2),(13,.ptr 13 0),(14,iN v11.2),(15,.ptr 15 0),(16,iN v12.2),(18,iN v13.2),(19,.ptr 19 0),(20,iN v14.2)],[(5,⟨true,0,[bl zv,iN zw,iN zx,iN zy,iN zak,.sl true 6 zal.length ((eSol true).f zal)]⟩),(7,⟨true,0,(cT52o v4.1)⟩),(11,⟨true,0,(cT52o v10.1)⟩),(13,⟨true,0,(cT52o v11.1)⟩),(15,⟨true,0,(cT52o v12.1)⟩),(19,⟨true,0,(cT52o v14.1)⟩)]⟩:=by
 unfold Dlaws_FnDesk_7 at h
 refine x_frk 6 [] oN h (fun h=>?_) (fun h=>?_)
 ·obtain⟨v57,y57,h⟩:=bm h
  refine x_frk 8 [(3,.rows [(eSol false).f v4.1.1.2.2.2.2.2.2.1.kids]),(0,.rows [(eSol false).f zal]),(0,.call [] [] (bl v57) [])] (oC (Enc.share (eSol true) (eSol false) (sSol true) v4.1.1.2.2.2.2.2.2.1.kids) (oC (Enc.share (eSol true) (eSol false) (sSol true) zal) (oI (Ti_SameTree (Y:=Y) n v4.1.1.2.2.2.2.2.2.1 (Sol.mk zv (Pl.mk zw zx zy zak) zal) _ y57)))) h (fun h=>?_) (fun h=>?_)
  ·refine x_frk 4 [] oN h (fun h=>?_) (fun h=>?_)
   ·obtain⟨v58,y58,h⟩:=bm h
    refine x_frk 8 [(3,.rows [(eSol false).f v10.1.1.2.2.2.2.2.2.1.kids]),(0,.rows [(eSol false).f zal]),(0,.call [] [] (bl v58) [])] (oC (Enc.share (eSol true) (eSol false) (sSol true) v10.1.1.2.2.2.2.2.2.1.kids) (oC (Enc.share (eSol true) (eSol false) (sSol true) zal) (oI (Ti_Same (Y:=Y) n v10.1.1.2.2.2.2.2.2.1 (Sol.mk zv (Pl.mk zw zx zy zak) zal) _ y58)))) h (fun h=>?_) (fun h=>?_)
    ·refine x_frk 4 [] oN h (fun h=>?_) (fun h=>?_)
     ·obtain⟨v59,y59,h⟩:=bm h
      refine x_frk 7 [(3,.rows [(eSol false).f v11.1.1.2.2.2.2.2.2.1.kids]),(0,.call [] [] (bl v59) [])] (oC (Enc.share (eSol true) (eSol false) (sSol true) v11.1.1.2.2.2.2.2.2.1.kids) (oI (Ti_Nothing (Y:=Y) n v11.1.1.2.2.2.2.2.2.1 _ y59))) h (fun h=>?_) (fun h=>?_)
      ·refine x_frk 4 [] oN h (fun h=>?_) (fun h=>?_)
       ·refine x_frk 7 [] oN h (fun h=>?_) (fun h=>?_)
        ·refine x_frk 4 [] oN h (fun h=>?_) (fun h=>?_)
         ·refine x_frk 4 [] oN h (fun h=>?_) (fun h=>?_)
          ·obtain⟨v60,y60,h⟩:=bm h
           refine x_frk 8 [(3,.rows [(eSol false).f v14.1.1.2.2.2.2.2.2.1.kids]),(0,.rows [(eSol false).f zal]),(0,.call [] [] (bl v60) [])] (oC (Enc.share (eSol true) (eSol false) (sSol true) v14.1.1.2.2.2.2.2.2.1.kids) (oC (Enc.share (eSol true) (eSol false) (sSol true) zal) (oI (Ti_SameTree (Y:=Y) n v14.1.1.2.2.2.2.2.2.1 (Sol.mk zv (Pl.mk zw zx zy zak) zal) _ y60)))) h (fun h=>?_) (fun h=>?_)
           ·obtain⟨v61,y61,h⟩:=bm h
            obtain⟨v62,y62,h⟩:=bm h
            obtain⟨v63,y63,h⟩:=bm h
            obtain rfl:=sj h
            exact x_end 11 [(0,.rows (kF v12.1)),(0,.call [] [] (iN v61) []),(0,.rows [(eSol false).f zal]),(0,.call [] [] (iN v62) []),(1,.rows (kF v4.1)),(0,.call [] [] (iN v63) [])] [] (oSh8 v12.1 (oC (Ti_Held (Y:=Y) n v12.1 _ y61) (oC (Enc.share (eSol true) (eSol false) (sSol true) zal) (oC (Ti_NodesOf (Y:=Y) n (Sol.mk zv (Pl.mk zw zx zy zak) zal) _ y62) (oSh8 v4.1 (oI (Ti_Held (Y:=Y) n v4.1 _ y63))))))) oN 
           ·obtain rfl:=sj h
            exact x_end 11 [] [] oN oN 
          ·obtain rfl:=sj h
           exact x_end 19 [] [] oN oN 
         ·obtain rfl:=sj h
          exact x_end 23 [] [] oN oN 
        ·obtain rfl:=sj h
         exact x_end 27 [] [] oN oN 
       ·obtain rfl:=sj h
        exact x_end 34 [] [] oN oN 
      ·obtain rfl:=sj h
       exact x_end 38 [] [] oN oN 
     ·obtain rfl:=sj h
      exact x_end 45 [] [] oN oN 
    ·obtain rfl:=sj h
     exact x_end 49 [] [] oN oN 
   ·obtain rfl:=sj h
    exact x_end 57 [] [] oN oN 
  ·obtain rfl:=sj h
   exact x_end 61 [] [] oN oN 
 ·obtain rfl:=sj h
  exact x_end 69 [] [] oN oN 
def Dlaws_FnDesk_8(n:Nat)(v10:(Dk8×Int))(v11:(Dk8×Int))(v12:(Dk8×Int))(v13:(Dk8×Int))(v14:(Dk8×Int))(zv:Bool)(zw zx zy zak:Int)(zal:List Sol)(v4:(Dk8×Int)):Option Bool :=
 frk v4.1.2.2.2.2.2.2.2.2 ((Di_SameTree n v4.1.1.2.2.2.2.2.2.2 (Sol.mk zv (Pl.mk zw zx zy zak) zal)).bind fun v64=>frk v64 (frk (v10.2==0) ((Di_Same n v10.1.1.2.2.2.2.2.2.2 (Sol.mk zv (Pl.mk zw zx zy zak) zal)).bind fun v65=>frk v65 (frk (v11.2==0) ((Di_Nothing n v11.1.1.2.2.2.2.2.2.2).bind fun v66=>frk v66 (frk (v12.2==0) (frk (!v12.1.2.2.2.2.2.2.2.2) (frk (v13.2==2) (frk (v14.2==0) ((Di_SameTree n v14.1.1.2.2.2.2.2.2.2 (Sol.mk zv (Pl.mk zw zx zy zak) zal)).bind fun v67=>frk v67 ((Di_Held n v12.1).bind fun v68=>(Di_NodesOf n (Sol.mk zv (Pl.mk zw zx zy zak) zal)).bind fun v69=>(Di_Held n v4.1).bind fun v70=>some ((w64 (v68+v69))==v70)) (some false)) (some false)) (some false)) (some false)) (some false)) (some false)) (some false)) (some false)) (some false)) (some false)) (some false)
theorem Tlaws_FnDesk_8{Y}(n:Nat)(v10:(Dk8×Int))(v11:(Dk8×Int))(v12:(Dk8×Int))(v13:(Dk8×Int))(v14:(Dk8×Int))(zv:Bool)(zw zx zy zak:Int)(zal:List Sol)(v4:(Dk8×Int))(r:Bool)(h:Dlaws_FnDesk_8 n v10 v11 v12 v13 v14 zv zw zx zy zak zal v4=some r):WT Y 5 [.code (cp [1,1,1,1,1,1,1,1,1,1,1,1,1,1,0] B5),.code (cp [1,1,1,1,1,1,1,1,1,1,1,1,1,1,1] B5)] (FT Tryz.f5 [] (bl r) []) ⟨[(4,iN 7),(5,.ptr 5 0),(7,.ptr 7 0),(11,.ptr 11 0),(12,iN v10.2),(13,.ptr 13 0),(14,iN v11.2),(15,.ptr 15 0),(16,iN v12.2),(18,iN v13.2),(19,.ptr 19 0),(20,iN v14.2)],[(5,⟨true,0,[bl zv,iN zw,iN zx,iN zy,iN zak,.sl true 6 zal.length ((eSol true).f zal)]⟩),(7,⟨true,0,(cT52o v4.1)⟩),(11,⟨true,0,(cT52o v10.1)⟩),(13,⟨true,0,(cT52o v11.1)⟩),(15,⟨true,0,(cT52o v12.1)⟩),(19,⟨true,0,(cT52o v14.1)⟩)]⟩:=by
 unfold Dlaws_FnDesk_8 at h
 refine x_frk 6 [] oN h (fun h=>?_) (fun h=>?_)
 ·obtain⟨v64,y64,h⟩:=bm h
  refine x_frk 8 [(3,.rows [(eSol false).f v4.1.1.2.2.2.2.2.2.2.kids]),(0,.rows [(eSol false).f zal]),(0,.call [] [] (bl v64) [])] (oC (Enc.share (eSol true) (eSol false) (sSol true) v4.1.1.2.2.2.2.2.2.2.kids) (oC (Enc.share (eSol true) (eSol false) (sSol true) zal) (oI (Ti_SameTree (Y:=Y) n v4.1.1.2.2.2.2.2.2.2 (Sol.mk zv (Pl.mk zw zx zy zak) zal) _ y64)))) h (fun h=>?_) (fun h=>?_)
  ·refine x_frk 4 [] oN h (fun h=>?_) (fun h=>?_)
   ·obtain⟨v65,y65,h⟩:=bm h
    refine x_frk 8 [(3,.rows [(eSol false).f v10.1.1.2.2.2.2.2.2.2.kids]),(0,.rows [(eSol false).f zal]),(0,.call [] [] (bl v65) [])] (oC (Enc.share (eSol true) (eSol false) (sSol true) v10.1.1.2.2.2.2.2.2.2.kids) (oC (Enc.share (eSol true) (eSol false) (sSol true) zal) (oI (Ti_Same (Y:=Y) n v10.1.1.2.2.2.2.2.2.2 (Sol.mk zv (Pl.mk zw zx zy zak) zal) _ y65)))) h (fun h=>?_) (fun h=>?_)
    ·refine x_frk 4 [] oN h (fun h=>?_) (fun h=>?_)
     ·obtain⟨v66,y66,h⟩:=bm h
      refine x_frk 7 [(3,.rows [(eSol false).f v11.1.1.2.2.2.2.2.2.2.kids]),(0,.call [] [] (bl v66) [])] (oC (Enc.share (eSol true) (eSol false) (sSol true) v11.1.1.2.2.2.2.2.2.2.kids) (oI (Ti_Nothing (Y:=Y) n v11.1.1.2.2.2.2.2.2.2 _ y66))) h (fun h=>?_) (fun h=>?_)
      ·refine x_frk 4 [] oN h (fun h=>?_) (fun h=>?_)
       ·refine x_frk 7 [] oN h (fun h=>?_) (fun h=>?_)
        ·refine x_frk 4 [] oN h (fun h=>?_) (fun h=>?_)
         ·refine x_frk 4 [] oN h (fun h=>?_) (fun h=>?_)
          ·obtain⟨v67,y67,h⟩:=bm h
           refine x_frk 8 [(3,.rows [(eSol false).f v14.1.1.2.2.2.2.2.2.2.kids]),(0,.rows [(eSol false).f zal]),(0,.call [] [] (bl v67) [])] (oC (Enc.share (eSol true) (eSol false) (sSol true) v14.1.1.2.2.2.2.2.2.2.kids) (oC (Enc.share (eSol true) (eSol false) (sSol true) zal) (oI (Ti_SameTree (Y:=Y) n v14.1.1.2.2.2.2.2.2.2 (Sol.mk zv (Pl.mk zw zx zy zak) zal) _ y67)))) h (fun h=>?_) (fun h=>?_)
           ·obtain⟨v68,y68,h⟩:=bm h
            obtain⟨v69,y69,h⟩:=bm h
            obtain⟨v70,y70,h⟩:=bm h
            obtain rfl:=sj h
            exact x_end 11 [(0,.rows (kF v12.1)),(0,.call [] [] (iN v68) []),(0,.rows [(eSol false).f zal]),(0,.call [] [] (iN v69) []),(1,.rows (kF v4.1)),(0,.call [] [] (iN v70) [])] [] (oSh8 v12.1 (oC (Ti_Held (Y:=Y) n v12.1 _ y68) (oC (Enc.share (eSol true) (eSol false) (sSol true) zal) (oC (Ti_NodesOf (Y:=Y) n (Sol.mk zv (Pl.mk zw zx zy zak) zal) _ y69) (oSh8 v4.1 (oI (Ti_Held (Y:=Y) n v4.1 _ y70))))))) oN 
           ·obtain rfl:=sj h
            exact x_end 11 [] [] oN oN 
          ·obtain rfl:=sj h
           exact x_end 19 [] [] oN oN 
         ·obtain rfl:=sj h
          exact x_end 23 [] [] oN oN 
        ·obtain rfl:=sj h
         exact x_end 27 [] [] oN oN 
       ·obtain rfl:=sj h
        exact x_end 34 [] [] oN oN 
      ·obtain rfl:=sj h
       exact x_end 38 [] [] oN oN 
     ·obtain rfl:=sj h
      exact x_end 45 [] [] oN oN 
    ·obtain rfl:=sj h
     exact x_end 49 [] [] oN oN 
   ·obtain rfl:=sj h
    exact x_end 57 [] [] oN oN 
  ·obtain rfl:=sj h
   exact x_end 61 [] [] oN oN 
 ·obtain rfl:=sj h
  exact x_end 69 [] [] oN oN 
def Dlaws_FnDesk_0(n:Nat)(t4:Int)(v4:(Dk8×Int))(t59:Bool)(v1:Dk8)(zv:Bool)(zw zx zy zak:Int)(zal:List Sol):Option Bool :=
 frk t59 (some false) (frk (v4.2 != 0) ((Di_Held n v4.1).bind fun v8=>(Di_Held n v1).bind fun v9=>some (v8==v9)) ((Di_Mix n v4.1 t4 t4 t4 1).bind fun v10=>(Di_Mix n v4.1 t4 t4 t4 3).bind fun v11=>(Di_Drop n v4.1 t4).bind fun v12=>(Di_Drop n v12.1 t4).bind fun v13=>(Di_Move n v4.1 t4 t4 (Pt.mk 0 0 0)).bind fun v14=>frk (t4==0) (Dlaws_FnDesk_1 n v10 v11 v12 v13 v14 zv zw zx zy zak zal v4) (frk (t4==1) (Dlaws_FnDesk_2 n v10 v11 v12 v13 v14 zv zw zx zy zak zal v4) (frk (t4==2) (Dlaws_FnDesk_3 n v10 v11 v12 v13 v14 zv zw zx zy zak zal v4) (frk (t4==3) (Dlaws_FnDesk_4 n v10 v11 v12 v13 v14 zv zw zx zy zak zal v4) (frk (t4==4) (Dlaws_FnDesk_5 n v10 v11 v12 v13 v14 zv zw zx zy zak zal v4) (frk (t4==5) (Dlaws_FnDesk_6 n v10 v11 v12 v13 v14 zv zw zx zy zak zal v4) (frk (t4==6) (Dlaws_FnDesk_7 n v10 v11 v12 v13 v14 zv zw zx zy zak zal v4) (frk (t4==7) (Dlaws_FnDesk_8 n v10 v11 v12 v13 v14 zv zw zx zy zak zal v4) (none))))))))))
theorem Tlaws_FnDesk_0{Y}(n:Nat)(t4:Int)(v4:(Dk8×Int))(t59:Bool)(v1:Dk8)(zv:Bool)(zw zx zy zak:Int)(zal:List Sol)(r:Bool)(h:Dlaws_FnDesk_0 n t4 v4 t59 v1 zv zw zx zy zak zal=some r):WT Y 5 [.code (cp [1,1,1,1,1,1,1,0,1] B5),.code (cp [1,1,1,1,1,1,1,1] B5)] (FT Tryz.f5 [] (bl r) []) ⟨[(3,.ptr 3 0),(4,iN t4),(5,.ptr 5 0),(7,.ptr 7 0),(8,iN v4.2),(59,bl t59)],[(3,⟨true,0,(cT52o v1)⟩),(5,⟨true,0,[bl zv,iN zw,iN zx,iN zy,iN zak,.sl true 6 zal.length ((eSol true).f zal)]⟩),(7,⟨true,0,(cT52o v4.1)⟩)]⟩:=by
 unfold Dlaws_FnDesk_0 at h
 refine x_frk 0 [] oN h (fun h=>?_) (fun h=>?_)
 ·obtain rfl:=sj h
  exact x_end 4 [] [] oN oN 
 ·refine x_frk 7 [] oN h (fun h=>?_) (fun h=>?_)
  ·obtain⟨v8,y8,h⟩:=bm h
   obtain⟨v9,y9,h⟩:=bm h
   obtain rfl:=sj h
   exact x_end 9 [(0,.rows (kF v4.1)),(0,.call [] [] (iN v8) []),(0,.rows (kF v1)),(0,.call [] [] (iN v9) [])] [] (oSh8 v4.1 (oC (Ti_Held (Y:=Y) n v4.1 _ y8) (oSh8 v1 (oI (Ti_Held (Y:=Y) n v1 _ y9))))) oN 
  ·obtain⟨v10,y10,h⟩:=bm h
   obtain⟨v11,y11,h⟩:=bm h
   obtain⟨v12,y12,h⟩:=bm h
   obtain⟨v13,y13,h⟩:=bm h
   obtain⟨v14,y14,h⟩:=bm h
   refine x_pt 68 [(0,.rows (kF v4.1)),(3,.call [] [] (.tup [.agg (cT52o v10.1),iN v10.2]) []),(6,.rows (kF v4.1)),(3,.call [] [] (.tup [.agg (cT52o v11.1),iN v11.2]) []),(6,.rows (kF v4.1)),(1,.call [] [] (.tup [.agg (cT52o v12.1),iN v12.2]) []),(6,.rows (kF v12.1)),(1,.call [] [] (.tup [.agg (cT52o v13.1),iN v13.2]) []),(6,.rows (kF v4.1)),(3,.call [] [] (.tup [.agg (cT52o v14.1),iN v14.2]) [])] (oSh8 v4.1 (oC (Ti_Mix (Y:=Y) n v4.1 t4 t4 t4 1 _ y10) (oSh8 v4.1 (oC (Ti_Mix (Y:=Y) n v4.1 t4 t4 t4 3 _ y11) (oSh8 v4.1 (oC (Ti_Drop (Y:=Y) n v4.1 t4 _ y12) (oSh8 v12.1 (oC (Ti_Drop (Y:=Y) n v12.1 t4 _ y13) (oSh8 v4.1 (oI (Ti_Move (Y:=Y) n v4.1 t4 t4 (Pt.mk 0 0 0) _ y14))))))))))) (by kernel_rfl) ?_
   rcases frk_eq h with ⟨hc,hk215⟩ | h
   ·subst hc
    replace h:=hk215
    exact x_to 0 [] oN (Tlaws_FnDesk_1 n v10 v11 v12 v13 v14 zv zw zx zy zak zal v4 r h) 
   rcases frk_eq h with ⟨hc,hk216⟩ | h
   ·subst hc
    replace h:=hk216
    exact x_to 0 [] oN (Tlaws_FnDesk_2 n v10 v11 v12 v13 v14 zv zw zx zy zak zal v4 r h) 
   rcases frk_eq h with ⟨hc,hk217⟩ | h
   ·subst hc
    replace h:=hk217
    exact x_to 0 [] oN (Tlaws_FnDesk_3 n v10 v11 v12 v13 v14 zv zw zx zy zak zal v4 r h) 
   rcases frk_eq h with ⟨hc,hk218⟩ | h
   ·subst hc
    replace h:=hk218
    exact x_to 0 [] oN (Tlaws_FnDesk_4 n v10 v11 v12 v13 v14 zv zw zx zy zak zal v4 r h) 
   rcases frk_eq h with ⟨hc,hk219⟩ | h
   ·subst hc
    replace h:=hk219
    exact x_to 0 [] oN (Tlaws_FnDesk_5 n v10 v11 v12 v13 v14 zv zw zx zy zak zal v4 r h) 
   rcases frk_eq h with ⟨hc,hk220⟩ | h
   ·subst hc
    replace h:=hk220
    exact x_to 0 [] oN (Tlaws_FnDesk_6 n v10 v11 v12 v13 v14 zv zw zx zy zak zal v4 r h) 
   rcases frk_eq h with ⟨hc,hk221⟩ | h
   ·subst hc
    replace h:=hk221
    exact x_to 0 [] oN (Tlaws_FnDesk_7 n v10 v11 v12 v13 v14 zv zw zx zy zak zal v4 r h) 
   rcases frk_eq h with ⟨hc,hk222⟩ | h
   ·subst hc
    replace h:=hk222
    exact x_to 0 [] oN (Tlaws_FnDesk_8 n v10 v11 v12 v13 v14 zv zw zx zy zak zal v4 r h) 
   exact absurd h (by simp)
def Dlaws_FnDesk(n:Nat)(a0:(List Int)):Option Bool :=
 (Dlaws_big a0).bind fun v0=>frk v0 (some true) ((Dp_DrawDesk n a0).bind fun v1=>(Dlaws_at a0 2).bind fun v2=>(Dp_DrawSolid n a0).bind fun v3=>(Di_Keep n v1 (Int.tmod v2 9) v3.1).bind fun v4=>(Dp_Keep n v1 (Int.tmod v2 9) v3.1).bind fun v5=>frk (v4.2 != v5.2) (some false) ((Di_DeskOk n v1).bind fun v6=>frk (!v6) (some false) ((Di_DeskOk n v4.1).bind fun v7=>Dlaws_FnDesk_0 n (Int.tmod v2 9) v4 (!v7) v1 v3.1.inn v3.1.pl.A v3.1.pl.B v3.1.pl.C v3.1.pl.D v3.1.kids)))
theorem Tlaws_FnDesk{Y}(n:Nat)(a0:(List Int))(r:Bool)(h:Dlaws_FnDesk n a0=some r):BT Y (.call 5 [.sl false 1 a0.length ((eU8).f a0)] (lk []) (bl r) (lk [])):=by
 unfold Dlaws_FnDesk at h
 refine x_call (fn:=Tryz.f5) (c:=B5) (bs0:=[]) Tryz.func5 (by kernel_rfl) (by kernel_rfl) ?_
 obtain⟨v0,y0,h⟩:=bm h
 refine x_frk 10 [(2,.call [] [] (bl v0) [])] (oI (Tlaws_big (Y:=Y) a0 _ y0)) h (fun h=>?_) (fun h=>?_)
 ·obtain rfl:=sj h
  exact x_end 4 [] [] oN oN 
 ·obtain⟨v1,y1,h⟩:=bm h
  obtain⟨v2,y2,h⟩:=bm h
  obtain⟨v3,y3,h⟩:=bm h
  obtain⟨v4,y4,h⟩:=bm h
  obtain⟨v5,y5,h⟩:=bm h
  refine x_frk 60 [(1,.call [] [] (.agg (cT52o v1)) []),(3,.call [] [] (iN v2) []),(3,.call [] [] (.tup [eS v3.1,.agg [iN v3.2.X,iN v3.2.Y,iN v3.2.Z,iN v3.2.W]]) []),(7,.rows (kF v1)),(1,.rows [(eSol false).f v3.1.kids]),(0,.call [] [] (.tup [.agg (cT52o v4.1),iN v4.2]) []),(6,.rows (kF v1)),(1,.rows [(eSol false).f v3.1.kids]),(0,.call [] [] (.tup [.agg (cT52o v5.1),iN v5.2]) [])] (oC (Tp_DrawDesk (Y:=Y) n a0 _ y1) (oC (Tlaws_at (Y:=Y) a0 2 _ y2) (oC (Tp_DrawSolid (Y:=Y) n a0 _ y3) (oSh8 v1 (oC (Enc.share (eSol true) (eSol false) (sSol true) v3.1.kids) (oC (Ti_Keep (Y:=Y) n v1 (Int.tmod v2 9) v3.1 _ y4) (oSh8 v1 (oC (Enc.share (eSol true) (eSol false) (sSol true) v3.1.kids) (oI (Tp_Keep (Y:=Y) n v1 (Int.tmod v2 9) v3.1 _ y5)))))))))) h (fun h=>?_) (fun h=>?_)
  ·obtain rfl:=sj h
   exact x_end 15 [] [] oN oN 
  ·obtain⟨v6,y6,h⟩:=bm h
   refine x_frk 5 [(0,.rows (kF v1)),(0,.call [] [] (bl v6) [])] (oSh8 v1 (oI (Ti_DeskOk (Y:=Y) n v1 _ y6))) h (fun h=>?_) (fun h=>?_)
   ·obtain rfl:=sj h
    exact x_end 10 [] [] oN oN 
   ·obtain⟨v7,y7,h⟩:=bm h
    exact x_to 5 [(0,.rows (kF v4.1)),(0,.call [] [] (bl v7) [])] (oSh8 v4.1 (oI (Ti_DeskOk (Y:=Y) n v4.1 _ y7))) (Tlaws_FnDesk_0 n (Int.tmod v2 9) v4 (!v7) v1 v3.1.inn v3.1.pl.A v3.1.pl.B v3.1.pl.C v3.1.pl.D v3.1.kids r h) 
end Evl.T
