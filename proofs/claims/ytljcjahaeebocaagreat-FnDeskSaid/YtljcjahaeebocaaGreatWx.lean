
/- Walks. No condition. -/
import Derived.Test.YtljcjahaeebocaaGreatWy
namespace Evl.T
open Go Evl Go.Proofs
set_option maxRecDepth 100000
set_option maxHeartbeats 8000000
def Dp_Mix_0(n:Nat)(a0:Dk8):Option (Dk8×Int) :=
 (Dp_l20Copy n a0).bind fun v1=>some (v1,1)
theorem Tp_Mix_0{Y}(n:Nat)(a0:Dk8)(r:(Dk8×Int))(h:Dp_Mix_0 n a0=some r):WT Y 118 [.code (cp [1,0,0,1,0,0] B118),.code (cp [1,0,0,1,0,1] B118),.blk 0,.code (cp [1,1] B118)] (FT Tryz.f118 [] (.tup [.agg (cT52o r.1),iN r.2]) []) ⟨[(5,.ptr 5 0),(10,.ptr 10 0)],[(5,⟨true,0,(cT52 a0)⟩),(10,⟨true,0,zD⟩)]⟩:=by
 unfold Dp_Mix_0 at h
 obtain⟨v1,y1,h⟩:=bm h
 obtain rfl:=sj h
 exact x_end 6 [(1,.call [] [] (.agg (cT52o v1)) [])] [] (oI (Tp_l20Copy (Y:=Y) n a0 _ y1)) oN 
def Dp_Mix_3(n:Nat)(t1:Int)(t69:Bool)(a0:Dk8)(zba:Bool)(zbb zbc zbd zbe:Int)(zbf:List Sol):Option (Dk8×Int) :=
 frk t69 ((Dp_l20Copy n a0).bind fun v9=>some (v9,3)) ((Dp_l12Tidy n (Sol.mk zba (Pl.mk zbb zbc zbd zbe) zbf)).bind fun v10=>(Dp_l20Keeps n a0 t1 v10).bind fun v11=>some v11)
theorem Tp_Mix_3{Y}(n:Nat)(t1:Int)(t69:Bool)(a0:Dk8)(zba:Bool)(zbb zbc zbd zbe:Int)(zbf:List Sol)(r:(Dk8×Int))(h:Dp_Mix_3 n t1 t69 a0 zba zbb zbc zbd zbe zbf=some r):WT Y 118 [.code (cp [1,1,1,0,1] B118),.code (cp [1,1,1,1] B118)] (FT Tryz.f118 [] (.tup [.agg (cT52o r.1),iN r.2]) []) ⟨[(1,iN t1),(5,.ptr 5 0),(10,.ptr 10 0),(12,.ptr 12 0),(69,bl t69)],[(5,⟨true,0,(cT52 a0)⟩),(10,⟨true,0,zD⟩),(12,⟨true,0,[bl zba,iN zbb,iN zbc,iN zbd,iN zbe,.sl true 6 zbf.length ((eSol true).f zbf)]⟩)]⟩:=by
 unfold Dp_Mix_3 at h
 refine x_frk 0 [] oN h (fun h=>?_) (fun h=>?_)
 ·obtain⟨v9,y9,h⟩:=bm h
  obtain rfl:=sj h
  exact x_end 7 [(1,.call [] [] (.agg (cT52o v9)) [])] [] (oI (Tp_l20Copy (Y:=Y) n a0 _ y9)) oN 
 ·obtain⟨v10,y10,h⟩:=bm h
  obtain⟨v11,y11,h⟩:=bm h
  obtain rfl:=sj h
  exact x_end 13 [(2,.rows [(eSol false).f zbf]),(0,.call [] [] (eS v10) []),(0,.call [] [(eSol false).f v10.kids] (.tup [.agg (cT52o v11.1),iN v11.2]) [])] [] (oC (Enc.share (eSol true) (eSol false) (sSol true) zbf) (oC (Tp_l12Tidy (Y:=Y) n (Sol.mk zba (Pl.mk zbb zbc zbd zbe) zbf) _ y10) (oC (Tp_l20Keeps (Y:=Y) n a0 t1 v10 _ y11) (oI (Enc.share (eSol true) (eSol false) (sSol true) v10.kids))))) oN 
def Dp_Mix_2(n:Nat)(t1 t2 t3 t4:Int)(t40:Bool)(a0:Dk8):Option (Dk8×Int) :=
 frk t40 ((Dp_l20Copy n a0).bind fun v7=>some (v7,2)) (frk (t2==0) (frk (t3==0) ((Dp_Put n a0.1.1 a0.1.1 t4).bind fun v8=>Dp_Mix_3 n t1 (!v8.2) a0 v8.1.inn v8.1.pl.A v8.1.pl.B v8.1.pl.C v8.1.pl.D v8.1.kids) (frk (t3==1) ((Dp_Put n a0.1.1 a0.1.2.1 t4).bind fun v12=>Dp_Mix_3 n t1 (!v12.2) a0 v12.1.inn v12.1.pl.A v12.1.pl.B v12.1.pl.C v12.1.pl.D v12.1.kids) (frk (t3==2) ((Dp_Put n a0.1.1 a0.1.2.2.1 t4).bind fun v13=>Dp_Mix_3 n t1 (!v13.2) a0 v13.1.inn v13.1.pl.A v13.1.pl.B v13.1.pl.C v13.1.pl.D v13.1.kids) (frk (t3==3) ((Dp_Put n a0.1.1 a0.1.2.2.2.1 t4).bind fun v14=>Dp_Mix_3 n t1 (!v14.2) a0 v14.1.inn v14.1.pl.A v14.1.pl.B v14.1.pl.C v14.1.pl.D v14.1.kids) (frk (t3==4) ((Dp_Put n a0.1.1 a0.1.2.2.2.2.1 t4).bind fun v15=>Dp_Mix_3 n t1 (!v15.2) a0 v15.1.inn v15.1.pl.A v15.1.pl.B v15.1.pl.C v15.1.pl.D v15.1.kids) (frk (t3==5) ((Dp_Put n a0.1.1 a0.1.2.2.2.2.2.1 t4).bind fun v16=>Dp_Mix_3 n t1 (!v16.2) a0 v16.1.inn v16.1.pl.A v16.1.pl.B v16.1.pl.C v16.1.pl.D v16.1.kids) (frk (t3==6) ((Dp_Put n a0.1.1 a0.1.2.2.2.2.2.2.1 t4).bind fun v17=>Dp_Mix_3 n t1 (!v17.2) a0 v17.1.inn v17.1.pl.A v17.1.pl.B v17.1.pl.C v17.1.pl.D v17.1.kids) (frk (t3==7) ((Dp_Put n a0.1.1 a0.1.2.2.2.2.2.2.2 t4).bind fun v18=>Dp_Mix_3 n t1 (!v18.2) a0 v18.1.inn v18.1.pl.A v18.1.pl.B v18.1.pl.C v18.1.pl.D v18.1.kids) (none))))))))) (frk (t2==1) (frk (t3==0) ((Dp_Put n a0.1.2.1 a0.1.1 t4).bind fun v19=>Dp_Mix_3 n t1 (!v19.2) a0 v19.1.inn v19.1.pl.A v19.1.pl.B v19.1.pl.C v19.1.pl.D v19.1.kids) (frk (t3==1) ((Dp_Put n a0.1.2.1 a0.1.2.1 t4).bind fun v20=>Dp_Mix_3 n t1 (!v20.2) a0 v20.1.inn v20.1.pl.A v20.1.pl.B v20.1.pl.C v20.1.pl.D v20.1.kids) (frk (t3==2) ((Dp_Put n a0.1.2.1 a0.1.2.2.1 t4).bind fun v21=>Dp_Mix_3 n t1 (!v21.2) a0 v21.1.inn v21.1.pl.A v21.1.pl.B v21.1.pl.C v21.1.pl.D v21.1.kids) (frk (t3==3) ((Dp_Put n a0.1.2.1 a0.1.2.2.2.1 t4).bind fun v22=>Dp_Mix_3 n t1 (!v22.2) a0 v22.1.inn v22.1.pl.A v22.1.pl.B v22.1.pl.C v22.1.pl.D v22.1.kids) (frk (t3==4) ((Dp_Put n a0.1.2.1 a0.1.2.2.2.2.1 t4).bind fun v23=>Dp_Mix_3 n t1 (!v23.2) a0 v23.1.inn v23.1.pl.A v23.1.pl.B v23.1.pl.C v23.1.pl.D v23.1.kids) (frk (t3==5) ((Dp_Put n a0.1.2.1 a0.1.2.2.2.2.2.1 t4).bind fun v24=>Dp_Mix_3 n t1 (!v24.2) a0 v24.1.inn v24.1.pl.A v24.1.pl.B v24.1.pl.C v24.1.pl.D v24.1.kids) (frk (t3==6) ((Dp_Put n a0.1.2.1 a0.1.2.2.2.2.2.2.1 t4).bind fun v25=>Dp_Mix_3 n t1 (!v25.2) a0 v25.1.inn v25.1.pl.A v25.1.pl.B v25.1.pl.C v25.1.pl.D v25.1.kids) (frk (t3==7) ((Dp_Put n a0.1.2.1 a0.1.2.2.2.2.2.2.2 t4).bind fun v26=>Dp_Mix_3 n t1 (!v26.2) a0 v26.1.inn v26.1.pl.A v26.1.pl.B v26.1.pl.C v26.1.pl.D v26.1.kids) (none))))))))) (frk (t2==2) (frk (t3==0) ((Dp_Put n a0.1.2.2.1 a0.1.1 t4).bind fun v27=>Dp_Mix_3 n t1 (!v27.2) a0 v27.1.inn v27.1.pl.A v27.1.pl.B v27.1.pl.C v27.1.pl.D v27.1.kids) (frk (t3==1) ((Dp_Put n a0.1.2.2.1 a0.1.2.1 t4).bind fun v28=>Dp_Mix_3 n t1 (!v28.2) a0 v28.1.inn v28.1.pl.A v28.1.pl.B v28.1.pl.C v28.1.pl.D v28.1.kids) (frk (t3==2) ((Dp_Put n a0.1.2.2.1 a0.1.2.2.1 t4).bind fun v29=>Dp_Mix_3 n t1 (!v29.2) a0 v29.1.inn v29.1.pl.A v29.1.pl.B v29.1.pl.C v29.1.pl.D v29.1.kids) (frk (t3==3) ((Dp_Put n a0.1.2.2.1 a0.1.2.2.2.1 t4).bind fun v30=>Dp_Mix_3 n t1 (!v30.2) a0 v30.1.inn v30.1.pl.A v30.1.pl.B v30.1.pl.C v30.1.pl.D v30.1.kids) (frk (t3==4) ((Dp_Put n a0.1.2.2.1 a0.1.2.2.2.2.1 t4).bind fun v31=>Dp_Mix_3 n t1 (!v31.2) a0 v31.1.inn v31.1.pl.A v31.1.pl.B v31.1.pl.C v31.1.pl.D v31.1.kids) (frk (t3==5) ((Dp_Put n a0.1.2.2.1 a0.1.2.2.2.2.2.1 t4).bind fun v32=>Dp_Mix_3 n t1 (!v32.2) a0 v32.1.inn v32.1.pl.A v32.1.pl.B v32.1.pl.C v32.1.pl.D v32.1.kids) (frk (t3==6) ((Dp_Put n a0.1.2.2.1 a0.1.2.2.2.2.2.2.1 t4).bind fun v33=>Dp_Mix_3 n t1 (!v33.2) a0 v33.1.inn v33.1.pl.A v33.1.pl.B v33.1.pl.C v33.1.pl.D v33.1.kids) (frk (t3==7) ((Dp_Put n a0.1.2.2.1 a0.1.2.2.2.2.2.2.2 t4).bind fun v34=>Dp_Mix_3 n t1 (!v34.2) a0 v34.1.inn v34.1.pl.A v34.1.pl.B v34.1.pl.C v34.1.pl.D v34.1.kids) (none))))))))) (frk (t2==3) (frk (t3==0) ((Dp_Put n a0.1.2.2.2.1 a0.1.1 t4).bind fun v35=>Dp_Mix_3 n t1 (!v35.2) a0 v35.1.inn v35.1.pl.A v35.1.pl.B v35.1.pl.C v35.1.pl.D v35.1.kids) (frk (t3==1) ((Dp_Put n a0.1.2.2.2.1 a0.1.2.1 t4).bind fun v36=>Dp_Mix_3 n t1 (!v36.2) a0 v36.1.inn v36.1.pl.A v36.1.pl.B v36.1.pl.C v36.1.pl.D v36.1.kids) (frk (t3==2) ((Dp_Put n a0.1.2.2.2.1 a0.1.2.2.1 t4).bind fun v37=>Dp_Mix_3 n t1 (!v37.2) a0 v37.1.inn v37.1.pl.A v37.1.pl.B v37.1.pl.C v37.1.pl.D v37.1.kids) (frk (t3==3) ((Dp_Put n a0.1.2.2.2.1 a0.1.2.2.2.1 t4).bind fun v38=>Dp_Mix_3 n t1 (!v38.2) a0 v38.1.inn v38.1.pl.A v38.1.pl.B v38.1.pl.C v38.1.pl.D v38.1.kids) (frk (t3==4) ((Dp_Put n a0.1.2.2.2.1 a0.1.2.2.2.2.1 t4).bind fun v39=>Dp_Mix_3 n t1 (!v39.2) a0 v39.1.inn v39.1.pl.A v39.1.pl.B v39.1.pl.C v39.1.pl.D v39.1.kids) (frk (t3==5) ((Dp_Put n a0.1.2.2.2.1 a0.1.2.2.2.2.2.1 t4).bind fun v40=>Dp_Mix_3 n t1 (!v40.2) a0 v40.1.inn v40.1.pl.A v40.1.pl.B v40.1.pl.C v40.1.pl.D v40.1.kids) (frk (t3==6) ((Dp_Put n a0.1.2.2.2.1 a0.1.2.2.2.2.2.2.1 t4).bind fun v41=>Dp_Mix_3 n t1 (!v41.2) a0 v41.1.inn v41.1.pl.A v41.1.pl.B v41.1.pl.C v41.1.pl.D v41.1.kids) (frk (t3==7) ((Dp_Put n a0.1.2.2.2.1 a0.1.2.2.2.2.2.2.2 t4).bind fun v42=>Dp_Mix_3 n t1 (!v42.2) a0 v42.1.inn v42.1.pl.A v42.1.pl.B v42.1.pl.C v42.1.pl.D v42.1.kids) (none))))))))) (frk (t2==4) (frk (t3==0) ((Dp_Put n a0.1.2.2.2.2.1 a0.1.1 t4).bind fun v43=>Dp_Mix_3 n t1 (!v43.2) a0 v43.1.inn v43.1.pl.A v43.1.pl.B v43.1.pl.C v43.1.pl.D v43.1.kids) (frk (t3==1) ((Dp_Put n a0.1.2.2.2.2.1 a0.1.2.1 t4).bind fun v44=>Dp_Mix_3 n t1 (!v44.2) a0 v44.1.inn v44.1.pl.A v44.1.pl.B v44.1.pl.C v44.1.pl.D v44.1.kids) (frk (t3==2) ((Dp_Put n a0.1.2.2.2.2.1 a0.1.2.2.1 t4).bind fun v45=>Dp_Mix_3 n t1 (!v45.2) a0 v45.1.inn v45.1.pl.A v45.1.pl.B v45.1.pl.C v45.1.pl.D v45.1.kids) (frk (t3==3) ((Dp_Put n a0.1.2.2.2.2.1 a0.1.2.2.2.1 t4).bind fun v46=>Dp_Mix_3 n t1 (!v46.2) a0 v46.1.inn v46.1.pl.A v46.1.pl.B v46.1.pl.C v46.1.pl.D v46.1.kids) (frk (t3==4) ((Dp_Put n a0.1.2.2.2.2.1 a0.1.2.2.2.2.1 t4).bind fun v47=>Dp_Mix_3 n t1 (!v47.2) a0 v47.1.inn v47.1.pl.A v47.1.pl.B v47.1.pl.C v47.1.pl.D v47.1.kids) (frk (t3==5) ((Dp_Put n a0.1.2.2.2.2.1 a0.1.2.2.2.2.2.1 t4).bind fun v48=>Dp_Mix_3 n t1 (!v48.2) a0 v48.1.inn v48.1.pl.A v48.1.pl.B v48.1.pl.C v48.1.pl.D v48.1.kids) (frk (t3==6) ((Dp_Put n a0.1.2.2.2.2.1 a0.1.2.2.2.2.2.2.1 t4).bind fun v49=>Dp_Mix_3 n t1 (!v49.2) a0 v49.1.inn v49.1.pl.A v49.1.pl.B v49.1.pl.C v49.1.pl.D v49.1.kids) (frk (t3==7) ((Dp_Put n a0.1.2.2.2.2.1 a0.1.2.2.2.2.2.2.2 t4).bind fun v50=>Dp_Mix_3 n t1 (!v50.2) a0 v50.1.inn v50.1.pl.A v50.1.pl.B v50.1.pl.C v50.1.pl.D v50.1.kids) (none))))))))) (frk (t2==5) (frk (t3==0) ((Dp_Put n a0.1.2.2.2.2.2.1 a0.1.1 t4).bind fun v51=>Dp_Mix_3 n t1 (!v51.2) a0 v51.1.inn v51.1.pl.A v51.1.pl.B v51.1.pl.C v51.1.pl.D v51.1.kids) (frk (t3==1) ((Dp_Put n a0.1.2.2.2.2.2.1 a0.1.2.1 t4).bind fun v52=>Dp_Mix_3 n t1 (!v52.2) a0 v52.1.inn v52.1.pl.A v52.1.pl.B v52.1.pl.C v52.1.pl.D v52.1.kids) (frk (t3==2) ((Dp_Put n a0.1.2.2.2.2.2.1 a0.1.2.2.1 t4).bind fun v53=>Dp_Mix_3 n t1 (!v53.2) a0 v53.1.inn v53.1.pl.A v53.1.pl.B v53.1.pl.C v53.1.pl.D v53.1.kids) (frk (t3==3) ((Dp_Put n a0.1.2.2.2.2.2.1 a0.1.2.2.2.1 t4).bind fun v54=>Dp_Mix_3 n t1 (!v54.2) a0 v54.1.inn v54.1.pl.A v54.1.pl.B v54.1.pl.C v54.1.pl.D v54.1.kids) (frk (t3==4) ((Dp_Put n a0.1.2.2.2.2.2.1 a0.1.2.2.2.2.1 t4).bind fun v55=>Dp_Mix_3 n t1 (!v55.2) a0 v55.1.inn v55.1.pl.A v55.1.pl.B v55.1.pl.C v55.1.pl.D v55.1.kids) (frk (t3==5) ((Dp_Put n a0.1.2.2.2.2.2.1 a0.1.2.2.2.2.2.1 t4).bind fun v56=>Dp_Mix_3 n t1 (!v56.2) a0 v56.1.inn v56.1.pl.A v56.1.pl.B v56.1.pl.C v56.1.pl.D v56.1.kids) (frk (t3==6) ((Dp_Put n a0.1.2.2.2.2.2.1 a0.1.2.2.2.2.2.2.1 t4).bind fun v57=>Dp_Mix_3 n t1 (!v57.2) a0 v57.1.inn v57.1.pl.A v57.1.pl.B v57.1.pl.C v57.1.pl.D v57.1.kids) (frk (t3==7) ((Dp_Put n a0.1.2.2.2.2.2.1 a0.1.2.2.2.2.2.2.2 t4).bind fun v58=>Dp_Mix_3 n t1 (!v58.2) a0 v58.1.inn v58.1.pl.A v58.1.pl.B v58.1.pl.C v58.1.pl.D v58.1.kids) (none))))))))) (frk (t2==6) (frk (t3==0) ((Dp_Put n a0.1.2.2.2.2.2.2.1 a0.1.1 t4).bind fun v59=>Dp_Mix_3 n t1 (!v59.2) a0 v59.1.inn v59.1.pl.A v59.1.pl.B v59.1.pl.C v59.1.pl.D v59.1.kids) (frk (t3==1) ((Dp_Put n a0.1.2.2.2.2.2.2.1 a0.1.2.1 t4).bind fun v60=>Dp_Mix_3 n t1 (!v60.2) a0 v60.1.inn v60.1.pl.A v60.1.pl.B v60.1.pl.C v60.1.pl.D v60.1.kids) (frk (t3==2) ((Dp_Put n a0.1.2.2.2.2.2.2.1 a0.1.2.2.1 t4).bind fun v61=>Dp_Mix_3 n t1 (!v61.2) a0 v61.1.inn v61.1.pl.A v61.1.pl.B v61.1.pl.C v61.1.pl.D v61.1.kids) (frk (t3==3) ((Dp_Put n a0.1.2.2.2.2.2.2.1 a0.1.2.2.2.1 t4).bind fun v62=>Dp_Mix_3 n t1 (!v62.2) a0 v62.1.inn v62.1.pl.A v62.1.pl.B v62.1.pl.C v62.1.pl.D v62.1.kids) (frk (t3==4) ((Dp_Put n a0.1.2.2.2.2.2.2.1 a0.1.2.2.2.2.1 t4).bind fun v63=>Dp_Mix_3 n t1 (!v63.2) a0 v63.1.inn v63.1.pl.A v63.1.pl.B v63.1.pl.C v63.1.pl.D v63.1.kids) (frk (t3==5) ((Dp_Put n a0.1.2.2.2.2.2.2.1 a0.1.2.2.2.2.2.1 t4).bind fun v64=>Dp_Mix_3 n t1 (!v64.2) a0 v64.1.inn v64.1.pl.A v64.1.pl.B v64.1.pl.C v64.1.pl.D v64.1.kids) (frk (t3==6) ((Dp_Put n a0.1.2.2.2.2.2.2.1 a0.1.2.2.2.2.2.2.1 t4).bind fun v65=>Dp_Mix_3 n t1 (!v65.2) a0 v65.1.inn v65.1.pl.A v65.1.pl.B v65.1.pl.C v65.1.pl.D v65.1.kids) (frk (t3==7) ((Dp_Put n a0.1.2.2.2.2.2.2.1 a0.1.2.2.2.2.2.2.2 t4).bind fun v66=>Dp_Mix_3 n t1 (!v66.2) a0 v66.1.inn v66.1.pl.A v66.1.pl.B v66.1.pl.C v66.1.pl.D v66.1.kids) (none))))))))) (frk (t2==7) (frk (t3==0) ((Dp_Put n a0.1.2.2.2.2.2.2.2 a0.1.1 t4).bind fun v67=>Dp_Mix_3 n t1 (!v67.2) a0 v67.1.inn v67.1.pl.A v67.1.pl.B v67.1.pl.C v67.1.pl.D v67.1.kids) (frk (t3==1) ((Dp_Put n a0.1.2.2.2.2.2.2.2 a0.1.2.1 t4).bind fun v68=>Dp_Mix_3 n t1 (!v68.2) a0 v68.1.inn v68.1.pl.A v68.1.pl.B v68.1.pl.C v68.1.pl.D v68.1.kids) (frk (t3==2) ((Dp_Put n a0.1.2.2.2.2.2.2.2 a0.1.2.2.1 t4).bind fun v69=>Dp_Mix_3 n t1 (!v69.2) a0 v69.1.inn v69.1.pl.A v69.1.pl.B v69.1.pl.C v69.1.pl.D v69.1.kids) (frk (t3==3) ((Dp_Put n a0.1.2.2.2.2.2.2.2 a0.1.2.2.2.1 t4).bind fun v70=>Dp_Mix_3 n t1 (!v70.2) a0 v70.1.inn v70.1.pl.A v70.1.pl.B v70.1.pl.C v70.1.pl.D v70.1.kids) (frk (t3==4) ((Dp_Put n a0.1.2.2.2.2.2.2.2 a0.1.2.2.2.2.1 t4).bind fun v71=>Dp_Mix_3 n t1 (!v71.2) a0 v71.1.inn v71.1.pl.A v71.1.pl.B v71.1.pl.C v71.1.pl.D v71.1.kids) (frk (t3==5) ((Dp_Put n a0.1.2.2.2.2.2.2.2 a0.1.2.2.2.2.2.1 t4).bind fun v72=>Dp_Mix_3 n t1 (!v72.2) a0 v72.1.inn v72.1.pl.A v72.1.pl.B v72.1.pl.C v72.1.pl.D v72.1.kids) (frk (t3==6) ((Dp_Put n a0.1.2.2.2.2.2.2.2 a0.1.2.2.2.2.2.2.1 t4).bind fun v73=>Dp_Mix_3 n t1 (!v73.2) a0 v73.1.inn v73.1.pl.A v73.1.pl.B v73.1.pl.C v73.1.pl.D v73.1.kids) (frk (t3==7) ((Dp_Put n a0.1.2.2.2.2.2.2.2 a0.1.2.2.2.2.2.2.2 t4).bind fun v74=>Dp_Mix_3 n t1 (!v74.2) a0 v74.1.inn v74.1.pl.A v74.1.pl.B v74.1.pl.C v74.1.pl.D v74.1.kids) (none))))))))) (none)))))))))
theorem Tp_Mix_2{Y}(n:Nat)(t1 t2 t3 t4:Int)(t40:Bool)(a0:Dk8)(r:(Dk8×Int))(h:Dp_Mix_2 n t1 t2 t3 t4 t40 a0=some r):WT Y 118 [.code (cp [1,0,0,1,1,1] B118),.blk 0,.code (cp [1,1] B118)] (FT Tryz.f118 [] (.tup [.agg (cT52o r.1),iN r.2]) []) ⟨[(1,iN t1),(2,iN t2),(3,iN t3),(4,iN t4),(5,.ptr 5 0),(10,.ptr 10 0),(40,bl t40)],[(5,⟨true,0,(cT52 a0)⟩),(10,⟨true,0,zD⟩)]⟩:=by
 unfold Dp_Mix_2 at h
 refine x_frk 0 [] oN h (fun h=>?_) (fun h=>?_)
 ·obtain⟨v7,y7,h⟩:=bm h
  obtain rfl:=sj h
  exact x_end 7 [(1,.call [] [] (.agg (cT52o v7)) [])] [] (oI (Tp_l20Copy (Y:=Y) n a0 _ y7)) oN 
 ·refine x_pt 6 [] oN (by kernel_rfl) ?_
  iterate 8
   rcases frk_eq h with ⟨hc,hk26⟩ | h
   ·subst hc
    replace h:=hk26
    refine x_pt 4 [] oN (by kernel_rfl) ?_
    iterate 8
     rcases frk_eq h with ⟨hc,hk18⟩ | h
     ·subst hc
      replace h:=hk18
      obtain⟨v8,y8,h⟩:=bm h
      exact x_to 17 [(3,.call [] [] (.tup [eS v8.1,bl v8.2]) [])] (oI (Tp_Put (Y:=Y) n _ _ t4 _ y8)) (Tp_Mix_3 n t1 (!v8.2) a0 v8.1.inn v8.1.pl.A v8.1.pl.B v8.1.pl.C v8.1.pl.D v8.1.kids r h) 
    exact absurd h (by simp)
  exact absurd h (by simp)
def Dp_Mix_1(n:Nat)(t1 t2 t3 t4:Int)(t14:Bool)(a0:Dk8):Option (Dk8×Int) :=
 frk t14 ((Dp_l20Copy n a0).bind fun v6=>some (v6,1)) (frk (t2==0) (frk (!a0.2.1) (Dp_Mix_2 n t1 0 t3 t4 true a0) (frk (t3==0) (Dp_Mix_2 n t1 0 0 t4 (!a0.2.1) a0) (frk (t3==1) (Dp_Mix_2 n t1 0 1 t4 (!a0.2.2.1) a0) (frk (t3==2) (Dp_Mix_2 n t1 0 2 t4 (!a0.2.2.2.1) a0) (frk (t3==3) (Dp_Mix_2 n t1 0 3 t4 (!a0.2.2.2.2.1) a0) (frk (t3==4) (Dp_Mix_2 n t1 0 4 t4 (!a0.2.2.2.2.2.1) a0) (frk (t3==5) (Dp_Mix_2 n t1 0 5 t4 (!a0.2.2.2.2.2.2.1) a0) (frk (t3==6) (Dp_Mix_2 n t1 0 6 t4 (!a0.2.2.2.2.2.2.2.1) a0) (frk (t3==7) (Dp_Mix_2 n t1 0 7 t4 (!a0.2.2.2.2.2.2.2.2) a0) (none)))))))))) (frk (t2==1) (frk (!a0.2.2.1) (Dp_Mix_2 n t1 1 t3 t4 true a0) (frk (t3==0) (Dp_Mix_2 n t1 1 0 t4 (!a0.2.1) a0) (frk (t3==1) (Dp_Mix_2 n t1 1 1 t4 (!a0.2.2.1) a0) (frk (t3==2) (Dp_Mix_2 n t1 1 2 t4 (!a0.2.2.2.1) a0) (frk (t3==3) (Dp_Mix_2 n t1 1 3 t4 (!a0.2.2.2.2.1) a0) (frk (t3==4) (Dp_Mix_2 n t1 1 4 t4 (!a0.2.2.2.2.2.1) a0) (frk (t3==5) (Dp_Mix_2 n t1 1 5 t4 (!a0.2.2.2.2.2.2.1) a0) (frk (t3==6) (Dp_Mix_2 n t1 1 6 t4 (!a0.2.2.2.2.2.2.2.1) a0) (frk (t3==7) (Dp_Mix_2 n t1 1 7 t4 (!a0.2.2.2.2.2.2.2.2) a0) (none)))))))))) (frk (t2==2) (frk (!a0.2.2.2.1) (Dp_Mix_2 n t1 2 t3 t4 true a0) (frk (t3==0) (Dp_Mix_2 n t1 2 0 t4 (!a0.2.1) a0) (frk (t3==1) (Dp_Mix_2 n t1 2 1 t4 (!a0.2.2.1) a0) (frk (t3==2) (Dp_Mix_2 n t1 2 2 t4 (!a0.2.2.2.1) a0) (frk (t3==3) (Dp_Mix_2 n t1 2 3 t4 (!a0.2.2.2.2.1) a0) (frk (t3==4) (Dp_Mix_2 n t1 2 4 t4 (!a0.2.2.2.2.2.1) a0) (frk (t3==5) (Dp_Mix_2 n t1 2 5 t4 (!a0.2.2.2.2.2.2.1) a0) (frk (t3==6) (Dp_Mix_2 n t1 2 6 t4 (!a0.2.2.2.2.2.2.2.1) a0) (frk (t3==7) (Dp_Mix_2 n t1 2 7 t4 (!a0.2.2.2.2.2.2.2.2) a0) (none)))))))))) (frk (t2==3) (frk (!a0.2.2.2.2.1) (Dp_Mix_2 n t1 3 t3 t4 true a0) (frk (t3==0) (Dp_Mix_2 n t1 3 0 t4 (!a0.2.1) a0) (frk (t3==1) (Dp_Mix_2 n t1 3 1 t4 (!a0.2.2.1) a0) (frk (t3==2) (Dp_Mix_2 n t1 3 2 t4 (!a0.2.2.2.1) a0) (frk (t3==3) (Dp_Mix_2 n t1 3 3 t4 (!a0.2.2.2.2.1) a0) (frk (t3==4) (Dp_Mix_2 n t1 3 4 t4 (!a0.2.2.2.2.2.1) a0) (frk (t3==5) (Dp_Mix_2 n t1 3 5 t4 (!a0.2.2.2.2.2.2.1) a0) (frk (t3==6) (Dp_Mix_2 n t1 3 6 t4 (!a0.2.2.2.2.2.2.2.1) a0) (frk (t3==7) (Dp_Mix_2 n t1 3 7 t4 (!a0.2.2.2.2.2.2.2.2) a0) (none)))))))))) (frk (t2==4) (frk (!a0.2.2.2.2.2.1) (Dp_Mix_2 n t1 4 t3 t4 true a0) (frk (t3==0) (Dp_Mix_2 n t1 4 0 t4 (!a0.2.1) a0) (frk (t3==1) (Dp_Mix_2 n t1 4 1 t4 (!a0.2.2.1) a0) (frk (t3==2) (Dp_Mix_2 n t1 4 2 t4 (!a0.2.2.2.1) a0) (frk (t3==3) (Dp_Mix_2 n t1 4 3 t4 (!a0.2.2.2.2.1) a0) (frk (t3==4) (Dp_Mix_2 n t1 4 4 t4 (!a0.2.2.2.2.2.1) a0) (frk (t3==5) (Dp_Mix_2 n t1 4 5 t4 (!a0.2.2.2.2.2.2.1) a0) (frk (t3==6) (Dp_Mix_2 n t1 4 6 t4 (!a0.2.2.2.2.2.2.2.1) a0) (frk (t3==7) (Dp_Mix_2 n t1 4 7 t4 (!a0.2.2.2.2.2.2.2.2) a0) (none)))))))))) (frk (t2==5) (frk (!a0.2.2.2.2.2.2.1) (Dp_Mix_2 n t1 5 t3 t4 true a0) (frk (t3==0) (Dp_Mix_2 n t1 5 0 t4 (!a0.2.1) a0) (frk (t3==1) (Dp_Mix_2 n t1 5 1 t4 (!a0.2.2.1) a0) (frk (t3==2) (Dp_Mix_2 n t1 5 2 t4 (!a0.2.2.2.1) a0) (frk (t3==3) (Dp_Mix_2 n t1 5 3 t4 (!a0.2.2.2.2.1) a0) (frk (t3==4) (Dp_Mix_2 n t1 5 4 t4 (!a0.2.2.2.2.2.1) a0) (frk (t3==5) (Dp_Mix_2 n t1 5 5 t4 (!a0.2.2.2.2.2.2.1) a0) (frk (t3==6) (Dp_Mix_2 n t1 5 6 t4 (!a0.2.2.2.2.2.2.2.1) a0) (frk (t3==7) (Dp_Mix_2 n t1 5 7 t4 (!a0.2.2.2.2.2.2.2.2) a0) (none)))))))))) (frk (t2==6) (frk (!a0.2.2.2.2.2.2.2.1) (Dp_Mix_2 n t1 6 t3 t4 true a0) (frk (t3==0) (Dp_Mix_2 n t1 6 0 t4 (!a0.2.1) a0) (frk (t3==1) (Dp_Mix_2 n t1 6 1 t4 (!a0.2.2.1) a0) (frk (t3==2) (Dp_Mix_2 n t1 6 2 t4 (!a0.2.2.2.1) a0) (frk (t3==3) (Dp_Mix_2 n t1 6 3 t4 (!a0.2.2.2.2.1) a0) (frk (t3==4) (Dp_Mix_2 n t1 6 4 t4 (!a0.2.2.2.2.2.1) a0) (frk (t3==5) (Dp_Mix_2 n t1 6 5 t4 (!a0.2.2.2.2.2.2.1) a0) (frk (t3==6) (Dp_Mix_2 n t1 6 6 t4 (!a0.2.2.2.2.2.2.2.1) a0) (frk (t3==7) (Dp_Mix_2 n t1 6 7 t4 (!a0.2.2.2.2.2.2.2.2) a0) (none)))))))))) (frk (t2==7) (frk (!a0.2.2.2.2.2.2.2.2) (Dp_Mix_2 n t1 7 t3 t4 true a0) (frk (t3==0) (Dp_Mix_2 n t1 7 0 t4 (!a0.2.1) a0) (frk (t3==1) (Dp_Mix_2 n t1 7 1 t4 (!a0.2.2.1) a0) (frk (t3==2) (Dp_Mix_2 n t1 7 2 t4 (!a0.2.2.2.1) a0) (frk (t3==3) (Dp_Mix_2 n t1 7 3 t4 (!a0.2.2.2.2.1) a0) (frk (t3==4) (Dp_Mix_2 n t1 7 4 t4 (!a0.2.2.2.2.2.1) a0) (frk (t3==5) (Dp_Mix_2 n t1 7 5 t4 (!a0.2.2.2.2.2.2.1) a0) (frk (t3==6) (Dp_Mix_2 n t1 7 6 t4 (!a0.2.2.2.2.2.2.2.1) a0) (frk (t3==7) (Dp_Mix_2 n t1 7 7 t4 (!a0.2.2.2.2.2.2.2.2) a0) (none)))))))))) (none)))))))))
theorem Tp_Mix_1{Y}(n:Nat)(t1 t2 t3 t4:Int)(t14:Bool)(a0:Dk8)(r:(Dk8×Int))(h:Dp_Mix_1 n t1 t2 t3 t4 t14 a0=some r):WT Y 118 [.code (cp [1,0,0,1] B118),.blk 0,.code (cp [1,1] B118)] (FT Tryz.f118 [] (.tup [.agg (cT52o r.1),iN r.2]) []) ⟨[(1,iN t1),(2,iN t2),(3,iN t3),(4,iN t4),(5,.ptr 5 0),(10,.ptr 10 0),(14,bl t14)],[(5,⟨true,0,(cT52 a0)⟩),(10,⟨true,0,zD⟩)]⟩:=by
 unfold Dp_Mix_1 at h
 refine x_frk 0 [] oN h (fun h=>?_) (fun h=>?_)
 ·obtain⟨v6,y6,h⟩:=bm h
  obtain rfl:=sj h
  exact x_end 7 [(1,.call [] [] (.agg (cT52o v6)) [])] [] (oI (Tp_l20Copy (Y:=Y) n a0 _ y6)) oN 
 ·refine x_pt 4 [] oN (by kernel_rfl) ?_
  rcases frk_eq h with ⟨hc,hk91⟩ | h
  ·subst hc
   replace h:=hk91
   refine x_frk 4 [] oN h (fun h=>?_) (fun h=>?_)
   ·exact x_to 8 [] oN (Tp_Mix_2 n t1 0 t3 t4 true a0 r h) 
   ·refine x_pt 2 [] oN (by kernel_rfl) ?_
    rcases frk_eq h with ⟨hc,hk27⟩ | h
    ·subst hc
     replace h:=hk27
     exact x_to 6 [] oN (Tp_Mix_2 n t1 0 0 t4 (!a0.2.1) a0 r h) 
    rcases frk_eq h with ⟨hc,hk28⟩ | h
    ·subst hc
     replace h:=hk28
     exact x_to 6 [] oN (Tp_Mix_2 n t1 0 1 t4 (!a0.2.2.1) a0 r h) 
    rcases frk_eq h with ⟨hc,hk29⟩ | h
    ·subst hc
     replace h:=hk29
     exact x_to 6 [] oN (Tp_Mix_2 n t1 0 2 t4 (!a0.2.2.2.1) a0 r h) 
    rcases frk_eq h with ⟨hc,hk30⟩ | h
    ·subst hc
     replace h:=hk30
     exact x_to 6 [] oN (Tp_Mix_2 n t1 0 3 t4 (!a0.2.2.2.2.1) a0 r h) 
    rcases frk_eq h with ⟨hc,hk31⟩ | h
    ·subst hc
     replace h:=hk31
     exact x_to 6 [] oN (Tp_Mix_2 n t1 0 4 t4 (!a0.2.2.2.2.2.1) a0 r h) 
    rcases frk_eq h with ⟨hc,hk32⟩ | h
    ·subst hc
     replace h:=hk32
     exact x_to 6 [] oN (Tp_Mix_2 n t1 0 5 t4 (!a0.2.2.2.2.2.2.1) a0 r h) 
    rcases frk_eq h with ⟨hc,hk33⟩ | h
    ·subst hc
     replace h:=hk33
     exact x_to 6 [] oN (Tp_Mix_2 n t1 0 6 t4 (!a0.2.2.2.2.2.2.2.1) a0 r h) 
    rcases frk_eq h with ⟨hc,hk34⟩ | h
    ·subst hc
     replace h:=hk34
     exact x_to 6 [] oN (Tp_Mix_2 n t1 0 7 t4 (!a0.2.2.2.2.2.2.2.2) a0 r h) 
    exact absurd h (by simp)
  rcases frk_eq h with ⟨hc,hk92⟩ | h
  ·subst hc
   replace h:=hk92
   refine x_frk 4 [] oN h (fun h=>?_) (fun h=>?_)
   ·exact x_to 8 [] oN (Tp_Mix_2 n t1 1 t3 t4 true a0 r h) 
   ·refine x_pt 2 [] oN (by kernel_rfl) ?_
    rcases frk_eq h with ⟨hc,hk35⟩ | h
    ·subst hc
     replace h:=hk35
     exact x_to 6 [] oN (Tp_Mix_2 n t1 1 0 t4 (!a0.2.1) a0 r h) 
    rcases frk_eq h with ⟨hc,hk36⟩ | h
    ·subst hc
     replace h:=hk36
     exact x_to 6 [] oN (Tp_Mix_2 n t1 1 1 t4 (!a0.2.2.1) a0 r h) 
    rcases frk_eq h with ⟨hc,hk37⟩ | h
    ·subst hc
     replace h:=hk37
     exact x_to 6 [] oN (Tp_Mix_2 n t1 1 2 t4 (!a0.2.2.2.1) a0 r h) 
    rcases frk_eq h with ⟨hc,hk38⟩ | h
    ·subst hc
     replace h:=hk38
     exact x_to 6 [] oN (Tp_Mix_2 n t1 1 3 t4 (!a0.2.2.2.2.1) a0 r h) 
    rcases frk_eq h with ⟨hc,hk39⟩ | h
    ·subst hc
     replace h:=hk39
     exact x_to 6 [] oN (Tp_Mix_2 n t1 1 4 t4 (!a0.2.2.2.2.2.1) a0 r h) 
    rcases frk_eq h with ⟨hc,hk40⟩ | h
    ·subst hc
     replace h:=hk40
     exact x_to 6 [] oN (Tp_Mix_2 n t1 1 5 t4 (!a0.2.2.2.2.2.2.1) a0 r h) 
    rcases frk_eq h with ⟨hc,hk41⟩ | h
    ·subst hc
     replace h:=hk41
     exact x_to 6 [] oN (Tp_Mix_2 n t1 1 6 t4 (!a0.2.2.2.2.2.2.2.1) a0 r h) 
    rcases frk_eq h with ⟨hc,hk42⟩ | h
    ·subst hc
     replace h:=hk42
     exact x_to 6 [] oN (Tp_Mix_2 n t1 1 7 t4 (!a0.2.2.2.2.2.2.2.2) a0 r h) 
    exact absurd h (by simp)
  rcases frk_eq h with ⟨hc,hk93⟩ | h
  ·subst hc
   replace h:=hk93
   refine x_frk 4 [] oN h (fun h=>?_) (fun h=>?_)
   ·exact x_to 8 [] oN (Tp_Mix_2 n t1 2 t3 t4 true a0 r h) 
   ·refine x_pt 2 [] oN (by kernel_rfl) ?_
    rcases frk_eq h with ⟨hc,hk43⟩ | h
    ·subst hc
     replace h:=hk43
     exact x_to 6 [] oN (Tp_Mix_2 n t1 2 0 t4 (!a0.2.1) a0 r h) 
    rcases frk_eq h with ⟨hc,hk44⟩ | h
    ·subst hc
     replace h:=hk44
     exact x_to 6 [] oN (Tp_Mix_2 n t1 2 1 t4 (!a0.2.2.1) a0 r h) 
    rcases frk_eq h with ⟨hc,hk45⟩ | h
    ·subst hc
     replace h:=hk45
     exact x_to 6 [] oN (Tp_Mix_2 n t1 2 2 t4 (!a0.2.2.2.1) a0 r h) 
    rcases frk_eq h with ⟨hc,hk46⟩ | h
    ·subst hc
     replace h:=hk46
     exact x_to 6 [] oN (Tp_Mix_2 n t1 2 3 t4 (!a0.2.2.2.2.1) a0 r h) 
    rcases frk_eq h with ⟨hc,hk47⟩ | h
    ·subst hc
     replace h:=hk47
     exact x_to 6 [] oN (Tp_Mix_2 n t1 2 4 t4 (!a0.2.2.2.2.2.1) a0 r h) 
    rcases frk_eq h with ⟨hc,hk48⟩ | h
    ·subst hc
     replace h:=hk48
     exact x_to 6 [] oN (Tp_Mix_2 n t1 2 5 t4 (!a0.2.2.2.2.2.2.1) a0 r h) 
    rcases frk_eq h with ⟨hc,hk49⟩ | h
    ·subst hc
     replace h:=hk49
     exact x_to 6 [] oN (Tp_Mix_2 n t1 2 6 t4 (!a0.2.2.2.2.2.2.2.1) a0 r h) 
    rcases frk_eq h with ⟨hc,hk50⟩ | h
    ·subst hc
     replace h:=hk50
     exact x_to 6 [] oN (Tp_Mix_2 n t1 2 7 t4 (!a0.2.2.2.2.2.2.2.2) a0 r h) 
    exact absurd h (by simp)
  rcases frk_eq h with ⟨hc,hk94⟩ | h
  ·subst hc
   replace h:=hk94
   refine x_frk 4 [] oN h (fun h=>?_) (fun h=>?_)
   ·exact x_to 8 [] oN (Tp_Mix_2 n t1 3 t3 t4 true a0 r h) 
   ·refine x_pt 2 [] oN (by kernel_rfl) ?_
    rcases frk_eq h with ⟨hc,hk51⟩ | h
    ·subst hc
     replace h:=hk51
     exact x_to 6 [] oN (Tp_Mix_2 n t1 3 0 t4 (!a0.2.1) a0 r h) 
    rcases frk_eq h with ⟨hc,hk52⟩ | h
    ·subst hc
     replace h:=hk52
     exact x_to 6 [] oN (Tp_Mix_2 n t1 3 1 t4 (!a0.2.2.1) a0 r h) 
    rcases frk_eq h with ⟨hc,hk53⟩ | h
    ·subst hc
     replace h:=hk53
     exact x_to 6 [] oN (Tp_Mix_2 n t1 3 2 t4 (!a0.2.2.2.1) a0 r h) 
    rcases frk_eq h with ⟨hc,hk54⟩ | h
    ·subst hc
     replace h:=hk54
     exact x_to 6 [] oN (Tp_Mix_2 n t1 3 3 t4 (!a0.2.2.2.2.1) a0 r h) 
    rcases frk_eq h with ⟨hc,hk55⟩ | h
    ·subst hc
     replace h:=hk55
     exact x_to 6 [] oN (Tp_Mix_2 n t1 3 4 t4 (!a0.2.2.2.2.2.1) a0 r h) 
    rcases frk_eq h with ⟨hc,hk56⟩ | h
    ·subst hc
     replace h:=hk56
     exact x_to 6 [] oN (Tp_Mix_2 n t1 3 5 t4 (!a0.2.2.2.2.2.2.1) a0 r h) 
    rcases frk_eq h with ⟨hc,hk57⟩ | h
    ·subst hc
     replace h:=hk57
     exact x_to 6 [] oN (Tp_Mix_2 n t1 3 6 t4 (!a0.2.2.2.2.2.2.2.1) a0 r h) 
    rcases frk_eq h with ⟨hc,hk58⟩ | h
    ·subst hc
     replace h:=hk58
     exact x_to 6 [] oN (Tp_Mix_2 n t1 3 7 t4 (!a0.2.2.2.2.2.2.2.2) a0 r h) 
    exact absurd h (by simp)
  rcases frk_eq h with ⟨hc,hk95⟩ | h
  ·subst hc
   replace h:=hk95
   refine x_frk 4 [] oN h (fun h=>?_) (fun h=>?_)
   ·exact x_to 8 [] oN (Tp_Mix_2 n t1 4 t3 t4 true a0 r h) 
   ·refine x_pt 2 [] oN (by kernel_rfl) ?_
    rcases frk_eq h with ⟨hc,hk59⟩ | h
    ·subst hc
     replace h:=hk59
     exact x_to 6 [] oN (Tp_Mix_2 n t1 4 0 t4 (!a0.2.1) a0 r h) 
    rcases frk_eq h with ⟨hc,hk60⟩ | h
    ·subst hc
     replace h:=hk60
     exact x_to 6 [] oN (Tp_Mix_2 n t1 4 1 t4 (!a0.2.2.1) a0 r h) 
    rcases frk_eq h with ⟨hc,hk61⟩ | h
    ·subst hc
     replace h:=hk61
     exact x_to 6 [] oN (Tp_Mix_2 n t1 4 2 t4 (!a0.2.2.2.1) a0 r h) 
    rcases frk_eq h with ⟨hc,hk62⟩ | h
    ·subst hc
     replace h:=hk62
     exact x_to 6 [] oN (Tp_Mix_2 n t1 4 3 t4 (!a0.2.2.2.2.1) a0 r h) 
    rcases frk_eq h with ⟨hc,hk63⟩ | h
    ·subst hc
     replace h:=hk63
     exact x_to 6 [] oN (Tp_Mix_2 n t1 4 4 t4 (!a0.2.2.2.2.2.1) a0 r h) 
    rcases frk_eq h with ⟨hc,hk64⟩ | h
    ·subst hc
     replace h:=hk64
     exact x_to 6 [] oN (Tp_Mix_2 n t1 4 5 t4 (!a0.2.2.2.2.2.2.1) a0 r h) 
    rcases frk_eq h with ⟨hc,hk65⟩ | h
    ·subst hc
     replace h:=hk65
     exact x_to 6 [] oN (Tp_Mix_2 n t1 4 6 t4 (!a0.2.2.2.2.2.2.2.1) a0 r h) 
    rcases frk_eq h with ⟨hc,hk66⟩ | h
    ·subst hc
     replace h:=hk66
     exact x_to 6 [] oN (Tp_Mix_2 n t1 4 7 t4 (!a0.2.2.2.2.2.2.2.2) a0 r h) 
    exact absurd h (by simp)
  rcases frk_eq h with ⟨hc,hk96⟩ | h
  ·subst hc
   replace h:=hk96
   refine x_frk 4 [] oN h (fun h=>?_) (fun h=>?_)
   ·exact x_to 8 [] oN (Tp_Mix_2 n t1 5 t3 t4 true a0 r h) 
   ·refine x_pt 2 [] oN (by kernel_rfl) ?_
    rcases frk_eq h with ⟨hc,hk67⟩ | h
    ·subst hc
     replace h:=hk67
     exact x_to 6 [] oN (Tp_Mix_2 n t1 5 0 t4 (!a0.2.1) a0 r h) 
    rcases frk_eq h with ⟨hc,hk68⟩ | h
    ·subst hc
     replace h:=hk68
     exact x_to 6 [] oN (Tp_Mix_2 n t1 5 1 t4 (!a0.2.2.1) a0 r h) 
    rcases frk_eq h with ⟨hc,hk69⟩ | h
    ·subst hc
     replace h:=hk69
     exact x_to 6 [] oN (Tp_Mix_2 n t1 5 2 t4 (!a0.2.2.2.1) a0 r h) 
    rcases frk_eq h with ⟨hc,hk70⟩ | h
    ·subst hc
     replace h:=hk70
     exact x_to 6 [] oN (Tp_Mix_2 n t1 5 3 t4 (!a0.2.2.2.2.1) a0 r h) 
    rcases frk_eq h with ⟨hc,hk71⟩ | h
    ·subst hc
     replace h:=hk71
     exact x_to 6 [] oN (Tp_Mix_2 n t1 5 4 t4 (!a0.2.2.2.2.2.1) a0 r h) 
    rcases frk_eq h with ⟨hc,hk72⟩ | h
    ·subst hc
     replace h:=hk72
     exact x_to 6 [] oN (Tp_Mix_2 n t1 5 5 t4 (!a0.2.2.2.2.2.2.1) a0 r h) 
    rcases frk_eq h with ⟨hc,hk73⟩ | h
    ·subst hc
     replace h:=hk73
     exact x_to 6 [] oN (Tp_Mix_2 n t1 5 6 t4 (!a0.2.2.2.2.2.2.2.1) a0 r h) 
    rcases frk_eq h with ⟨hc,hk74⟩ | h
    ·subst hc
     replace h:=hk74
     exact x_to 6 [] oN (Tp_Mix_2 n t1 5 7 t4 (!a0.2.2.2.2.2.2.2.2) a0 r h) 
    exact absurd h (by simp)
  rcases frk_eq h with ⟨hc,hk97⟩ | h
  ·subst hc
   replace h:=hk97
   refine x_frk 4 [] oN h (fun h=>?_) (fun h=>?_)
   ·exact x_to 8 [] oN (Tp_Mix_2 n t1 6 t3 t4 true a0 r h) 
   ·refine x_pt 2 [] oN (by kernel_rfl) ?_
    rcases frk_eq h with ⟨hc,hk75⟩ | h
    ·subst hc
     replace h:=hk75
     exact x_to 6 [] oN (Tp_Mix_2 n t1 6 0 t4 (!a0.2.1) a0 r h) 
    rcases frk_eq h with ⟨hc,hk76⟩ | h
    ·subst hc
     replace h:=hk76
     exact x_to 6 [] oN (Tp_Mix_2 n t1 6 1 t4 (!a0.2.2.1) a0 r h) 
    rcases frk_eq h with ⟨hc,hk77⟩ | h
    ·subst hc
     replace h:=hk77
     exact x_to 6 [] oN (Tp_Mix_2 n t1 6 2 t4 (!a0.2.2.2.1) a0 r h) 
    rcases frk_eq h with ⟨hc,hk78⟩ | h
    ·subst hc
     replace h:=hk78
     exact x_to 6 [] oN (Tp_Mix_2 n t1 6 3 t4 (!a0.2.2.2.2.1) a0 r h) 
    rcases frk_eq h with ⟨hc,hk79⟩ | h
    ·subst hc
     replace h:=hk79
     exact x_to 6 [] oN (Tp_Mix_2 n t1 6 4 t4 (!a0.2.2.2.2.2.1) a0 r h) 
    rcases frk_eq h with ⟨hc,hk80⟩ | h
    ·subst hc
     replace h:=hk80
     exact x_to 6 [] oN (Tp_Mix_2 n t1 6 5 t4 (!a0.2.2.2.2.2.2.1) a0 r h) 
    rcases frk_eq h with ⟨hc,hk81⟩ | h
    ·subst hc
     replace h:=hk81
     exact x_to 6 [] oN (Tp_Mix_2 n t1 6 6 t4 (!a0.2.2.2.2.2.2.2.1) a0 r h) 
    rcases frk_eq h with ⟨hc,hk82⟩ | h
    ·subst hc
     replace h:=hk82
     exact x_to 6 [] oN (Tp_Mix_2 n t1 6 7 t4 (!a0.2.2.2.2.2.2.2.2) a0 r h) 
    exact absurd h (by simp)
  rcases frk_eq h with ⟨hc,hk98⟩ | h
  ·subst hc
   replace h:=hk98
   refine x_frk 4 [] oN h (fun h=>?_) (fun h=>?_)
   ·exact x_to 8 [] oN (Tp_Mix_2 n t1 7 t3 t4 true a0 r h) 
   ·refine x_pt 2 [] oN (by kernel_rfl) ?_
    rcases frk_eq h with ⟨hc,hk83⟩ | h
    ·subst hc
     replace h:=hk83
     exact x_to 6 [] oN (Tp_Mix_2 n t1 7 0 t4 (!a0.2.1) a0 r h) 
    rcases frk_eq h with ⟨hc,hk84⟩ | h
    ·subst hc
     replace h:=hk84
     exact x_to 6 [] oN (Tp_Mix_2 n t1 7 1 t4 (!a0.2.2.1) a0 r h) 
    rcases frk_eq h with ⟨hc,hk85⟩ | h
    ·subst hc
     replace h:=hk85
     exact x_to 6 [] oN (Tp_Mix_2 n t1 7 2 t4 (!a0.2.2.2.1) a0 r h) 
    rcases frk_eq h with ⟨hc,hk86⟩ | h
    ·subst hc
     replace h:=hk86
     exact x_to 6 [] oN (Tp_Mix_2 n t1 7 3 t4 (!a0.2.2.2.2.1) a0 r h) 
    rcases frk_eq h with ⟨hc,hk87⟩ | h
    ·subst hc
     replace h:=hk87
     exact x_to 6 [] oN (Tp_Mix_2 n t1 7 4 t4 (!a0.2.2.2.2.2.1) a0 r h) 
    rcases frk_eq h with ⟨hc,hk88⟩ | h
    ·subst hc
     replace h:=hk88
     exact x_to 6 [] oN (Tp_Mix_2 n t1 7 5 t4 (!a0.2.2.2.2.2.2.1) a0 r h) 
    rcases frk_eq h with ⟨hc,hk89⟩ | h
    ·subst hc
     replace h:=hk89
     exact x_to 6 [] oN (Tp_Mix_2 n t1 7 6 t4 (!a0.2.2.2.2.2.2.2.1) a0 r h) 
    rcases frk_eq h with ⟨hc,hk90⟩ | h
    ·subst hc
     replace h:=hk90
     exact x_to 6 [] oN (Tp_Mix_2 n t1 7 7 t4 (!a0.2.2.2.2.2.2.2.2) a0 r h) 
    exact absurd h (by simp)
  exact absurd h (by simp)
def Dp_Mix(n:Nat)(a0:Dk8)(a1 a2 a3 a4:Int):Option (Dk8×Int) :=
 (Dp_DeskOk n a0).bind fun v0=>frk (!v0) (Dp_Mix_0 n a0) ((Dp_l20At a1).bind fun v2=>frk (!v2) (Dp_Mix_0 n a0) ((Dp_l20At a2).bind fun v3=>frk (!v3) (Dp_Mix_0 n a0) ((Dp_l20At a3).bind fun v4=>frk (!v4) (Dp_Mix_0 n a0) ((Dp_l1In a4 1 4).bind fun v5=>Dp_Mix_1 n a1 a2 a3 a4 (!v5) a0))))
theorem Tp_Mix{Y}(n:Nat)(a0:Dk8)(a1 a2 a3 a4:Int)(r:(Dk8×Int))(h:Dp_Mix n a0 a1 a2 a3 a4=some r):BT Y (.call 118 [.agg (cT52 a0),iN a1,iN a2,iN a3,iN a4] (lk []) (.tup [.agg (cT52o r.1),iN r.2]) (lk [])):=by
 unfold Dp_Mix at h
 refine x_call (fn:=Tryz.f118) (c:=B118) (bs0:=[]) Tryz.func118 (by kernel_rfl) (by kernel_rfl) ?_
 obtain⟨v0,y0,h⟩:=bm h
 refine x_frk 14 [(4,.call [] [] (bl v0) [])] (oI (Tp_DeskOk (Y:=Y) n a0 _ y0)) h (fun h=>?_) (fun h=>?_)
 ·exact x_to 23 [] oN (Tp_Mix_0 n a0 r h) 
 ·obtain⟨v2,y2,h⟩:=bm h
  refine x_frk 5 [(1,.call [] [] (bl v2) [])] (oI (Tp_l20At (Y:=Y) a1 _ y2)) h (fun h=>?_) (fun h=>?_)
  ·exact x_to 18 [] oN (Tp_Mix_0 n a0 r h) 
  ·obtain⟨v3,y3,h⟩:=bm h
   refine x_frk 5 [(1,.call [] [] (bl v3) [])] (oI (Tp_l20At (Y:=Y) a2 _ y3)) h (fun h=>?_) (fun h=>?_)
   ·exact x_to 13 [] oN (Tp_Mix_0 n a0 r h) 
   ·obtain⟨v4,y4,h⟩:=bm h
    refine x_frk 5 [(1,.call [] [] (bl v4) [])] (oI (Tp_l20At (Y:=Y) a3 _ y4)) h (fun h=>?_) (fun h=>?_)
    ·exact x_to 8 [] oN (Tp_Mix_0 n a0 r h) 
    ·obtain⟨v5,y5,h⟩:=bm h
     exact x_to 6 [(1,.call [] [] (bl v5) [])] (oI (Tp_l1In (Y:=Y) a4 1 4 _ y5)) (Tp_Mix_1 n a1 a2 a3 a4 (!v5) a0 r h) 
def Dp_PtOk(a0:Pt):Option Bool :=
 (Dp_l1In a0.X (-1000000) 1000000).bind fun v0=>frk v0 ((Dp_l1In a0.Y (-1000000) 1000000).bind fun v1=>frk v1 ((Dp_l1In a0.Z (-1000000) 1000000).bind fun v2=>some v2) (some false)) (some false)
theorem Tp_PtOk{Y}(a0:Pt)(r:Bool)(h:Dp_PtOk a0=some r):BT Y (.call 11 [.agg [iN a0.X,iN a0.Y,iN a0.Z]] (lk []) (bl r) (lk [])):=by
 unfold Dp_PtOk at h
 refine x_call (fn:=Tryz.f11) (c:=B11) (bs0:=[]) Tryz.func11 (by kernel_rfl) (by kernel_rfl) ?_
 obtain⟨v0,y0,h⟩:=bm h
 refine x_frk 11 [(4,.call [] [] (bl v0) [])] (oI (Tp_l1In (Y:=Y) a0.X (-1000000) 1000000 _ y0)) h (fun h=>?_) (fun h=>?_)
 ·obtain⟨v1,y1,h⟩:=bm h
  refine x_frk 5 [(2,.call [] [] (bl v1) [])] (oI (Tp_l1In (Y:=Y) a0.Y (-1000000) 1000000 _ y1)) h (fun h=>?_) (fun h=>?_)
  ·obtain⟨v2,y2,h⟩:=bm h
   obtain rfl:=sj h
   exact x_end 6 [(2,.call [] [] (bl v2) [])] [] (oI (Tp_l1In (Y:=Y) a0.Z (-1000000) 1000000 _ y2)) oN 
  ·obtain rfl:=sj h
   exact x_end 6 [] [] oN oN 
 ·obtain rfl:=sj h
  exact x_end 11 [] [] oN oN 
def Dp_l1Num_1(_n:Nat)(t0:Bool)(t1:List Int)(t5:Int)(_zr:Bool):Option Num :=
 frk t0 ((lsl t1 0 t5).bind fun v1=>chk (apB 8 (0+v1.length)) (some (Num.mk (decide (t5>0)) ([]++v1)))) ((lsl t1 0 t5).bind fun v3=>chk (apB 8 (0+v3.length)) (some (Num.mk false ([]++v3))))
theorem Tp_l1Num_1{Y}(n:Nat)(t0:Bool)(t1:List Int)(t5:Int)(zr:Bool)(r:Num)(h:Dp_l1Num_1 n t0 t1 t5 zr=some r):WT Y 165 [.code (cp [1,1,1,0] B165),.code (cp [1,1,1,1] B165)] (FT Tryz.f165 [] (.agg [bl r.Neg,.sl true 1 r.D.length ((eInt).f r.D)]) []) ⟨[(0,bl t0),(1,.sl false 1 t1.length ((eInt).f t1)),(4,.ptr 4 0),(5,iN t5)],[(4,⟨true,0,[bl zr,.nil]⟩)]⟩:=by
 unfold Dp_l1Num_1 at h
 refine x_frk 3 [] oN h (fun h=>?_) (fun h=>?_)
 ·obtain⟨v1,y1,h⟩:=bm h
  obtain⟨c2,h⟩:=chk_some h
  obtain rfl:=sj h
  exact x_end 11 [(6,.val (.sl false 1 v1.length ((eInt).f v1))),(0,.app false (List.length ([]++v1)) ((eInt).f ([]++v1)))] [] (oC (slF eInt y1) (oC (len_row' (L:=[]) eInt) (oC (app_one (L:=[]) (M:=v1) eInt c2) (oC (app_new (L:=[]) (M:=v1) eInt) (oC (app_m (L:=[]) (M:=v1) eInt rfl) (oI (len_row' (L:=v1) eInt))))))) (oI (len_row (L:=([]++v1)) eInt)) 
 ·obtain⟨v3,y3,h⟩:=bm h
  obtain⟨c4,h⟩:=chk_some h
  obtain rfl:=sj h
  exact x_end 11 [(6,.val (.sl false 1 v3.length ((eInt).f v3))),(0,.app false (List.length ([]++v3)) ((eInt).f ([]++v3)))] [] (oC (slF eInt y3) (oC (len_row' (L:=[]) eInt) (oC (app_one (L:=[]) (M:=v3) eInt c4) (oC (app_new (L:=[]) (M:=v3) eInt) (oC (app_m (L:=[]) (M:=v3) eInt rfl) (oI (len_row' (L:=v3) eInt))))))) (oI (len_row (L:=([]++v3)) eInt)) 
def Dp_l1Num_0(n:Nat)(rec0:Int→Option Num)(t0:Bool)(t1:List Int)(zr:Bool)(t5:Int)(t17:Bool):Option Num :=
 frk t17 (rec0 (w64 (t5-1))) (Dp_l1Num_1 n t0 t1 t5 zr)
theorem Tp_l1Num_0{Y}(n:Nat)(rec0:Int→Option Num)(t0:Bool)(t1:List Int)(zr:Bool)(hrec0:∀(a:Int) (r:Num),rec0 a=some r→WT Y 165 [.code (cp [1,1,0,0] B165),.blk 0,.code (cp [1,1,1] B165)] (FT Tryz.f165 [] (.agg [bl r.Neg,.sl true 1 r.D.length ((eInt).f r.D)]) []) ⟨[(0,bl t0),(1,.sl false 1 t1.length ((eInt).f t1)),(4,.ptr 4 0),(5,iN a)],[(4,⟨true,0,[bl zr,.nil]⟩)]⟩)(t5:Int)(t17:Bool)(r:Num)(h:Dp_l1Num_0 n rec0 t0 t1 zr t5 t17=some r):WT Y 165 [.code (cp [1,1,0,0,0,0,1] B165),.code (cp [1,1,0,0,0,1] B165),.lp (cp [1,1,0,0] B165),.blk 0,.code (cp [1,1,1] B165)] (FT Tryz.f165 [] (.agg [bl r.Neg,.sl true 1 r.D.length ((eInt).f r.D)]) []) ⟨[(0,bl t0),(1,.sl false 1 t1.length ((eInt).f t1)),(4,.ptr 4 0),(5,iN t5),(17,bl t17)],[(4,⟨true,0,[bl zr,.nil]⟩)]⟩:=by
 unfold Dp_l1Num_0 at h
 refine x_frk 0 [] oN h (fun h=>?_) (fun h=>?_)
 ·exact x_to 9 [] oN (hrec0 (w64 (t5-1)) r h) 
 ·exact x_to 2 [] oN (Tp_l1Num_1 n t0 t1 t5 zr r h) 
def Dp_l1Num_2(n:Nat)(t0:Bool)(t1:List Int)(zr:Bool)(rec0:Int→Option Num)(a:Int):Option Num :=
 match a with
 | t5=>frk (decide (t5>0)) ((lget t1 (w64 (t5-1))).bind fun v0=>Dp_l1Num_0 n rec0 t0 t1 zr t5 (v0==0)) (Dp_l1Num_1 n t0 t1 t5 zr)
theorem Tp_l1Num_2{Y}(n:Nat)(t0:Bool)(t1:List Int)(zr:Bool):∀(m:Nat) (a:Int) (r:Num),loopN (Dp_l1Num_2 n t0 t1 zr) m a=some r→WT Y 165 [.code (cp [1,1,0,0] B165),.blk 0,.code (cp [1,1,1] B165)] (FT Tryz.f165 [] (.agg [bl r.Neg,.sl true 1 r.D.length ((eInt).f r.D)]) []) ⟨[(0,bl t0),(1,.sl false 1 t1.length ((eInt).f t1)),(4,.ptr 4 0),(5,iN a)],[(4,⟨true,0,[bl zr,.nil]⟩)]⟩:=by
 refine loopN_ind (fun rec0 hrec0 a r h=>?_)
 obtain⟨t5,rfl⟩:∃x,x=a:=⟨a,rfl⟩
 unfold Dp_l1Num_2 at h
 refine x_frk 7 [] oN h (fun h=>?_) (fun h=>?_)
 ·obtain⟨v0,y0,h⟩:=bm h
  exact x_to 8 [(3,.val (.cptr (eInt.c v0++(eInt).f ((t1).drop (Int.toNat (w64 (t5-1))+1)))))] (oI (ix eInt y0)) (Tp_l1Num_0 n rec0 t0 t1 zr hrec0 t5 (v0==0) r h) 
 ·exact x_to 11 [] oN (Tp_l1Num_1 n t0 t1 t5 zr r h) 
def Dp_l1Num(n:Nat)(a0:Bool)(a1:(List Int)):Option Num :=
 loopN (Dp_l1Num_2 n a0 a1 false) n (a1.length:Int)
theorem Tp_l1Num{Y}(n:Nat)(a0:Bool)(a1:(List Int))(r:Num)(h:Dp_l1Num n a0 a1=some r):BT Y (.call 165 [bl a0,.sl false 1 a1.length ((eInt).f a1)] (lk []) (.agg [bl r.Neg,.sl true 1 r.D.length ((eInt).f r.D)]) (lk [])):=by
 unfold Dp_l1Num at h
 refine x_call (fn:=Tryz.f165) (c:=B165) (bs0:=[]) Tryz.func165 (by kernel_rfl) (by kernel_rfl) ?_
 exact x_to 12 [] oN (Tp_l1Num_2 n a0 a1 false n (a1.length:Int) r h) 
def Dp_Of_1(n:Nat)(t0:Int)(_zg:Bool)(l14:List Int):Option Num :=
 (Dp_l1Num n (decide (t0<0)) l14).bind fun v1=>some v1
theorem Tp_Of_1{Y}(n:Nat)(t0:Int)(zg:Bool)(l14:List Int)(r:Num)(h:Dp_Of_1 n t0 zg l14=some r):WT Y 161 [.code (cp [1,1,1,1,1,0] B161),.code (cp [1,1,1,1,1,1] B161)] (FT Tryz.f161 [] (.agg [bl r.Neg,.sl true 1 r.D.length ((eInt).f r.D)]) []) ⟨[(0,iN t0),(2,.ptr 2 0),(4,.msl 14 l14.length)],[(2,⟨true,0,[bl zg,.nil]⟩),(14,⟨true,1,(eInt).f l14⟩)]⟩:=by
 unfold Dp_Of_1 at h
 obtain⟨v1,y1,h⟩:=bm h
 obtain rfl:=sj h
 exact x_end 7 [(3,.call [] [(eInt).f l14] (.agg [bl v1.Neg,.sl true 1 v1.D.length ((eInt).f v1.D)]) [])] [] (oC (Tp_l1Num (Y:=Y) n (decide (t0<0)) l14 _ y1) (oC (len_row (L:=l14) eInt) (oC (Enc.share eInt eInt sInt l14) (oI (show hasSh (.agg [bl v1.Neg,.sl true 1 v1.D.length ((eInt).f v1.D)])=false by simp[hasSh,hasShL,nSh,nShI,nShB,nShP,nShT,nShN,nShPs]))))) oN 
def Dp_Of_2(n:Nat)(t0:Int)(zg:Bool)(rec0:(Int×List Int)→Option Num)(a:(Int×List Int)):Option Num :=
 match a with
 | (t3,l14)=>frk (decide (t3>0)) (chk (apB 8 (l14.length+1)) (rec0 (IntKind.u64.wrap (Int.tdiv t3 10000),(l14++[w64 (Int.tmod t3 10000)])))) (Dp_Of_1 n t0 zg l14)
theorem Tp_Of_2{Y}(n:Nat)(t0:Int)(zg:Bool):∀(m:Nat) (a:(Int×List Int)) (r:Num),loopN (Dp_Of_2 n t0 zg) m a=some r→WT Y 161 [.code (cp [1,1,1,1,0,0] B161),.blk 0,.code (cp [1,1,1,1,1] B161)] (FT Tryz.f161 [] (.agg [bl r.Neg,.sl true 1 r.D.length ((eInt).f r.D)]) []) ⟨[(0,iN t0),(2,.ptr 2 0),(3,.lit (.int .u64 a.1)),(4,.msl 14 a.2.length)],[(2,⟨true,0,[bl zg,.nil]⟩),(14,⟨true,1,(eInt).f a.2⟩)]⟩:=by
 refine loopN_ind (fun _rec0 hrec0 a r h=>?_)
 obtain⟨t3,l14⟩:=a
 unfold Dp_Of_2 at h
 refine x_frk 7 [] oN h (fun h=>?_) (fun h=>?_)
 ·obtain⟨c0,h⟩:=chk_some h
  exact x_to 20 [(5,.app false (List.length (l14++[w64 (Int.tmod t3 10000)])) ((eInt).f (l14++[w64 (Int.tmod t3 10000)]))),(4,.ren 22 14)] (oC (len_row' (L:=l14) eInt) (oC (app_one (L:=l14) (M:=[w64 (Int.tmod t3 10000)]) eInt c0) (oC (app_new (L:=l14) (M:=[w64 (Int.tmod t3 10000)]) eInt) (oC (app_m (L:=l14) (M:=[w64 (Int.tmod t3 10000)]) eInt rfl) (oC (len_row' (L:=[w64 (Int.tmod t3 10000)]) eInt) (oC (Enc.noOwn eInt (fun _=>rfl) [w64 (Int.tmod t3 10000)]) (oI (show 22<1000∧14<1000 by decide)))))))) (hrec0 (IntKind.u64.wrap (Int.tdiv t3 10000),(l14++[w64 (Int.tmod t3 10000)])) r h) 
 ·exact x_to 2 [] oN (Tp_Of_1 n t0 zg l14 r h) 
def Dp_Of_0(n:Nat)(t0 t3:Int)(zg:Bool)(l14:List Int):Option Num :=
 loopN (Dp_Of_2 n t0 zg) n (t3,l14)
theorem Tp_Of_0{Y}(n:Nat)(t0 t3:Int)(zg:Bool)(l14:List Int)(r:Num)(h:Dp_Of_0 n t0 t3 zg l14=some r):WT Y 161 [.code (cp [1,1,1,1,0,0] B161),.blk 0,.code (cp [1,1,1,1,1] B161)] (FT Tryz.f161 [] (.agg [bl r.Neg,.sl true 1 r.D.length ((eInt).f r.D)]) []) ⟨[(0,iN t0),(2,.ptr 2 0),(3,.lit (.int .u64 t3)),(4,.msl 14 l14.length)],[(2,⟨true,0,[bl zg,.nil]⟩),(14,⟨true,1,(eInt).f l14⟩)]⟩:=by
 unfold Dp_Of_0 at h
 exact x_to 0 [] oN (Tp_Of_2 n t0 zg n (t3,l14) r h) 
def Dp_Of(n:Nat)(a0:Int):Option Num :=
 frk (decide (a0<0)) (Dp_Of_0 n a0 (IntKind.u64.wrap ((IntKind.u64.wrap (w64 (0-(w64 (a0+1)))))+1)) false []) (Dp_Of_0 n a0 (IntKind.u64.wrap a0) false [])
theorem Tp_Of{Y}(n:Nat)(a0:Int)(r:Num)(h:Dp_Of n a0=some r):BT Y (.call 161 [iN a0] (lk []) (.agg [bl r.Neg,.sl true 1 r.D.length ((eInt).f r.D)]) (lk [])):=by
 unfold Dp_Of at h
 refine x_call (fn:=Tryz.f161) (c:=B161) (bs0:=[]) Tryz.func161 (by kernel_rfl) (by kernel_rfl) ?_
 refine x_frk 16 [] oN h (fun h=>?_) (fun h=>?_)
 ·exact x_to 15 [] oN (Tp_Of_0 n a0 (IntKind.u64.wrap ((IntKind.u64.wrap (w64 (0-(w64 (a0+1)))))+1)) false [] r h) 
 ·exact x_to 8 [] oN (Tp_Of_0 n a0 (IntKind.u64.wrap a0) false [] r h) 
def Dp_NumOk_1(_n:Nat)(t3:Int)(za:Bool)(zb:List Int):Option Bool :=
 frk (decide (t3≤120)) (frk (t3==0) (frk (!za) (some true) (frk (decide (t3>0)) ((lget zb (w64 (t3-1))).bind fun v2=>some (v2 != 0)) (some false))) (frk (decide (t3>0)) ((lget zb (w64 (t3-1))).bind fun v3=>some (v3 != 0)) (some false))) (some false)
theorem Tp_NumOk_1{Y}(n:Nat)(t3:Int)(za:Bool)(zb:List Int)(r:Bool)(h:Dp_NumOk_1 n t3 za zb=some r):WT Y 193 [.code (cp [1,1,1,0] B193),.code (cp [1,1,1,1] B193)] (FT Tryz.f193 [] (bl r) []) ⟨[(1,.ptr 1 0),(3,iN t3)],[(1,⟨true,0,[bl za,.sl false 1 zb.length ((eInt).f zb)]⟩)]⟩:=by
 unfold Dp_NumOk_1 at h
 refine x_frk 4 [] oN h (fun h=>?_) (fun h=>?_)
 ·refine x_frk 3 [] oN h (fun h=>?_) (fun h=>?_)
  ·refine x_frk 5 [] oN h (fun h=>?_) (fun h=>?_)
   ·obtain rfl:=sj h
    exact x_end 15 [] [] oN oN 
   ·refine x_frk 3 [] oN h (fun h=>?_) (fun h=>?_)
    ·obtain⟨v2,y2,h⟩:=bm h
     obtain rfl:=sj h
     exact x_end 12 [(4,.val (.cptr (eInt.c v2++(eInt).f ((zb).drop (Int.toNat (w64 (t3-1))+1)))))] [] (oI (ix eInt y2)) oN 
    ·obtain rfl:=sj h
     exact x_end 12 [] [] oN oN 
  ·refine x_frk 8 [] oN h (fun h=>?_) (fun h=>?_)
   ·obtain⟨v3,y3,h⟩:=bm h
    obtain rfl:=sj h
    exact x_end 12 [(4,.val (.cptr (eInt.c v3++(eInt).f ((zb).drop (Int.toNat (w64 (t3-1))+1)))))] [] (oI (ix eInt y3)) oN 
   ·obtain rfl:=sj h
    exact x_end 12 [] [] oN oN 
 ·obtain rfl:=sj h
  exact x_end 23 [] [] oN oN 
def Dp_NumOk_0(n:Nat)(rec0:Int→Option Bool)(t3:Int)(za:Bool)(zb:List Int)(t4:Int)(t14:Bool):Option Bool :=
 frk t14 ((lget zb t4).bind fun v0=>(Dp_l1In v0 0 9999).bind fun v1=>frk (!v1) (some false) (rec0 (w64 (t4+1)))) (Dp_NumOk_1 n t3 za zb)
theorem Tp_NumOk_0{Y}(n:Nat)(rec0:Int→Option Bool)(t3:Int)(za:Bool)(zb:List Int)(hrec0:∀(a:Int) (r:Bool),rec0 a=some r→WT Y 193 [.code (cp [1,1,0,1,0] B193),.blk 0,.code (cp [1,1,1] B193)] (FT Tryz.f193 [] (bl r) []) ⟨[(1,.ptr 1 0),(3,iN t3),(4,iN a)],[(1,⟨true,0,[bl za,.sl false 1 zb.length ((eInt).f zb)]⟩)]⟩)(t4:Int)(t14 r:Bool)(h:Dp_NumOk_0 n rec0 t3 za zb t4 t14=some r):WT Y 193 [.code (cp [1,1,0,1,0,0,0,1] B193),.code (cp [1,1,0,1,0,0,1] B193),.lp (cp [1,1,0,1,0] B193),.blk 0,.code (cp [1,1,1] B193)] (FT Tryz.f193 [] (bl r) []) ⟨[(1,.ptr 1 0),(3,iN t3),(4,iN t4),(14,bl t14)],[(1,⟨true,0,[bl za,.sl false 1 zb.length ((eInt).f zb)]⟩)]⟩:=by
 unfold Dp_NumOk_0 at h
 refine x_frk 0 [] oN h (fun h=>?_) (fun h=>?_)
 ·obtain⟨v0,y0,h⟩:=bm h
  obtain⟨v1,y1,h⟩:=bm h
  refine x_frk 13 [(3,.val (.cptr (eInt.c v0++(eInt).f ((zb).drop (Int.toNat t4+1))))),(1,.call [] [] (bl v1) [])] (oC (ix eInt y0) (oI (Tp_l1In (Y:=Y) v0 0 9999 _ y1))) h (fun h=>?_) (fun h=>?_)
  ·obtain rfl:=sj h
   exact x_end 4 [] [] oN oN 
  ·exact x_to 8 [] oN (hrec0 (w64 (t4+1)) r h) 
 ·exact x_to 2 [] oN (Tp_NumOk_1 n t3 za zb r h) 
def Dp_NumOk_2(n:Nat)(t3:Int)(za:Bool)(zb:List Int)(rec0:Int→Option Bool)(a:Int):Option Bool :=
 match a with
 | t4=>frk (decide (t4<t3)) (Dp_NumOk_0 n rec0 t3 za zb t4 (decide (t4≤120))) (Dp_NumOk_1 n t3 za zb)
theorem Tp_NumOk_2{Y}(n:Nat)(t3:Int)(za:Bool)(zb:List Int):∀(m:Nat) (a:Int) (r:Bool),loopN (Dp_NumOk_2 n t3 za zb) m a=some r→WT Y 193 [.code (cp [1,1,0,1,0] B193),.blk 0,.code (cp [1,1,1] B193)] (FT Tryz.f193 [] (bl r) []) ⟨[(1,.ptr 1 0),(3,iN t3),(4,iN a)],[(1,⟨true,0,[bl za,.sl false 1 zb.length ((eInt).f zb)]⟩)]⟩:=by
 refine loopN_ind (fun rec0 hrec0 a r h=>?_)
 obtain⟨t4,rfl⟩:∃x,x=a:=⟨a,rfl⟩
 unfold Dp_NumOk_2 at h
 refine x_frk 8 [] oN h (fun h=>?_) (fun h=>?_)
 ·exact x_to 4 [] oN (Tp_NumOk_0 n rec0 t3 za zb hrec0 t4 (decide (t4≤120)) r h) 
 ·exact x_to 7 [] oN (Tp_NumOk_1 n t3 za zb r h) 
def Dp_NumOk(n:Nat)(a0:Num):Option Bool :=
 loopN (Dp_NumOk_2 n (a0.D.length:Int) a0.Neg a0.D) n 0
theorem Tp_NumOk{Y}(n:Nat)(a0:Num)(r:Bool)(h:Dp_NumOk n a0=some r):BT Y (.call 193 [.agg [bl a0.Neg,.sl false 1 a0.D.length ((eInt).f a0.D)]] (lk []) (bl r) (lk [])):=by
 unfold Dp_NumOk at h
 refine x_call (fn:=Tryz.f193) (c:=B193) (bs0:=[]) Tryz.func193 (by kernel_rfl) (by kernel_rfl) ?_
 exact x_to 18 [] oN (Tp_NumOk_2 n (a0.D.length:Int) a0.Neg a0.D n 0 r h) 
def Dp_l1Mag(n:Nat)(a0:Num):Option (List Int) :=
 (Dp_NumOk n a0).bind fun v0=>frk (!v0) (some []) (some a0.D)
theorem Tp_l1Mag{Y}(n:Nat)(a0:Num)(r:(List Int))(h:Dp_l1Mag n a0=some r):BT Y (.call 186 [.agg [bl a0.Neg,.sl false 1 a0.D.length ((eInt).f a0.D)]] (lk []) (.sl false 1 r.length ((eInt).f r)) (lk [])):=by
 unfold Dp_l1Mag at h
 refine x_call (fn:=Tryz.f186) (c:=B186) (bs0:=[]) Tryz.func186 (by kernel_rfl) (by kernel_rfl) ?_
 obtain⟨v0,y0,h⟩:=bm h
 refine x_frk 12 [(3,.call [] [] (bl v0) [])] (oI (Tp_NumOk (Y:=Y) n a0 _ y0)) h (fun h=>?_) (fun h=>?_)
 ·obtain rfl:=sj h
  exact x_endS 5 [] oN (oI (len_row (L:=[]) eInt)) (wkShare (L:=[]) eInt eInt sInt) (by kernel_rfl)
 ·obtain rfl:=sj h
  exact x_end 7 [] [] oN oN 
def Dp_l1CmpMag_0(_n:Nat)(t0:List Int)(t1:List Int)(rec0:Int→Option Int)(a:Int):Option Int :=
 match a with
 | t5=>frk (decide (t5≥0)) ((lget t0 t5).bind fun v0=>(lget t1 t5).bind fun v1=>frk (v0 != v1) ((lget t0 t5).bind fun v2=>(lget t1 t5).bind fun v3=>frk (decide (v2<v3)) (some (-1)) (some 1)) (rec0 (w64 (t5-1)))) (some 0)
theorem Tp_l1CmpMag_0{Y}(n:Nat)(t0:List Int)(t1:List Int):∀(m:Nat) (a r:Int),loopN (Dp_l1CmpMag_0 n t0 t1) m a=some r→WT Y 182 [.code (cp [1,1,0,1,0] B182),.blk 0,.code (cp [1,1,1] B182)] (FT Tryz.f182 [] (iN r) []) ⟨[(0,.sl false 1 t0.length ((eInt).f t0)),(1,.sl false 1 t1.length ((eInt).f t1)),(5,iN a)],[]⟩:=by
 refine loopN_ind (fun _rec0 hrec0 a r h=>?_)
 obtain⟨t5,rfl⟩:∃x,x=a:=⟨a,rfl⟩
 unfold Dp_l1CmpMag_0 at h
 refine x_frk 7 [] oN h (fun h=>?_) (fun h=>?_)
 ·obtain⟨v0,y0,h⟩:=bm h
  obtain⟨v1,y1,h⟩:=bm h
  refine x_frk 15 [(2,.val (.cptr (eInt.c v0++(eInt).f ((t0).drop (Int.toNat t5+1))))),(3,.val (.cptr (eInt.c v1++(eInt).f ((t1).drop (Int.toNat t5+1)))))] (oC (ix eInt y0) (oI (ix eInt y1))) h (fun h=>?_) (fun h=>?_)
  ·obtain⟨v2,y2,h⟩:=bm h
   obtain⟨v3,y3,h⟩:=bm h
   refine x_frk 13 [(2,.val (.cptr (eInt.c v2++(eInt).f ((t0).drop (Int.toNat t5+1))))),(3,.val (.cptr (eInt.c v3++(eInt).f ((t1).drop (Int.toNat t5+1)))))] (oC (ix eInt y2) (oI (ix eInt y3))) h (fun h=>?_) (fun h=>?_)
   ·obtain rfl:=sj h
    exact x_end 4 [] [] oN oN 
   ·obtain rfl:=sj h
    exact x_end 5 [] [] oN oN 
  ·exact x_to 8 [] oN (hrec0 (w64 (t5-1)) r h) 
 ·obtain rfl:=sj h
  exact x_end 5 [] [] oN oN 
def Dp_l1CmpMag(n:Nat)(a0:(List Int))(a1:(List Int)):Option Int :=
 frk ((a0.length:Int) != (a1.length:Int)) (frk (decide ((a0.length:Int)<(a1.length:Int))) (some (-1)) (some 1)) (loopN (Dp_l1CmpMag_0 n a0 a1) n (w64 ((a0.length:Int)-1)))
theorem Tp_l1CmpMag{Y}(n:Nat)(a0:(List Int))(a1:(List Int))(r:Int)(h:Dp_l1CmpMag n a0 a1=some r):BT Y (.call 182 [.sl false 1 a0.length ((eInt).f a0),.sl false 1 a1.length ((eInt).f a1)] (lk []) (iN r) (lk [])):=by
 unfold Dp_l1CmpMag at h
 refine x_call (fn:=Tryz.f182) (c:=B182) (bs0:=[]) Tryz.func182 (by kernel_rfl) (by kernel_rfl) ?_
 refine x_frk 13 [] oN h (fun h=>?_) (fun h=>?_)
 ·refine x_frk 9 [] oN h (fun h=>?_) (fun h=>?_)
  ·obtain rfl:=sj h
   exact x_end 4 [] [] oN oN 
  ·obtain rfl:=sj h
   exact x_end 5 [] [] oN oN 
 ·exact x_to 10 [] oN (Tp_l1CmpMag_0 n a0 a1 n (w64 ((a0.length:Int)-1)) r h) 
def Dp_l1Guess_4(_n:Nat)(t5 t7:Int):Option Int :=
 (qt .i64 t5 t7).bind fun v2=>frk (decide (v2>0)) ((qt .i64 t5 t7).bind fun v3=>some v3) (some 1)
theorem Tp_l1Guess_4{Y}(n:Nat)(t5 t7 r:Int)(h:Dp_l1Guess_4 n t5 t7=some r):WT Y 183 [.code (cp [1,1,1,1,1,1,0,0] B183),.code (cp [1,1,1,1,1,1,0,1] B183),.code (cp [1,1,1,1,1,1,1] B183)] (FT Tryz.f183 [] (iN r) []) ⟨[(5,iN t5),(7,iN t7)],[]⟩:=by
 unfold Dp_l1Guess_4 at h
 obtain⟨v2,y2,h⟩:=bm h
 refine x_frk 6 [(2,.val (iN v2))] (oI (qtOk y2)) h (fun h=>?_) (fun h=>?_)
 ·obtain⟨v3,y3,h⟩:=bm h
  obtain rfl:=sj h
  exact x_end 7 [(2,.val (iN v3))] [] (oI (qtOk y3)) oN 
 ·obtain rfl:=sj h
  exact x_end 5 [] [] oN oN 
def Dp_l1Guess_3(n:Nat)(t5 t7:Int)(t53:Bool):Option Int :=
 frk t53 (Dp_l1Guess_4 n t5 (w64 (t7+1))) (Dp_l1Guess_4 n t5 t7)
theorem Tp_l1Guess_3{Y}(n:Nat)(t5 t7:Int)(t53:Bool)(r:Int)(h:Dp_l1Guess_3 n t5 t7 t53=some r):WT Y 183 [.code (cp [1,1,1,1,1,0,1] B183),.code (cp [1,1,1,1,1,1] B183)] (FT Tryz.f183 [] (iN r) []) ⟨[(5,iN t5),(7,iN t7),(53,bl t53)],[]⟩:=by
 unfold Dp_l1Guess_3 at h
 refine x_frk 0 [] oN h (fun h=>?_) (fun h=>?_)
 ·exact x_to 7 [] oN (Tp_l1Guess_4 n t5 (w64 (t7+1)) r h) 
 ·exact x_to 3 [] oN (Tp_l1Guess_4 n t5 t7 r h) 
def Dp_l1Guess_2(n:Nat)(rec1:(Int×Int)→Option Int)(t1:List Int)(t5 t7 t8:Int)(t41:Bool):Option Int :=
 frk t41 ((lget t1 t8).bind fun v1=>rec1 (w64 ((w64 (t7*10000))+v1),w64 (t8-1))) (Dp_l1Guess_3 n t5 t7 (decide ((t1.length:Int)>3)))
theorem Tp_l1Guess_2{Y}(n:Nat)(rec1:(Int×Int)→Option Int)(t1:List Int)(t5:Int)(hrec1:∀(a:(Int×Int)) (r:Int),rec1 a=some r→WT Y 183 [.code (cp [1,1,1,1,0,1,0] B183),.blk 2,.code (cp [1,1,1,1,1] B183)] (FT Tryz.f183 [] (iN r) []) ⟨[(1,.sl false 1 t1.length ((eInt).f t1)),(5,iN t5),(7,iN a.1),(8,iN a.2)],[]⟩)(t7 t8:Int)(t41:Bool)(r:Int)(h:Dp_l1Guess_2 n rec1 t1 t5 t7 t8 t41=some r):WT Y 183 [.code (cp [1,1,1,1,0,1,0,0,0,1] B183),.code (cp [1,1,1,1,0,1,0,0,1] B183),.lp (cp [1,1,1,1,0,1,0] B183),.blk 2,.code (cp [1,1,1,1,1] B183)] (FT Tryz.f183 [] (iN r) []) ⟨[(1,.sl false 1 t1.length ((eInt).f t1)),(5,iN t5),(7,iN t7),(8,iN t8),(41,bl t41)],[]⟩:=by
 unfold Dp_l1Guess_2 at h
 refine x_frk 0 [] oN h (fun h=>?_) (fun h=>?_)
 ·obtain⟨v1,y1,h⟩:=bm h
  exact x_to 20 [(4,.val (.cptr (eInt.c v1++(eInt).f ((t1).drop (Int.toNat t8+1)))))] (oI (ix eInt y1)) (hrec1 (w64 ((w64 (t7*10000))+v1),w64 (t8-1)) r h) 
 ·exact x_to 8 [] oN (Tp_l1Guess_3 n t5 t7 (decide ((t1.length:Int)>3)) r h) 
def Dp_l1Guess_5(n:Nat)(t1:List Int)(t5:Int)(rec1:(Int×Int)→Option Int)(a:(Int×Int)):Option Int :=
 match a with
 | (t7,t8)=>frk (decide (t8≥0)) (Dp_l1Guess_2 n rec1 t1 t5 t7 t8 (decide (t8≥(w64 ((t1.length:Int)-3))))) (Dp_l1Guess_3 n t5 t7 (decide ((t1.length:Int)>3)))
theorem Tp_l1Guess_5{Y}(n:Nat)(t1:List Int)(t5:Int):∀(m:Nat) (a:(Int×Int)) (r:Int),loopN (Dp_l1Guess_5 n t1 t5) m a=some r→WT Y 183 [.code (cp [1,1,1,1,0,1,0] B183),.blk 2,.code (cp [1,1,1,1,1] B183)] (FT Tryz.f183 [] (iN r) []) ⟨[(1,.sl false 1 t1.length ((eInt).f t1)),(5,iN t5),(7,iN a.1),(8,iN a.2)],[]⟩:=by
 refine loopN_ind (fun rec1 hrec1 a r h=>?_)
 obtain⟨t7,t8⟩:=a
 unfold Dp_l1Guess_5 at h
 refine x_frk 7 [] oN h (fun h=>?_) (fun h=>?_)
 ·exact x_to 7 [] oN (Tp_l1Guess_2 n rec1 t1 t5 hrec1 t7 t8 (decide (t8≥(w64 ((t1.length:Int)-3)))) r h) 
 ·exact x_to 16 [] oN (Tp_l1Guess_3 n t5 t7 (decide ((t1.length:Int)>3)) r h) 
def Dp_l1Guess_1(n:Nat)(t1:List Int)(t5 t7 t8:Int):Option Int :=
 loopN (Dp_l1Guess_5 n t1 t5) n (t7,t8)
theorem Tp_l1Guess_1{Y}(n:Nat)(t1:List Int)(t5 t7 t8 r:Int)(h:Dp_l1Guess_1 n t1 t5 t7 t8=some r):WT Y 183 [.code (cp [1,1,1,1,0,1,0] B183),.blk 2,.code (cp [1,1,1,1,1] B183)] (FT Tryz.f183 [] (iN r) []) ⟨[(1,.sl false 1 t1.length ((eInt).f t1)),(5,iN t5),(7,iN t7),(8,iN t8)],[]⟩:=by
 unfold Dp_l1Guess_1 at h
 exact x_to 0 [] oN (Tp_l1Guess_5 n t1 t5 n (t7,t8) r h) 
def Dp_l1Guess_0(n:Nat)(rec0:(Int×Int)→Option Int)(t0:List Int)(t1:List Int)(t5 t6:Int)(t20:Bool):Option Int :=
 frk t20 ((lget t0 t6).bind fun v0=>rec0 (w64 ((w64 (t5*10000))+v0),w64 (t6-1))) (Dp_l1Guess_1 n t1 t5 0 (w64 ((t1.length:Int)-1)))
theorem Tp_l1Guess_0{Y}(n:Nat)(rec0:(Int×Int)→Option Int)(t0:List Int)(t1:List Int)(hrec0:∀(a:(Int×Int)) (r:Int),rec0 a=some r→WT Y 183 [.code (cp [1,1,0,1,0] B183),.blk 0,.code (cp [1,1,1] B183)] (FT Tryz.f183 [] (iN r) []) ⟨[(0,.sl false 1 t0.length ((eInt).f t0)),(1,.sl false 1 t1.length ((eInt).f t1)),(5,iN a.1),(6,iN a.2)],[]⟩)(t5 t6:Int)(t20:Bool)(r:Int)(h:Dp_l1Guess_0 n rec0 t0 t1 t5 t6 t20=some r):WT Y 183 [.code (cp [1,1,0,1,0,0,0,1] B183),.code (cp [1,1,0,1,0,0,1] B183),.lp (cp [1,1,0,1,0] B183),.blk 0,.code (cp [1,1,1] B183)] (FT Tryz.f183 [] (iN r) []) ⟨[(0,.sl false 1 t0.length ((eInt).f t0)),(1,.sl false 1 t1.length ((eInt).f t1)),(5,iN t5),(6,iN t6),(20,bl t20)],[]⟩:=by
 unfold Dp_l1Guess_0 at h
 refine x_frk 0 [] oN h (fun h=>?_) (fun h=>?_)
 ·obtain⟨v0,y0,h⟩:=bm h
  exact x_to 20 [(4,.val (.cptr (eInt.c v0++(eInt).f ((t0).drop (Int.toNat t6+1)))))] (oI (ix eInt y0)) (hrec0 (w64 ((w64 (t5*10000))+v0),w64 (t6-1)) r h) 
 ·exact x_to 14 [] oN (Tp_l1Guess_1 n t1 t5 0 (w64 ((t1.length:Int)-1)) r h) 
def Dp_l1Guess_6(n:Nat)(t0:List Int)(t1:List Int)(rec0:(Int×Int)→Option Int)(a:(Int×Int)):Option Int :=
 match a with
 | (t5,t6)=>frk (decide (t6≥0)) (Dp_l1Guess_0 n rec0 t0 t1 t5 t6 (decide (t6≥(w64 ((t1.length:Int)-3))))) (Dp_l1Guess_1 n t1 t5 0 (w64 ((t1.length:Int)-1)))
theorem Tp_l1Guess_6{Y}(n:Nat)(t0:List Int)(t1:List Int):∀(m:Nat) (a:(Int×Int)) (r:Int),loopN (Dp_l1Guess_6 n t0 t1) m a=some r→WT Y 183 [.code (cp [1,1,0,1,0] B183),.blk 0,.code (cp [1,1,1] B183)] (FT Tryz.f183 [] (iN r) []) ⟨[(0,.sl false 1 t0.length ((eInt).f t0)),(1,.sl false 1 t1.length ((eInt).f t1)),(5,iN a.1),(6,iN a.2)],[]⟩:=by
 refine loopN_ind (fun rec0 hrec0 a r h=>?_)
 obtain⟨t5,t6⟩:=a
 unfold Dp_l1Guess_6 at h
 refine x_frk 7 [] oN h (fun h=>?_) (fun h=>?_)
 ·exact x_to 7 [] oN (Tp_l1Guess_0 n rec0 t0 t1 hrec0 t5 t6 (decide (t6≥(w64 ((t1.length:Int)-3)))) r h) 
 ·exact x_to 22 [] oN (Tp_l1Guess_1 n t1 t5 0 (w64 ((t1.length:Int)-1)) r h) 
def Dp_l1Guess(n:Nat)(a0:(List Int))(a1:(List Int)):Option Int :=
 loopN (Dp_l1Guess_6 n a0 a1) n (0,w64 ((a0.length:Int)-1))
theorem Tp_l1Guess{Y}(n:Nat)(a0:(List Int))(a1:(List Int))(r:Int)(h:Dp_l1Guess n a0 a1=some r):BT Y (.call 183 [.sl false 1 a0.length ((eInt).f a0),.sl false 1 a1.length ((eInt).f a1)] (lk []) (iN r) (lk [])):=by
 unfold Dp_l1Guess at h
 refine x_call (fn:=Tryz.f183) (c:=B183) (bs0:=[]) Tryz.func183 (by kernel_rfl) (by kernel_rfl) ?_
 exact x_to 17 [] oN (Tp_l1Guess_6 n a0 a1 n (0,w64 ((a0.length:Int)-1)) r h) 
def Dp_l1MulMag_0(_n:Nat)(rec0:(Int×List Int)→Option (List Int))(_t0:List Int)(t1:List Int)(t6 t7:Int)(l15:List Int):Option (List Int) :=
 (lget l15 (w64 (t6+(t1.length:Int)))).bind fun _v5=>rec0 (w64 (t6+1),(l15.set (Int.toNat (w64 (t6+(t1.length:Int)))) t7))
theorem Tp_l1MulMag_0{Y}(n:Nat)(rec0:(Int×List Int)→Option (List Int))(t0:List Int)(t1:List Int)(hrec0:∀(a:(Int×List Int)) (r:(List Int)),rec0 a=some r→WT Y 185 [.code (cp [1,1,0,1,0] B185),.blk 0,.code (cp [1,1,1] B185)] (FT Tryz.f185 [] (.sl true 1 r.length ((eInt).f r)) []) ⟨[(0,.sl false 1 t0.length ((eInt).f t0)),(1,.sl false 1 t1.length ((eInt).f t1)),(5,.msl 15 a.2.length),(6,iN a.1)],[(15,⟨true,1,(eInt).f a.2⟩)]⟩)(t6 t7:Int)(l15:List Int)(r:(List Int))(h:Dp_l1MulMag_0 n rec0 t0 t1 t6 t7 l15=some r):WT Y 185 [.code (cp [1,1,0,1,0,0,1,0,0,1,1] B185),.blk 1,.code (cp [1,1,0,1,0,0,1,1] B185),.lp (cp [1,1,0,1,0] B185),.blk 0,.code (cp [1,1,1] B185)] (FT Tryz.f185 [] (.sl true 1 r.length ((eInt).f r)) []) ⟨[(0,.sl false 1 t0.length ((eInt).f t0)),(1,.sl false 1 t1.length ((eInt).f t1)),(5,.msl 15 l15.length),(6,iN t6),(7,iN t7)],[(15,⟨true,1,(eInt).f l15⟩)]⟩:=by
 unfold Dp_l1MulMag_0 at h
 obtain⟨_v5,y5,h⟩:=bm h
 exact x_to 19 [(6,.unit),(0,.cells ((eInt).f (l15.set (Int.toNat (w64 (t6+(t1.length:Int)))) t7))),(0,.fix 5 (.msl 15 (l15.set (Int.toNat (w64 (t6+(t1.length:Int)))) t7).length)),(0,.fix 55 (.msl 15 (l15.set (Int.toNat (w64 (t6+(t1.length:Int)))) t7).length))] (oC (inr y5) (oC (stA eInt y5 0 1 [iN t7] t7 rfl rfl) (oC (setLen 15 l15 (Int.toNat (w64 (t6+(t1.length:Int)))) t7) (oI (setLen 15 l15 (Int.toNat (w64 (t6+(t1.length:Int)))) t7))))) (hrec0 (w64 (t6+1),(l15.set (Int.toNat (w64 (t6+(t1.length:Int)))) t7)) r h) 
def Dp_l1MulMag_1(n:Nat)(rec0:(Int×List Int)→Option (List Int))(t0:List Int)(t1:List Int)(t6:Int)(rec1:(Int×Int×List Int)→Option (List Int))(a:(Int×Int×List Int)):Option (List Int) :=
 match a with
 | (t7,t8,l15)=>frk (decide (t8<(t1.length:Int))) ((lget t0 t6).bind fun v1=>(lget t1 t8).bind fun v2=>(lget l15 (w64 (t6+t8))).bind fun v3=>(lget l15 (w64 (t6+t8))).bind fun _v4=>rec1 (w64 (Int.tdiv (w64 ((w64 ((w64 (v1*v2))+v3))+t7)) 10000),w64 (t8+1),(l15.set (Int.toNat (w64 (t6+t8))) (Int.tmod (w64 ((w64 ((w64 (v1*v2))+v3))+t7)) 10000)))) (Dp_l1MulMag_0 n rec0 t0 t1 t6 t7 l15)
theorem Tp_l1MulMag_1{Y}(n:Nat)(rec0:(Int×List Int)→Option (List Int))(t0:List Int)(t1:List Int)(hrec0:∀(a:(Int×List Int)) (r:(List Int)),rec0 a=some r→WT Y 185 [.code (cp [1,1,0,1,0] B185),.blk 0,.code (cp [1,1,1] B185)] (FT Tryz.f185 [] (.sl true 1 r.length ((eInt).f r)) []) ⟨[(0,.sl false 1 t0.length ((eInt).f t0)),(1,.sl false 1 t1.length ((eInt).f t1)),(5,.msl 15 a.2.length),(6,iN a.1)],[(15,⟨true,1,(eInt).f a.2⟩)]⟩)(t6:Int):∀(m:Nat) (a:(Int×Int×List Int)) (r:(List Int)),loopN (Dp_l1MulMag_1 n rec0 t0 t1 t6) m a=some r→WT Y 185 [.code (cp [1,1,0,1,0,0,1,0,0,1,0,1,0] B185),.blk 2,.code (cp [1,1,0,1,0,0,1,0,0,1,1] B185),.blk 1,.code (cp [1,1,0,1,0,0,1,1] B185),.lp (cp [1,1,0,1,0] B185),.blk 0,.code (cp [1,1,1] B185)] (FT Tryz.f185 [] (.sl true 1 r.length ((eInt).f r)) []) ⟨[(0,.sl false 1 t0.length ((eInt).f t0)),(1,.sl false 1 t1.length ((eInt).f t1)),(5,.msl 15 a.2.2.length),(6,iN t6),(7,iN a.1),(8,iN a.2.1)],[(15,⟨true,1,(eInt).f a.2.2⟩)]⟩:=by
 refine loopN_ind (fun _rec1 hrec1 a r h=>?_)
 obtain⟨t7,t8,l15⟩:=a
 unfold Dp_l1MulMag_1 at h
 refine x_frk 9 [] oN h (fun h=>?_) (fun h=>?_)
 ·obtain⟨v1,y1,h⟩:=bm h
  obtain⟨v2,y2,h⟩:=bm h
  obtain⟨v3,y3,h⟩:=bm h
  obtain⟨_v4,y4,h⟩:=bm h
  exact x_to 51 [(2,.val (.cptr (eInt.c v1++(eInt).f ((t0).drop (Int.toNat t6+1))))),(3,.val (.cptr (eInt.c v2++(eInt).f ((t1).drop (Int.toNat t8+1))))),(6,.unit),(0,.val (iN v3)),(10,.unit),(0,.cells ((eInt).f (l15.set (Int.toNat (w64 (t6+t8))) (Int.tmod (w64 ((w64 ((w64 (v1*v2))+v3))+t7)) 10000)))),(0,.fix 5 (.msl 15 (l15.set (Int.toNat (w64 (t6+t8))) (Int.tmod (w64 ((w64 ((w64 (v1*v2))+v3))+t7)) 10000)).length)),(0,.fix 37 (.msl 15 (l15.set (Int.toNat (w64 (t6+t8))) (Int.tmod (w64 ((w64 ((w64 (v1*v2))+v3))+t7)) 10000)).length)),(0,.fix 46 (.msl 15 (l15.set (Int.toNat (w64 (t6+t8))) (Int.tmod (w64 ((w64 ((w64 (v1*v2))+v3))+t7)) 10000)).length))] (oC (ix eInt y1) (oC (ix eInt y2) (oC (inr y3) (oC (ld1 eInt y3 0 rfl) (oC (inr y4) (oC (stA eInt y4 0 1 [iN (Int.tmod (w64 ((w64 ((w64 (v1*v2))+v3))+t7)) 10000)] (Int.tmod (w64 ((w64 ((w64 (v1*v2))+v3))+t7)) 10000) rfl rfl) (oC (setLen 15 l15 (Int.toNat (w64 (t6+t8))) (Int.tmod (w64 ((w64 ((w64 (v1*v2))+v3))+t7)) 10000)) (oC (setLen 15 l15 (Int.toNat (w64 (t6+t8))) (Int.tmod (w64 ((w64 ((w64 (v1*v2))+v3))+t7)) 10000)) (oI (setLen 15 l15 (Int.toNat (w64 (t6+t8))) (Int.tmod (w64 ((w64 ((w64 (v1*v2))+v3))+t7)) 10000))))))))))) (hrec1 (w64 (Int.tdiv (w64 ((w64 ((w64 (v1*v2))+v3))+t7)) 10000),w64 (t8+1),(l15.set (Int.toNat (w64 (t6+t8))) (Int.tmod (w64 ((w64 ((w64 (v1*v2))+v3))+t7)) 10000))) r h) 
 ·exact x_to 1 [] oN (Tp_l1MulMag_0 n rec0 t0 t1 hrec0 t6 t7 l15 r h) 
def Dp_l1MulMag_2(n:Nat)(t0:List Int)(t1:List Int)(rec0:(Int×List Int)→Option (List Int))(a:(Int×List Int)):Option (List Int) :=
 match a with
 | (t6,l15)=>frk (decide (t6<(t0.length:Int))) (loopN (Dp_l1MulMag_1 n rec0 t0 t1 t6) n (0,0,l15)) (some l15)
theorem Tp_l1MulMag_2{Y}(n:Nat)(t0:List Int)(t1:List Int):∀(m:Nat) (a:(Int×List Int)) (r:(List Int)),loopN (Dp_l1MulMag_2 n t0 t1) m a=some r→WT Y 185 [.code (cp [1,1,0,1,0] B185),.blk 0,.code (cp [1,1,1] B185)] (FT Tryz.f185 [] (.sl true 1 r.length ((eInt).f r)) []) ⟨[(0,.sl false 1 t0.length ((eInt).f t0)),(1,.sl false 1 t1.length ((eInt).f t1)),(5,.msl 15 a.2.length),(6,iN a.1)],[(15,⟨true,1,(eInt).f a.2⟩)]⟩:=by
 refine loopN_ind (fun rec0 hrec0 a r h=>?_)
 obtain⟨t6,l15⟩:=a
 unfold Dp_l1MulMag_2 at h
 refine x_frk 9 [] oN h (fun h=>?_) (fun h=>?_)
 ·exact x_to 13 [] oN (Tp_l1MulMag_1 n rec0 t0 t1 hrec0 t6 n (0,0,l15) r h) 
 ·obtain rfl:=sj h
  exact x_end 6 [] [] oN (oI (len_row (L:=l15) eInt)) 
def Dp_l1MulMag(n:Nat)(a0:(List Int))(a1:(List Int)):Option (List Int) :=
 chk (mkB (w64 ((a0.length:Int)+(a1.length:Int))) 8) (loopN (Dp_l1MulMag_2 n a0 a1) n (0,(List.replicate (Int.toNat (w64 ((a0.length:Int)+(a1.length:Int)))) (0:Int))))
theorem Tp_l1MulMag{Y}(n:Nat)(a0:(List Int))(a1:(List Int))(r:(List Int))(h:Dp_l1MulMag n a0 a1=some r):BT Y (.call 185 [.sl false 1 a0.length ((eInt).f a0),.sl false 1 a1.length ((eInt).f a1)] (lk []) (.sl true 1 r.length ((eInt).f r)) (lk [])):=by
 unfold Dp_l1MulMag at h
 refine x_call (fn:=Tryz.f185) (c:=B185) (bs0:=[]) Tryz.func185 (by kernel_rfl) (by kernel_rfl) ?_
 obtain⟨c0,h⟩:=chk_some h
 exact x_to 20 [(6,.mk (List.replicate (Int.toNat (w64 ((a0.length:Int)+(a1.length:Int)))) (0:Int)).length ((eInt).f (List.replicate (Int.toNat (w64 ((a0.length:Int)+(a1.length:Int)))) (0:Int))))] (oC (rflI (w64 ((a0.length:Int)+(a1.length:Int)))) (oI (mkOk eInt c0 (0:Int) rfl))) (Tp_l1MulMag_2 n a0 a1 n (0,(List.replicate (Int.toNat (w64 ((a0.length:Int)+(a1.length:Int)))) (0:Int))) r h) 
def Dp_l1SubMag_1(_n:Nat)(rec0:(Int×Int×List Int)→Option (List Int))(_t0:List Int)(_t1:List Int)(t6 t7 t8:Int)(l9:List Int):Option (List Int) :=
 chk (apB 8 (l9.length+1)) (rec0 (t6,w64 (t7+1),(l9++[t8])))
theorem Tp_l1SubMag_1{Y}(n:Nat)(rec0:(Int×Int×List Int)→Option (List Int))(t0:List Int)(t1:List Int)(hrec0:∀(a:(Int×Int×List Int)) (r:(List Int)),rec0 a=some r→WT Y 184 [.code (cp [1,1,1,0,1,0] B184),.blk 0,.code (cp [1,1,1,1] B184)] (FT Tryz.f184 [] (.sl true 1 r.length ((eInt).f r)) []) ⟨[(0,.sl false 1 t0.length ((eInt).f t0)),(1,.sl false 1 t1.length ((eInt).f t1)),(5,.msl 9 a.2.2.length),(6,iN a.1),(7,iN a.2.1)],[(9,⟨true,1,(eInt).f a.2.2⟩)]⟩)(t6 t7 t8:Int)(l9:List Int)(r:(List Int))(h:Dp_l1SubMag_1 n rec0 t0 t1 t6 t7 t8 l9=some r):WT Y 184 [.code (cp [1,1,1,0,1,0,0,1,0,0,1,1,1,1] B184),.blk 1,.code (cp [1,1,1,0,1,0,0,1,1] B184),.lp (cp [1,1,1,0,1,0] B184),.blk 0,.code (cp [1,1,1,1] B184)] (FT Tryz.f184 [] (.sl true 1 r.length ((eInt).f r)) []) ⟨[(0,.sl false 1 t0.length ((eInt).f t0)),(1,.sl false 1 t1.length ((eInt).f t1)),(5,.msl 9 l9.length),(6,iN t6),(7,iN t7),(8,iN t8)],[(9,⟨true,1,(eInt).f l9⟩)]⟩:=by
 unfold Dp_l1SubMag_1 at h
 obtain⟨c2,h⟩:=chk_some h
 exact x_to 15 [(3,.app false (List.length (l9++[t8])) ((eInt).f (l9++[t8]))),(4,.ren 39 9)] (oC (len_row' (L:=l9) eInt) (oC (app_one (L:=l9) (M:=[t8]) eInt c2) (oC (app_new (L:=l9) (M:=[t8]) eInt) (oC (app_m (L:=l9) (M:=[t8]) eInt rfl) (oC (len_row' (L:=[t8]) eInt) (oC (Enc.noOwn eInt (fun _=>rfl) [t8]) (oI (show 39<1000∧9<1000 by decide)))))))) (hrec0 (t6,w64 (t7+1),(l9++[t8])) r h) 
def Dp_l1SubMag_0(n:Nat)(rec0:(Int×Int×List Int)→Option (List Int))(t0:List Int)(t1:List Int)(t6 t7 t8:Int)(t33:Bool)(l9:List Int):Option (List Int) :=
 frk t33 (Dp_l1SubMag_1 n rec0 t0 t1 1 t7 (w64 (t8+10000)) l9) (Dp_l1SubMag_1 n rec0 t0 t1 t6 t7 t8 l9)
theorem Tp_l1SubMag_0{Y}(n:Nat)(rec0:(Int×Int×List Int)→Option (List Int))(t0:List Int)(t1:List Int)(hrec0:∀(a:(Int×Int×List Int)) (r:(List Int)),rec0 a=some r→WT Y 184 [.code (cp [1,1,1,0,1,0] B184),.blk 0,.code (cp [1,1,1,1] B184)] (FT Tryz.f184 [] (.sl true 1 r.length ((eInt).f r)) []) ⟨[(0,.sl false 1 t0.length ((eInt).f t0)),(1,.sl false 1 t1.length ((eInt).f t1)),(5,.msl 9 a.2.2.length),(6,iN a.1),(7,iN a.2.1)],[(9,⟨true,1,(eInt).f a.2.2⟩)]⟩)(t6 t7 t8:Int)(t33:Bool)(l9:List Int)(r:(List Int))(h:Dp_l1SubMag_0 n rec0 t0 t1 t6 t7 t8 t33 l9=some r):WT Y 184 [.code (cp [1,1,1,0,1,0,0,1,0,0,1,1,1,0,1] B184),.code (cp [1,1,1,0,1,0,0,1,0,0,1,1,1,1] B184),.blk 1,.code (cp [1,1,1,0,1,0,0,1,1] B184),.lp (cp [1,1,1,0,1,0] B184),.blk 0,.code (cp [1,1,1,1] B184)] (FT Tryz.f184 [] (.sl true 1 r.length ((eInt).f r)) []) ⟨[(0,.sl false 1 t0.length ((eInt).f t0)),(1,.sl false 1 t1.length ((eInt).f t1)),(5,.msl 9 l9.length),(6,iN t6),(7,iN t7),(8,iN t8),(33,bl t33)],[(9,⟨true,1,(eInt).f l9⟩)]⟩:=by
 unfold Dp_l1SubMag_0 at h
 refine x_frk 0 [] oN h (fun h=>?_) (fun h=>?_)
 ·exact x_to 9 [] oN (Tp_l1SubMag_1 n rec0 t0 t1 hrec0 1 t7 (w64 (t8+10000)) l9 r h) 
 ·exact x_to 1 [] oN (Tp_l1SubMag_1 n rec0 t0 t1 hrec0 t6 t7 t8 l9 r h) 
def Dp_l1SubMag_2(n:Nat)(t0:List Int)(t1:List Int)(rec0:(Int×Int×List Int)→Option (List Int))(a:(Int×Int×List Int)):Option (List Int) :=
 match a with
 | (t6,t7,l9)=>frk (decide (t7<(t0.length:Int))) ((lget t0 t7).bind fun v0=>frk (decide (t7<(t1.length:Int))) ((lget t1 t7).bind fun v1=>Dp_l1SubMag_0 n rec0 t0 t1 0 t7 (w64 ((w64 (v0-t6))-v1)) (decide ((w64 ((w64 (v0-t6))-v1))<0)) l9) (Dp_l1SubMag_0 n rec0 t0 t1 0 t7 (w64 (v0-t6)) (decide ((w64 (v0-t6))<0)) l9)) (some l9)
theorem Tp_l1SubMag_2{Y}(n:Nat)(t0:List Int)(t1:List Int):∀(m:Nat) (a:(Int×Int×List Int)) (r:(List Int)),loopN (Dp_l1SubMag_2 n t0 t1) m a=some r→WT Y 184 [.code (cp [1,1,1,0,1,0] B184),.blk 0,.code (cp [1,1,1,1] B184)] (FT Tryz.f184 [] (.sl true 1 r.length ((eInt).f r)) []) ⟨[(0,.sl false 1 t0.length ((eInt).f t0)),(1,.sl false 1 t1.length ((eInt).f t1)),(5,.msl 9 a.2.2.length),(6,iN a.1),(7,iN a.2.1)],[(9,⟨true,1,(eInt).f a.2.2⟩)]⟩:=by
 refine loopN_ind (fun rec0 hrec0 a r h=>?_)
 obtain⟨t6,t7,l9⟩:=a
 unfold Dp_l1SubMag_2 at h
 refine x_frk 9 [] oN h (fun h=>?_) (fun h=>?_)
 ·obtain⟨v0,y0,h⟩:=bm h
  refine x_frk 21 [(2,.val (.cptr (eInt.c v0++(eInt).f ((t0).drop (Int.toNat t7+1)))))] (oI (ix eInt y0)) h (fun h=>?_) (fun h=>?_)
  ·obtain⟨v1,y1,h⟩:=bm h
   exact x_to 19 [(3,.val (.cptr (eInt.c v1++(eInt).f ((t1).drop (Int.toNat t7+1)))))] (oI (ix eInt y1)) (Tp_l1SubMag_0 n rec0 t0 t1 hrec0 0 t7 (w64 ((w64 (v0-t6))-v1)) (decide ((w64 ((w64 (v0-t6))-v1))<0)) l9 r h) 
  ·exact x_to 11 [] oN (Tp_l1SubMag_0 n rec0 t0 t1 hrec0 0 t7 (w64 (v0-t6)) (decide ((w64 (v0-t6))<0)) l9 r h) 
 ·obtain rfl:=sj h
  exact x_end 6 [] [] oN (oI (len_row (L:=l9) eInt)) 
def Dp_l1SubMag(n:Nat)(a0:(List Int))(a1:(List Int)):Option (List Int) :=
 loopN (Dp_l1SubMag_2 n a0 a1) n (0,0,[])
theorem Tp_l1SubMag{Y}(n:Nat)(a0:(List Int))(a1:(List Int))(r:(List Int))(h:Dp_l1SubMag n a0 a1=some r):BT Y (.call 184 [.sl false 1 a0.length ((eInt).f a0),.sl false 1 a1.length ((eInt).f a1)] (lk []) (.sl true 1 r.length ((eInt).f r)) (lk [])):=by
 unfold Dp_l1SubMag at h
 refine x_call (fn:=Tryz.f184) (c:=B184) (bs0:=[]) Tryz.func184 (by kernel_rfl) (by kernel_rfl) ?_
 exact x_to 19 [] oN (Tp_l1SubMag_2 n a0 a1 n (0,0,[]) r h) 
def Dp_l1DivMag_0(n:Nat)(rec0:(Int×List Int×List Int)→Option ((List Int)×(List Int)))(_t0:List Int)(t1:List Int)(t8:Int)(rec1:(List Int×List Int)→Option ((List Int)×(List Int)))(a:(List Int×List Int)):Option ((List Int)×(List Int)) :=
 match a with
 | (l12,l29)=>(Dp_l1CmpMag n l29 t1).bind fun v4=>frk (decide (v4≥0)) ((Dp_l1Guess n l29 t1).bind fun v5=>(lget l12 t8).bind fun v6=>(lget l12 t8).bind fun _v7=>(Dp_l1MulMag n t1 [Int.tmod v5 10000,w64 (Int.tdiv v5 10000)]).bind fun v8=>(Dp_l1Num n false v8).bind fun v9=>(Dp_l1SubMag n l29 v9.D).bind fun v10=>(Dp_l1Num n false v10).bind fun v11=>rec1 ((l12.set (Int.toNat t8) (w64 (v6+v5))),v11.D)) (rec0 (w64 (t8-1),l12,l29))
theorem Tp_l1DivMag_0{Y}(n:Nat)(rec0:(Int×List Int×List Int)→Option ((List Int)×(List Int)))(t0:List Int)(t1:List Int)(hrec0:∀(a:(Int×List Int×List Int)) (r:((List Int)×(List Int))),rec0 a=some r→WT Y 163 [.code (cp [1,1,1,0,1,0] B163),.blk 0,.code (cp [1,1,1,1] B163)] (FT Tryz.f163 [] (.tup [.sl true 1 r.1.length ((eInt).f r.1),.sl true 1 r.2.length ((eInt).f r.2)]) []) ⟨[(0,.sl false 1 t0.length ((eInt).f t0)),(1,.sl false 1 t1.length ((eInt).f t1)),(6,.msl 12 a.2.1.length),(7,.msl 13 a.2.2.length),(8,iN a.1)],[(12,⟨true,1,(eInt).f a.2.1⟩),(13,⟨false,1,(eInt).f a.2.2⟩)]⟩)(t8:Int):∀(m:Nat) (a:(List Int×List Int)) (r:((List Int)×(List Int))),loopN (Dp_l1DivMag_0 n rec0 t0 t1 t8) m a=some r→WT Y 163 [.code (cp [1,1,1,0,1,0,0,1,0,0,1,0] B163),.blk 2,.blk 1,.code (cp [1,1,1,0,1,0,0,1,1] B163),.lp (cp [1,1,1,0,1,0] B163),.blk 0,.code (cp [1,1,1,1] B163)] (FT Tryz.f163 [] (.tup [.sl true 1 r.1.length ((eInt).f r.1),.sl true 1 r.2.length ((eInt).f r.2)]) []) ⟨[(0,.sl false 1 t0.length ((eInt).f t0)),(1,.sl false 1 t1.length ((eInt).f t1)),(6,.msl 12 a.1.length),(7,.msl 29 a.2.length),(8,iN t8)],[(12,⟨true,1,(eInt).f a.1⟩),(29,⟨false,1,(eInt).f a.2⟩)]⟩:=by
 refine loopN_ind (fun _rec1 hrec1 a r h=>?_)
 obtain⟨l12,l29⟩:=a
 unfold Dp_l1DivMag_0 at h
 obtain⟨v4,y4,h⟩:=bm h
 refine x_frk 9 [(2,.call [] [(eInt).f l29] (iN v4) [])] (oC (Tp_l1CmpMag (Y:=Y) n l29 t1 _ y4) (oC (len_row (L:=l29) eInt) (oI (Enc.share eInt eInt sInt l29)))) h (fun h=>?_) (fun h=>?_)
 ·obtain⟨v5,y5,h⟩:=bm h
  obtain⟨v6,y6,h⟩:=bm h
  obtain⟨_v7,y7,h⟩:=bm h
  obtain⟨v8,y8,h⟩:=bm h
  obtain⟨v9,y9,h⟩:=bm h
  obtain⟨v10,y10,h⟩:=bm h
  obtain⟨v11,y11,h⟩:=bm h
  exact x_to 44 [(2,.call [] [(eInt).f l29] (iN v5) []),(5,.unit),(0,.val (iN v6)),(2,.unit),(0,.cells ((eInt).f (l12.set (Int.toNat t8) (w64 (v6+v5))))),(0,.fix 6 (.msl 12 (l12.set (Int.toNat t8) (w64 (v6+v5))).length)),(0,.fix 37 (.msl 12 (l12.set (Int.toNat t8) (w64 (v6+v5))).length)),(0,.fix 39 (.msl 12 (l12.set (Int.toNat t8) (w64 (v6+v5))).length)),(7,.call [] [(eInt).f [Int.tmod v5 10000,w64 (Int.tdiv v5 10000)]] (.sl true 1 v8.length ((eInt).f v8)) []),(0,.call [] [(eInt).f v8] (.agg [bl v9.Neg,.sl true 1 v9.D.length ((eInt).f v9.D)]) []),(1,.call [] [(eInt).f v9.D,(eInt).f l29] (.sl true 1 v10.length ((eInt).f v10)) []),(0,.call [] [(eInt).f v10] (.agg [bl v11.Neg,.sl true 1 v11.D.length ((eInt).f v11.D)]) []),(2,.ren 58 29)] (oC (Tp_l1Guess (Y:=Y) n l29 t1 _ y5) (oC (len_row (L:=l29) eInt) (oC (Enc.share eInt eInt sInt l29) (oC (inr y6) (oC (ld1 eInt y6 0 rfl) (oC (inr y7) (oC (stA eInt y7 0 1 [iN (w64 (v6+v5))] (w64 (v6+v5)) rfl rfl) (oC (setLen 12 l12 (Int.toNat t8) (w64 (v6+v5))) (oC (setLen 12 l12 (Int.toNat t8) (w64 (v6+v5))) (oC (setLen 12 l12 (Int.toNat t8) (w64 (v6+v5))) (oC (Tp_l1MulMag (Y:=Y) n t1 [Int.tmod v5 10000,w64 (Int.tdiv v5 10000)] _ y8) (oC (len_row (L:=[Int.tmod v5 10000,w64 (Int.tdiv v5 10000)]) eInt) (oC (Enc.share eInt eInt sInt [Int.tmod v5 10000,w64 (Int.tdiv v5 10000)]) (oC (show hasSh (.sl true 1 v8.length ((eInt).f v8))=false by simp[hasSh,hasShL,nSh,nShI,nShB,nShP,nShT,nShN,nShPs]) (oC (Tp_l1Num (Y:=Y) n false v8 _ y9) (oC (len_row (L:=v8) eInt) (oC (Enc.share eInt eInt sInt v8) (oC (show hasSh (.agg [bl v9.Neg,.sl true 1 v9.D.length ((eInt).f v9.D)])=false by simp[hasSh,hasShL,nSh,nShI,nShB,nShP,nShT,nShN,nShPs]) (oC (Tp_l1SubMag (Y:=Y) n l29 v9.D _ y10) (oC (len_row (L:=l29) eInt) (oC (Enc.share eInt eInt sInt l29) (oC (len_row (L:=v9.D) eInt) (oC (Enc.share eInt eInt sInt v9.D) (oC (show hasSh (.sl true 1 v10.length ((eInt).f v10))=false by simp[hasSh,hasShL,nSh,nShI,nShB,nShP,nShT,nShN,nShPs]) (oC (Tp_l1Num (Y:=Y) n false v10 _ y11) (oC (len_row (L:=v10) eInt) (oC (Enc.share eInt eInt sInt v10) (oC (show hasSh (.agg [bl v11.Neg,.sl true 1 v11.D.length ((eInt).f v11.D)])=false by simp[hasSh,hasShL,nSh,nShI,nShB,nShP,nShT,nShN,nShPs]) (oI (show 58<1000∧29<1000 by decide)))))))))))))))))))))))))))))) (hrec1 ((l12.set (Int.toNat t8) (w64 (v6+v5))),v11.D) r h) 
 ·exact x_to 9 [(3,.ren 29 13)] (oI (show 29<1000∧13<1000 by decide)) (hrec0 (w64 (t8-1),l12,l29) r h) 
def Dp_l1DivMag_1(n:Nat)(t0:List Int)(t1:List Int)(rec0:(Int×List Int×List Int)→Option ((List Int)×(List Int)))(a:(Int×List Int×List Int)):Option ((List Int)×(List Int)) :=
 match a with
 | (t8,l12,l13)=>frk (decide (t8≥0)) ((lget t0 t8).bind fun v1=>chk (apB 8 (1+l13.length)) ((Dp_l1Num n false ([v1]++l13)).bind fun v3=>loopN (Dp_l1DivMag_0 n rec0 t0 t1 t8) n (l12,v3.D))) (some (l12,l13))
theorem Tp_l1DivMag_1{Y}(n:Nat)(t0:List Int)(t1:List Int):∀(m:Nat) (a:(Int×List Int×List Int)) (r:((List Int)×(List Int))),loopN (Dp_l1DivMag_1 n t0 t1) m a=some r→WT Y 163 [.code (cp [1,1,1,0,1,0] B163),.blk 0,.code (cp [1,1,1,1] B163)] (FT Tryz.f163 [] (.tup [.sl true 1 r.1.length ((eInt).f r.1),.sl true 1 r.2.length ((eInt).f r.2)]) []) ⟨[(0,.sl false 1 t0.length ((eInt).f t0)),(1,.sl false 1 t1.length ((eInt).f t1)),(6,.msl 12 a.2.1.length),(7,.msl 13 a.2.2.length),(8,iN a.1)],[(12,⟨true,1,(eInt).f a.2.1⟩),(13,⟨false,1,(eInt).f a.2.2⟩)]⟩:=by
 refine loopN_ind (fun rec0 hrec0 a r h=>?_)
 obtain⟨t8,l12,l13⟩:=a
 unfold Dp_l1DivMag_1 at h
 refine x_frk 7 [] oN h (fun h=>?_) (fun h=>?_)
 ·obtain⟨v1,y1,h⟩:=bm h
  obtain⟨c2,h⟩:=chk_some h
  obtain⟨v3,y3,h⟩:=bm h
  exact x_to 17 [(2,.val (.cptr (eInt.c v1++(eInt).f ((t0).drop (Int.toNat t8+1))))),(3,.app false (List.length ([v1]++l13)) ((eInt).f ([v1]++l13))),(0,.call [] [(eInt).f ([v1]++l13)] (.agg [bl v3.Neg,.sl true 1 v3.D.length ((eInt).f v3.D)]) [])] (oC (ix eInt y1) (oC (len_row' (L:=[v1]) eInt) (oC (app_one (L:=[v1]) (M:=l13) eInt c2) (oC (app_new (L:=[v1]) (M:=l13) eInt) (oC (app_m (L:=[v1]) (M:=l13) eInt rfl) (oC (len_row' (L:=l13) eInt) (oC (Enc.noOwn eInt (fun _=>rfl) l13) (oC (Tp_l1Num (Y:=Y) n false ([v1]++l13) _ y3) (oC (len_row (L:=([v1]++l13)) eInt) (oC (Enc.share eInt eInt sInt ([v1]++l13)) (oI (show hasSh (.agg [bl v3.Neg,.sl true 1 v3.D.length ((eInt).f v3.D)])=false by simp[hasSh,hasShL,nSh,nShI,nShB,nShP,nShT,nShN,nShPs])))))))))))) (Tp_l1DivMag_0 n rec0 t0 t1 hrec0 t8 n (l12,v3.D) r h) 
 ·obtain rfl:=sj h
  exact x_end 8 [] [] oN (oC (len_row (L:=l12) eInt) (oI (len_row (L:=l13) eInt))) 
def Dp_l1DivMag(n:Nat)(a0:(List Int))(a1:(List Int)):Option ((List Int)×(List Int)) :=
 chk (mkB (a0.length:Int) 8) (loopN (Dp_l1DivMag_1 n a0 a1) n (w64 ((a0.length:Int)-1),(List.replicate (Int.toNat (a0.length:Int)) (0:Int)),[]))
theorem Tp_l1DivMag{Y}(n:Nat)(a0:(List Int))(a1:(List Int))(r:((List Int)×(List Int)))(h:Dp_l1DivMag n a0 a1=some r):BT Y (.call 163 [.sl false 1 a0.length ((eInt).f a0),.sl false 1 a1.length ((eInt).f a1)] (lk []) (.tup [.sl true 1 r.1.length ((eInt).f r.1),.sl true 1 r.2.length ((eInt).f r.2)]) (lk [])):=by
 unfold Dp_l1DivMag at h
 refine x_call (fn:=Tryz.f163) (c:=B163) (bs0:=[]) Tryz.func163 (by kernel_rfl) (by kernel_rfl) ?_
 obtain⟨c0,h⟩:=chk_some h
 exact x_to 27 [(4,.mk (List.replicate (Int.toNat (a0.length:Int)) (0:Int)).length ((eInt).f (List.replicate (Int.toNat (a0.length:Int)) (0:Int)))),(7,.shutb 13 ⟨true,1,(eInt).f []⟩)] (oC (rflI (a0.length:Int)) (oC (mkOk eInt c0 (0:Int) rfl) (oC (rflB ⟨true,1,(eInt).f []⟩) (oI (show 1≠0 by decide))))) (Tp_l1DivMag_1 n a0 a1 n (w64 ((a0.length:Int)-1),(List.replicate (Int.toNat (a0.length:Int)) (0:Int)),[]) r h) 
def Dp_l1Gcd_0(n:Nat)(rec0:(List Int×List Int)→Option (List Int))(a:(List Int×List Int)):Option (List Int) :=
 match a with
 | (t0,t1)=>frk (decide ((t1.length:Int)>0)) ((Dp_l1DivMag n t0 t1).bind fun v0=>rec0 (t1,v0.2)) (some t0)
theorem Tp_l1Gcd_0{Y}(n:Nat):∀(m:Nat) (a:(List Int×List Int)) (r:(List Int)),loopN (Dp_l1Gcd_0 n) m a=some r→WT Y 192 [.code (cp [1,0,0] B192),.blk 0,.code (cp [1,1] B192)] (FT Tryz.f192 [] (.sl false 1 r.length ((eInt).f r)) []) ⟨[(0,.sl false 1 a.1.length ((eInt).f a.1)),(1,.sl false 1 a.2.length ((eInt).f a.2))],[]⟩:=by
 refine loopN_ind (fun _rec0 hrec0 a r h=>?_)
 obtain⟨t0,t1⟩:=a
 unfold Dp_l1Gcd_0 at h
 refine x_frk 8 [] oN h (fun h=>?_) (fun h=>?_)
 ·obtain⟨v0,y0,h⟩:=bm h
  exact x_to 24 [(2,.call [] [] (.tup [.sl false 1 v0.1.length ((eInt).f v0.1),.sl false 1 v0.2.length ((eInt).f v0.2)]) [])] (oI (Big.wkr (Tp_l1DivMag (Y:=Y) n t0 t1 _ y0) (show WkV (.tup [.sl true 1 v0.1.length ((eInt).f v0.1),.sl true 1 v0.2.length ((eInt).f v0.2)]) (.tup [.sl false 1 v0.1.length ((eInt).f v0.1),.sl false 1 v0.2.length ((eInt).f v0.2)]) from .inr ⟨_,_,rfl,rfl,⟨wkShareU (L:=v0.1) eInt eInt sInt,wkShareU (L:=v0.2) eInt eInt sInt,trivial⟩⟩))) (hrec0 (t1,v0.2) r h) 
 ·obtain rfl:=sj h
  exact x_end 6 [] [] oN oN 
def Dp_l1Gcd(n:Nat)(a0:(List Int))(a1:(List Int)):Option (List Int) :=
 loopN (Dp_l1Gcd_0 n) n (a0,a1)
theorem Tp_l1Gcd{Y}(n:Nat)(a0:(List Int))(a1:(List Int))(r:(List Int))(h:Dp_l1Gcd n a0 a1=some r):BT Y (.call 192 [.sl false 1 a0.length ((eInt).f a0),.sl false 1 a1.length ((eInt).f a1)] (lk []) (.sl false 1 r.length ((eInt).f r)) (lk [])):=by
 unfold Dp_l1Gcd at h
 refine x_call (fn:=Tryz.f192) (c:=B192) (bs0:=[]) Tryz.func192 (by kernel_rfl) (by kernel_rfl) ?_
 exact x_to 6 [] oN (Tp_l1Gcd_0 n n (a0,a1) r h) 
def Dp_Gcd(n:Nat)(a0:Num)(a1:Num):Option Num :=
 (Dp_l1Mag n a0).bind fun v0=>(Dp_l1Mag n a1).bind fun v1=>(Dp_l1Gcd n v0 v1).bind fun v2=>(Dp_l1Num n false v2).bind fun v3=>some v3
theorem Tp_Gcd{Y}(n:Nat)(a0:Num)(a1:Num)(r:Num)(h:Dp_Gcd n a0 a1=some r):BT Y (.call 181 [.agg [bl a0.Neg,.sl false 1 a0.D.length ((eInt).f a0.D)],.agg [bl a1.Neg,.sl false 1 a1.D.length ((eInt).f a1.D)]] (lk []) (.agg [bl r.Neg,.sl true 1 r.D.length ((eInt).f r.D)]) (lk [])):=by
 unfold Dp_Gcd at h
 refine x_call (fn:=Tryz.f181) (c:=B181) (bs0:=[]) Tryz.func181 (by kernel_rfl) (by kernel_rfl) ?_
 obtain⟨v0,y0,h⟩:=bm h
 obtain⟨v1,y1,h⟩:=bm h
 obtain⟨v2,y2,h⟩:=bm h
 obtain⟨v3,y3,h⟩:=bm h
 obtain rfl:=sj h
 exact x_end 16 [(4,.call [] [] (.sl false 1 v0.length ((eInt).f v0)) []),(1,.call [] [] (.sl false 1 v1.length ((eInt).f v1)) []),(0,.call [] [] (.sl false 1 v2.length ((eInt).f v2)) []),(0,.call [] [] (.agg [bl v3.Neg,.sl true 1 v3.D.length ((eInt).f v3.D)]) [])] [] (oC (Tp_l1Mag (Y:=Y) n a0 _ y0) (oC (Tp_l1Mag (Y:=Y) n a1 _ y1) (oC (Tp_l1Gcd (Y:=Y) n v0 v1 _ y2) (oI (Tp_l1Num (Y:=Y) n false v2 _ y3))))) oN 
def Dp_l3NumGcd_0(n:Nat)(t0:List Num)(_zg:Bool)(rec0:(Int×Bool×List Int)→Option Num)(a:(Int×Bool×List Int)):Option Num :=
 match a with
 | (t4,zl,zm)=>frk (decide (t4<(t0.length:Int))) ((lget t0 t4).bind fun v1=>(Dp_Gcd n (Num.mk zl zm) v1).bind fun v2=>rec0 (w64 (t4+1),v2.Neg,v2.D)) (some (Num.mk zl zm))
theorem Tp_l3NumGcd_0{Y}(n:Nat)(t0:List Num)(zg:Bool):∀(m:Nat) (a:(Int×Bool×List Int)) (r:Num),loopN (Dp_l3NumGcd_0 n t0 zg) m a=some r→WT Y 162 [.code (cp [1,1,0,1,0] B162),.blk 0,.code (cp [1,1,1] B162)] (FT Tryz.f162 [] (.agg [bl r.Neg,.sl true 1 r.D.length ((eInt).f r.D)]) []) ⟨[(0,.sl false 2 t0.length ((eNum false).f t0)),(2,.ptr 2 0),(3,.ptr 3 0),(4,iN a.1)],[(2,⟨true,0,[bl zg,.nil]⟩),(3,⟨true,0,[bl a.2.1,.sl true 1 a.2.2.length ((eInt).f a.2.2)]⟩)]⟩:=by
 refine loopN_ind (fun _rec0 hrec0 a r h=>?_)
 obtain⟨t4,zl,zm⟩:=a
 unfold Dp_l3NumGcd_0 at h
 refine x_frk 9 [] oN h (fun h=>?_) (fun h=>?_)
 ·obtain⟨v1,y1,h⟩:=bm h
  obtain⟨v2,y2,h⟩:=bm h
  exact x_to 19 [(0,.rows [(eInt).f zm]),(2,.val (.cptr ((eNum false).c v1++(eNum false).f ((t0).drop (Int.toNat t4+1))))),(1,.call [] [] (.agg [bl v2.Neg,.sl true 1 v2.D.length ((eInt).f v2.D)]) [])] (oC (Enc.share eInt eInt sInt zm) (oC (ix (eNum false) y1) (oI (Tp_Gcd (Y:=Y) n (Num.mk zl zm) v1 _ y2)))) (hrec0 (w64 (t4+1),v2.Neg,v2.D) r h) 
 ·obtain rfl:=sj h
  exact x_end 6 [] [] oN oN 
def Dp_l3NumGcd(n:Nat)(a0:(List Num)):Option Num :=
 (Dp_Of n 0).bind fun v0=>loopN (Dp_l3NumGcd_0 n a0 false) n (0,v0.Neg,v0.D)
theorem Tp_l3NumGcd{Y}(n:Nat)(a0:(List Num))(r:Num)(h:Dp_l3NumGcd n a0=some r):BT Y (.call 162 [.sl false 2 a0.length ((eNum false).f a0)] (lk []) (.agg [bl r.Neg,.sl true 1 r.D.length ((eInt).f r.D)]) (lk [])):=by
 unfold Dp_l3NumGcd at h
 refine x_call (fn:=Tryz.f162) (c:=B162) (bs0:=[]) Tryz.func162 (by kernel_rfl) (by kernel_rfl) ?_
 obtain⟨v0,y0,h⟩:=bm h
 exact x_to 16 [(1,.call [] [] (.agg [bl v0.Neg,.sl true 1 v0.D.length ((eInt).f v0.D)]) [])] (oI (Tp_Of (Y:=Y) n 0 _ y0)) (Tp_l3NumGcd_0 n a0 false n (0,v0.Neg,v0.D) r h) 
def Dp_l1Sign(n:Nat)(a0:Num):Option Bool :=
 (Dp_NumOk n a0).bind fun v0=>frk v0 (some a0.Neg) (some false)
theorem Tp_l1Sign{Y}(n:Nat)(a0:Num)(r:Bool)(h:Dp_l1Sign n a0=some r):BT Y (.call 187 [.agg [bl a0.Neg,.sl false 1 a0.D.length ((eInt).f a0.D)]] (lk []) (bl r) (lk [])):=by
 unfold Dp_l1Sign at h
 refine x_call (fn:=Tryz.f187) (c:=B187) (bs0:=[]) Tryz.func187 (by kernel_rfl) (by kernel_rfl) ?_
 obtain⟨v0,y0,h⟩:=bm h
 refine x_frk 10 [(3,.call [] [] (bl v0) [])] (oI (Tp_NumOk (Y:=Y) n a0 _ y0)) h (fun h=>?_) (fun h=>?_)
 ·obtain rfl:=sj h
  exact x_end 5 [] [] oN oN 
 ·obtain rfl:=sj h
  exact x_end 5 [] [] oN oN 
def Dp_Small_0(n:Nat)(t5:Int)(za:Bool)(zb:List Int):Option (Int×Bool) :=
 (Dp_l1Sign n (Num.mk za zb)).bind fun v2=>frk v2 (frk (decide (t5>9223372036854775808)) (some (0,false)) (some (w64 ((w64 (0-(w64 (IntKind.u64.wrap (t5-1)))))-1),true))) (frk (decide (t5≥9223372036854775808)) (some (0,false)) (some (w64 t5,true)))
theorem Tp_Small_0{Y}(n:Nat)(t5:Int)(za:Bool)(zb:List Int)(r:(Int×Bool))(h:Dp_Small_0 n t5 za zb=some r):WT Y 164 [.code (cp [1,1,1,1,1,0,0] B164),.code (cp [1,1,1,1,1,0,1] B164),.code (cp [1,1,1,1,1,1] B164)] (FT Tryz.f164 [] (.tup [iN r.1,bl r.2]) []) ⟨[(1,.ptr 1 0),(5,.lit (.int .u64 t5))],[(1,⟨true,0,[bl za,.sl false 1 zb.length ((eInt).f zb)]⟩)]⟩:=by
 unfold Dp_Small_0 at h
 obtain⟨v2,y2,h⟩:=bm h
 refine x_frk 4 [(1,.call [] [] (bl v2) [])] (oI (Tp_l1Sign (Y:=Y) n (Num.mk za zb) _ y2)) h (fun h=>?_) (fun h=>?_)
 ·refine x_frk 6 [] oN h (fun h=>?_) (fun h=>?_)
  ·obtain rfl:=sj h
   exact x_end 5 [] [] oN oN 
  ·obtain rfl:=sj h
   exact x_end 11 [] [] oN oN 
 ·refine x_frk 7 [] oN h (fun h=>?_) (fun h=>?_)
  ·obtain rfl:=sj h
   exact x_end 5 [] [] oN oN 
  ·obtain rfl:=sj h
   exact x_end 8 [] [] oN oN 
def Dp_Small_1(n:Nat)(t4:List Int)(za:Bool)(zb:List Int)(rec0:(Int×Int)→Option (Int×Bool))(a:(Int×Int)):Option (Int×Bool) :=
 match a with
 | (t5,t6)=>frk (decide (t6≥0)) (frk (decide (t5>922337203685477)) (some (0,false)) ((lget t4 t6).bind fun v1=>rec0 (IntKind.u64.wrap ((IntKind.u64.wrap (t5*10000))+(IntKind.u64.wrap v1)),w64 (t6-1)))) (Dp_Small_0 n t5 za zb)
theorem Tp_Small_1{Y}(n:Nat)(t4:List Int)(za:Bool)(zb:List Int):∀(m:Nat) (a:(Int×Int)) (r:(Int×Bool)),loopN (Dp_Small_1 n t4 za zb) m a=some r→WT Y 164 [.code (cp [1,1,1,1,0,1,0] B164),.blk 0,.code (cp [1,1,1,1,1] B164)] (FT Tryz.f164 [] (.tup [iN r.1,bl r.2]) []) ⟨[(1,.ptr 1 0),(4,.sl false 1 t4.length ((eInt).f t4)),(5,.lit (.int .u64 a.1)),(6,iN a.2)],[(1,⟨true,0,[bl za,.sl false 1 zb.length ((eInt).f zb)]⟩)]⟩:=by
 refine loopN_ind (fun _rec0 hrec0 a r h=>?_)
 obtain⟨t5,t6⟩:=a
 unfold Dp_Small_1 at h
 refine x_frk 7 [] oN h (fun h=>?_) (fun h=>?_)
 ·refine x_frk 9 [] oN h (fun h=>?_) (fun h=>?_)
  ·obtain rfl:=sj h
   exact x_end 5 [] [] oN oN 
  ·obtain⟨v1,y1,h⟩:=bm h
   exact x_to 19 [(4,.val (.cptr (eInt.c v1++(eInt).f ((t4).drop (Int.toNat t6+1)))))] (oI (ix eInt y1)) (hrec0 (IntKind.u64.wrap ((IntKind.u64.wrap (t5*10000))+(IntKind.u64.wrap v1)),w64 (t6-1)) r h) 
 ·exact x_to 3 [] oN (Tp_Small_0 n t5 za zb r h) 
def Dp_Small(n:Nat)(a0:Num):Option (Int×Bool) :=
 (Dp_l1Mag n a0).bind fun v0=>frk (decide ((v0.length:Int)>5)) (some (0,false)) (loopN (Dp_Small_1 n v0 a0.Neg a0.D) n (0,w64 ((v0.length:Int)-1)))
theorem Tp_Small{Y}(n:Nat)(a0:Num)(r:(Int×Bool))(h:Dp_Small n a0=some r):BT Y (.call 164 [.agg [bl a0.Neg,.sl false 1 a0.D.length ((eInt).f a0.D)]] (lk []) (.tup [iN r.1,bl r.2]) (lk [])):=by
 unfold Dp_Small at h
 refine x_call (fn:=Tryz.f164) (c:=B164) (bs0:=[]) Tryz.func164 (by kernel_rfl) (by kernel_rfl) ?_
 obtain⟨v0,y0,h⟩:=bm h
 refine x_frk 19 [(4,.call [] [] (.sl false 1 v0.length ((eInt).f v0)) [])] (oI (Tp_l1Mag (Y:=Y) n a0 _ y0)) h (fun h=>?_) (fun h=>?_)
 ·obtain rfl:=sj h
  exact x_end 5 [] [] oN oN 
 ·exact x_to 14 [] oN (Tp_Small_1 n v0 a0.Neg a0.D n (0,w64 ((v0.length:Int)-1)) r h) 
def Dp_Primitive_4(_n:Nat)(t16:Int)(t73:Bool)(_zac _zad _zae _zar:Int)(_zbg:Bool)(_zbh:List Int)(_l37:List Num)(l78:List Int):Option (Pl×Int) :=
 frk t73 (some ((Pl.mk 0 0 0 0),2)) (chk (apB 8 (l78.length+1)) ((lget (l78++[t16]) 0).bind fun v31=>(lget (l78++[t16]) 1).bind fun v32=>(lget (l78++[t16]) 2).bind fun v33=>(lget (l78++[t16]) 3).bind fun v34=>some ((Pl.mk v31 v32 v33 v34),0)))
theorem Tp_Primitive_4{Y}(n:Nat)(t16:Int)(t73:Bool)(zac zad zae zar:Int)(zbg:Bool)(zbh:List Int)(l37:List Num)(l78:List Int)(r:(Pl×Int))(h:Dp_Primitive_4 n t16 t73 zac zad zae zar zbg zbh l37 l78=some r):WT Y 139 [.code (cp [1,1,1,1,1,0,1,0,0,1,0,0,1,1,0,1] B139),.code (cp [1,1,1,1,1,0,1,0,0,1,0,0,1,1,1] B139),.blk 1,.code (cp [1,1,1,1,1,0,1,0,0,1,1] B139),.lp (cp [1,1,1,1,1,0,1,0] B139),.blk 0,.code (cp [1,1,1,1,1,1] B139)] (FT Tryz.f139 [] (.tup [.agg [iN r.1.A,iN r.1.B,iN r.1.C,iN r.1.D],iN r.2]) []) ⟨[(8,.ptr 8 0),(10,.msl 37 l37.length),(11,.ptr 11 0),(12,.msl 78 l78.length),(13,iN 3),(16,iN t16),(73,bl t73)],[(8,⟨true,0,[iN zac,iN zad,iN zae,iN zar]⟩),(11,⟨true,0,[bl zbg,.sl true 1 zbh.length ((eInt).f zbh)]⟩),(37,⟨true,2,(eNum true).f l37⟩),(78,⟨true,1,(eInt).f l78⟩)]⟩:=by
 unfold Dp_Primitive_4 at h
 refine x_frk 0 [] oN h (fun h=>?_) (fun h=>?_)
 ·obtain rfl:=sj h
  exact x_end 6 [] [] oN oN 
 ·obtain⟨c30,h⟩:=chk_some h
  obtain⟨v31,y31,h⟩:=bm h
  obtain⟨v32,y32,h⟩:=bm h
  obtain⟨v33,y33,h⟩:=bm h
  obtain⟨v34,y34,h⟩:=bm h
  obtain rfl:=sj h
  exact x_end 42 [(3,.app false (List.length (l78++[t16])) ((eInt).f (l78++[t16]))),(7,.unit),(0,.val (iN v31)),(1,.unit),(0,.val (iN v32)),(1,.unit),(0,.val (iN v33)),(1,.unit),(0,.val (iN v34))] [] (oC (len_row' (L:=l78) eInt) (oC (app_one (L:=l78) (M:=[t16]) eInt c30) (oC (app_new (L:=l78) (M:=[t16]) eInt) (oC (app_m (L:=l78) (M:=[t16]) eInt rfl) (oC (len_row' (L:=[t16]) eInt) (oC (Enc.noOwn eInt (fun _=>rfl) [t16]) (oC (inr y31) (oC (ld1 eInt y31 0 rfl) (oC (inr y32) (oC (ld1 eInt y32 0 rfl) (oC (inr y33) (oC (ld1 eInt y33 0 rfl) (oC (inr y34) (oI (ld1 eInt y34 0 rfl))))))))))))))) oN 
def Dp_Primitive_3(n:Nat)(t16:Int)(t73:Bool)(zac zad zae zar:Int)(zbg:Bool)(zbh:List Int)(l37:List Num)(l78:List Int):Option (Pl×Int) :=
 frk t73 (some ((Pl.mk 0 0 0 0),2)) (chk (apB 8 (l78.length+1)) ((lget l37 3).bind fun v24=>(Dp_l1DivMag n v24.D zbh).bind fun v25=>(lget l37 3).bind fun v26=>(Dp_l1Num n v26.Neg v25.1).bind fun v27=>(Dp_Small n v27).bind fun v28=>frk (!v28.2) (some ((Pl.mk 0 0 0 0),2)) ((Dp_l1In v28.1 (-500) 500).bind fun v29=>Dp_Primitive_4 n v28.1 (!v29) zac zad zae zar zbg zbh l37 (l78++[t16]))))
theorem Tp_Primitive_3{Y}(n:Nat)(t16:Int)(t73:Bool)(zac zad zae zar:Int)(zbg:Bool)(zbh:List Int)(l37:List Num)(l78:List Int)(r:(Pl×Int))(h:Dp_Primitive_3 n t16 t73 zac zad zae zar zbg zbh l37 l78=some r):WT Y 139 [.code (cp [1,1,1,1,1,0,1,0,0,1,0,0,1,1,0,1] B139),.code (cp [1,1,1,1,1,0,1,0,0,1,0,0,1,1,1] B139),.blk 1,.code (cp [1,1,1,1,1,0,1,0,0,1,1] B139),.lp (cp [1,1,1,1,1,0,1,0] B139),.blk 0,.code (cp [1,1,1,1,1,1] B139)] (FT Tryz.f139 [] (.tup [.agg [iN r.1.A,iN r.1.B,iN r.1.C,iN r.1.D],iN r.2]) []) ⟨[(8,.ptr 8 0),(10,.msl 37 l37.length),(11,.ptr 11 0),(12,.msl 78 l78.length),(13,iN 2),(16,iN t16),(73,bl t73)],[(8,⟨true,0,[iN zac,iN zad,iN zae,iN zar]⟩),(11,⟨true,0,[bl zbg,.sl true 1 zbh.length ((eInt).f zbh)]⟩),(37,⟨true,2,(eNum true).f l37⟩),(78,⟨true,1,(eInt).f l78⟩)]⟩:=by
 unfold Dp_Primitive_3 at h
 refine x_frk 0 [] oN h (fun h=>?_) (fun h=>?_)
 ·obtain rfl:=sj h
  exact x_end 6 [] [] oN oN 
 ·obtain⟨c23,h⟩:=chk_some h
  obtain⟨v24,y24,h⟩:=bm h
  obtain⟨v25,y25,h⟩:=bm h
  obtain⟨v26,y26,h⟩:=bm h
  obtain⟨v27,y27,h⟩:=bm h
  obtain⟨v28,y28,h⟩:=bm h
  refine x_frk 65 [(3,.app false (List.length (l78++[t16])) ((eInt).f (l78++[t16]))),(8,.unit),(1,.val (.sl true 1 v24.D.length ((eInt).f v24.D))),(0,.fix 50 (.sl false 1 v24.D.length ((eInt).f v24.D))),(1,.rows [(eInt).f zbh]),(0,.call [] [] (.tup [.sl false 1 v25.1.length ((eInt).f v25.1),.sl false 1 v25.2.length ((eInt).f v25.2)]) []),(7,.unit),(1,.val (bl v26.Neg)),(1,.call [] [] (.agg [bl v27.Neg,.sl true 1 v27.D.length ((eInt).f v27.D)]) []),(0,.call [] [(eInt).f v27.D] (.tup [iN v28.1,bl v28.2]) [])] (oC (len_row' (L:=l78) eInt) (oC (app_one (L:=l78) (M:=[t16]) eInt c23) (oC (app_new (L:=l78) (M:=[t16]) eInt) (oC (app_m (L:=l78) (M:=[t16]) eInt rfl) (oC (len_row' (L:=[t16]) eInt) (oC (Enc.noOwn eInt (fun _=>rfl) [t16]) (oC (inr y24) (oC (ld1 (eNum true) y24 1 rfl) (oC (congrArg (AV.sl false 1 v24.D.length) (Enc.share eInt eInt sInt v24.D)) (oC (Enc.share eInt eInt sInt zbh) (oC (Big.wkr (Tp_l1DivMag (Y:=Y) n v24.D zbh _ y25) (show WkV (.tup [.sl true 1 v25.1.length ((eInt).f v25.1),.sl true 1 v25.2.length ((eInt).f v25.2)]) (.tup [.sl false 1 v25.1.length ((eInt).f v25.1),.sl false 1 v25.2.length ((eInt).f v25.2)]) from .inr ⟨_,_,rfl,rfl,⟨wkShareU (L:=v25.1) eInt eInt sInt,wkShareU (L:=v25.2) eInt eInt sInt,trivial⟩⟩)) (oC (inr y26) (oC (ld1 (eNum true) y26 0 rfl) (oC (Tp_l1Num (Y:=Y) n v26.Neg v25.1 _ y27) (oC (Tp_Small (Y:=Y) n v27 _ y28) (oI (Enc.share eInt eInt sInt v27.D))))))))))))))))) h (fun h=>?_) (fun h=>?_)
  ·obtain rfl:=sj h
   exact x_end 12 [] [] oN oN 
  ·obtain⟨v29,y29,h⟩:=bm h
   exact x_to 5 [(1,.call [] [] (bl v29) [])] (oI (Tp_l1In (Y:=Y) v28.1 (-500) 500 _ y29)) (Tp_Primitive_4 n v28.1 (!v29) zac zad zae zar zbg zbh l37 (l78++[t16]) r h) 
def Dp_Primitive_2(n:Nat)(t16:Int)(t73:Bool)(zac zad zae zar:Int)(zbg:Bool)(zbh:List Int)(l37:List Num)(l78:List Int):Option (Pl×Int) :=
 frk t73 (some ((Pl.mk 0 0 0 0),2)) (chk (apB 8 (l78.length+1)) ((lget l37 2).bind fun v17=>(Dp_l1DivMag n v17.D zbh).bind fun v18=>(lget l37 2).bind fun v19=>(Dp_l1Num n v19.Neg v18.1).bind fun v20=>(Dp_Small n v20).bind fun v21=>frk (!v21.2) (some ((Pl.mk 0 0 0 0),2)) ((Dp_l1In v21.1 (-500) 500).bind fun v22=>Dp_Primitive_3 n v21.1 (!v22) zac zad zae zar zbg zbh l37 (l78++[t16]))))
theorem Tp_Primitive_2{Y}(n:Nat)(t16:Int)(t73:Bool)(zac zad zae zar:Int)(zbg:Bool)(zbh:List Int)(l37:List Num)(l78:List Int)(r:(Pl×Int))(h:Dp_Primitive_2 n t16 t73 zac zad zae zar zbg zbh l37 l78=some r):WT Y 139 [.code (cp [1,1,1,1,1,0,1,0,0,1,0,0,1,1,0,1] B139),.code (cp [1,1,1,1,1,0,1,0,0,1,0,0,1,1,1] B139),.blk 1,.code (cp [1,1,1,1,1,0,1,0,0,1,1] B139),.lp (cp [1,1,1,1,1,0,1,0] B139),.blk 0,.code (cp [1,1,1,1,1,1] B139)] (FT Tryz.f139 [] (.tup [.agg [iN r.1.A,iN r.1.B,iN r.1.C,iN r.1.D],iN r.2]) []) ⟨[(8,.ptr 8 0),(10,.msl 37 l37.length),(11,.ptr 11 0),(12,.msl 78 l78.length),(13,iN 1),(16,iN t16),(73,bl t73)],[(8,⟨true,0,[iN zac,iN zad,iN zae,iN zar]⟩),(11,⟨true,0,[bl zbg,.sl true 1 zbh.length ((eInt).f zbh)]⟩),(37,⟨true,2,(eNum true).f l37⟩),(78,⟨true,1,(eInt).f l78⟩)]⟩:=by
 unfold Dp_Primitive_2 at h
 refine x_frk 0 [] oN h (fun h=>?_) (fun h=>?_)
 ·obtain rfl:=sj h
  exact x_end 6 [] [] oN oN 
 ·obtain⟨c16,h⟩:=chk_some h
  obtain⟨v17,y17,h⟩:=bm h
  obtain⟨v18,y18,h⟩:=bm h
  obtain⟨v19,y19,h⟩:=bm h
  obtain⟨v20,y20,h⟩:=bm h
  obtain⟨v21,y21,h⟩:=bm h
  refine x_frk 65 [(3,.app false (List.length (l78++[t16])) ((eInt).f (l78++[t16]))),(8,.unit),(1,.val (.sl true 1 v17.D.length ((eInt).f v17.D))),(0,.fix 50 (.sl false 1 v17.D.length ((eInt).f v17.D))),(1,.rows [(eInt).f zbh]),(0,.call [] [] (.tup [.sl false 1 v18.1.length ((eInt).f v18.1),.sl false 1 v18.2.length ((eInt).f v18.2)]) []),(7,.unit),(1,.val (bl v19.Neg)),(1,.call [] [] (.agg [bl v20.Neg,.sl true 1 v20.D.length ((eInt).f v20.D)]) []),(0,.call [] [(eInt).f v20.D] (.tup [iN v21.1,bl v21.2]) [])] (oC (len_row' (L:=l78) eInt) (oC (app_one (L:=l78) (M:=[t16]) eInt c16) (oC (app_new (L:=l78) (M:=[t16]) eInt) (oC (app_m (L:=l78) (M:=[t16]) eInt rfl) (oC (len_row' (L:=[t16]) eInt) (oC (Enc.noOwn eInt (fun _=>rfl) [t16]) (oC (inr y17) (oC (ld1 (eNum true) y17 1 rfl) (oC (congrArg (AV.sl false 1 v17.D.length) (Enc.share eInt eInt sInt v17.D)) (oC (Enc.share eInt eInt sInt zbh) (oC (Big.wkr (Tp_l1DivMag (Y:=Y) n v17.D zbh _ y18) (show WkV (.tup [.sl true 1 v18.1.length ((eInt).f v18.1),.sl true 1 v18.2.length ((eInt).f v18.2)]) (.tup [.sl false 1 v18.1.length ((eInt).f v18.1),.sl false 1 v18.2.length ((eInt).f v18.2)]) from .inr ⟨_,_,rfl,rfl,⟨wkShareU (L:=v18.1) eInt eInt sInt,wkShareU (L:=v18.2) eInt eInt sInt,trivial⟩⟩)) (oC (inr y19) (oC (ld1 (eNum true) y19 0 rfl) (oC (Tp_l1Num (Y:=Y) n v19.Neg v18.1 _ y20) (oC (Tp_Small (Y:=Y) n v20 _ y21) (oI (Enc.share eInt eInt sInt v20.D))))))))))))))))) h (fun h=>?_) (fun h=>?_)
  ·obtain rfl:=sj h
   exact x_end 12 [] [] oN oN 
  ·obtain⟨v22,y22,h⟩:=bm h
   exact x_to 5 [(1,.call [] [] (bl v22) [])] (oI (Tp_l1In (Y:=Y) v21.1 (-500) 500 _ y22)) (Tp_Primitive_3 n v21.1 (!v22) zac zad zae zar zbg zbh l37 (l78++[t16]) r h) 
def Dp_Primitive_1(n:Nat)(t16:Int)(t73:Bool)(zac zad zae zar:Int)(zbg:Bool)(zbh:List Int)(l37:List Num)(l40:List Int):Option (Pl×Int) :=
 frk t73 (some ((Pl.mk 0 0 0 0),2)) (chk (apB 8 (l40.length+1)) ((lget l37 1).bind fun v10=>(Dp_l1DivMag n v10.D zbh).bind fun v11=>(lget l37 1).bind fun v12=>(Dp_l1Num n v12.Neg v11.1).bind fun v13=>(Dp_Small n v13).bind fun v14=>frk (!v14.2) (some ((Pl.mk 0 0 0 0),2)) ((Dp_l1In v14.1 (-500) 500).bind fun v15=>Dp_Primitive_2 n v14.1 (!v15) zac zad zae zar zbg zbh l37 (l40++[t16]))))
theorem Tp_Primitive_1{Y}(n:Nat)(t16:Int)(t73:Bool)(zac zad zae zar:Int)(zbg:Bool)(zbh:List Int)(l37:List Num)(l40:List Int)(r:(Pl×Int))(h:Dp_Primitive_1 n t16 t73 zac zad zae zar zbg zbh l37 l40=some r):WT Y 139 [.code (cp [1,1,1,1,1,0,1,0,0,1,0,0,1,1,0,1] B139),.code (cp [1,1,1,1,1,0,1,0,0,1,0,0,1,1,1] B139),.blk 1,.code (cp [1,1,1,1,1,0,1,0,0,1,1] B139),.lp (cp [1,1,1,1,1,0,1,0] B139),.blk 0,.code (cp [1,1,1,1,1,1] B139)] (FT Tryz.f139 [] (.tup [.agg [iN r.1.A,iN r.1.B,iN r.1.C,iN r.1.D],iN r.2]) []) ⟨[(8,.ptr 8 0),(10,.msl 37 l37.length),(11,.ptr 11 0),(12,.msl 40 l40.length),(13,iN 0),(16,iN t16),(73,bl t73)],[(8,⟨true,0,[iN zac,iN zad,iN zae,iN zar]⟩),(11,⟨true,0,[bl zbg,.sl true 1 zbh.length ((eInt).f zbh)]⟩),(37,⟨true,2,(eNum true).f l37⟩),(40,⟨true,1,(eInt).f l40⟩)]⟩:=by
 unfold Dp_Primitive_1 at h
 refine x_frk 0 [] oN h (fun h=>?_) (fun h=>?_)
 ·obtain rfl:=sj h
  exact x_end 6 [] [] oN oN 
 ·obtain⟨c9,h⟩:=chk_some h
  obtain⟨v10,y10,h⟩:=bm h
  obtain⟨v11,y11,h⟩:=bm h
  obtain⟨v12,y12,h⟩:=bm h
  obtain⟨v13,y13,h⟩:=bm h
  obtain⟨v14,y14,h⟩:=bm h
  refine x_frk 65 [(3,.app false (List.length (l40++[t16])) ((eInt).f (l40++[t16]))),(8,.unit),(1,.val (.sl true 1 v10.D.length ((eInt).f v10.D))),(0,.fix 50 (.sl false 1 v10.D.length ((eInt).f v10.D))),(1,.rows [(eInt).f zbh]),(0,.call [] [] (.tup [.sl false 1 v11.1.length ((eInt).f v11.1),.sl false 1 v11.2.length ((eInt).f v11.2)]) []),(7,.unit),(1,.val (bl v12.Neg)),(1,.call [] [] (.agg [bl v13.Neg,.sl true 1 v13.D.length ((eInt).f v13.D)]) []),(0,.call [] [(eInt).f v13.D] (.tup [iN v14.1,bl v14.2]) [])] (oC (len_row' (L:=l40) eInt) (oC (app_one (L:=l40) (M:=[t16]) eInt c9) (oC (app_new (L:=l40) (M:=[t16]) eInt) (oC (app_m (L:=l40) (M:=[t16]) eInt rfl) (oC (len_row' (L:=[t16]) eInt) (oC (Enc.noOwn eInt (fun _=>rfl) [t16]) (oC (inr y10) (oC (ld1 (eNum true) y10 1 rfl) (oC (congrArg (AV.sl false 1 v10.D.length) (Enc.share eInt eInt sInt v10.D)) (oC (Enc.share eInt eInt sInt zbh) (oC (Big.wkr (Tp_l1DivMag (Y:=Y) n v10.D zbh _ y11) (show WkV (.tup [.sl true 1 v11.1.length ((eInt).f v11.1),.sl true 1 v11.2.length ((eInt).f v11.2)]) (.tup [.sl false 1 v11.1.length ((eInt).f v11.1),.sl false 1 v11.2.length ((eInt).f v11.2)]) from .inr ⟨_,_,rfl,rfl,⟨wkShareU (L:=v11.1) eInt eInt sInt,wkShareU (L:=v11.2) eInt eInt sInt,trivial⟩⟩)) (oC (inr y12) (oC (ld1 (eNum true) y12 0 rfl) (oC (Tp_l1Num (Y:=Y) n v12.Neg v11.1 _ y13) (oC (Tp_Small (Y:=Y) n v13 _ y14) (oI (Enc.share eInt eInt sInt v13.D))))))))))))))))) h (fun h=>?_) (fun h=>?_)
  ·obtain rfl:=sj h
   exact x_end 12 [] [] oN oN 
  ·obtain⟨v15,y15,h⟩:=bm h
   exact x_to 5 [(1,.call [] [] (bl v15) [])] (oI (Tp_l1In (Y:=Y) v14.1 (-500) 500 _ y15)) (Tp_Primitive_2 n v14.1 (!v15) zac zad zae zar zbg zbh l37 (l40++[t16]) r h) 
def Dp_Primitive_0(n:Nat)(t0 t1 t2 t3:Int)(t27:Bool)(zac zad zae zar:Int):Option (Pl×Int) :=
 frk t27 (some ((Pl.mk 0 0 0 0),1)) ((Dp_Of n t0).bind fun v0=>(Dp_Of n t1).bind fun v1=>(Dp_Of n t2).bind fun v2=>(Dp_Of n t3).bind fun v3=>(Dp_l3NumGcd n [v0,v1,v2,v3]).bind fun v4=>(Dp_l1DivMag n v0.D v4.D).bind fun v5=>(Dp_l1Num n v0.Neg v5.1).bind fun v6=>(Dp_Small n v6).bind fun v7=>frk (!v7.2) (some ((Pl.mk 0 0 0 0),2)) ((Dp_l1In v7.1 (-500) 500).bind fun v8=>Dp_Primitive_1 n v7.1 (!v8) zac zad zae zar v4.Neg v4.D [v0,v1,v2,v3] []))
theorem Tp_Primitive_0{Y}(n:Nat)(t0 t1 t2 t3:Int)(t27:Bool)(zac zad zae zar:Int)(r:(Pl×Int))(h:Dp_Primitive_0 n t0 t1 t2 t3 t27 zac zad zae zar=some r):WT Y 139 [.code (cp [1,0,1] B139),.code (cp [1,1] B139)] (FT Tryz.f139 [] (.tup [.agg [iN r.1.A,iN r.1.B,iN r.1.C,iN r.1.D],iN r.2]) []) ⟨[(0,iN t0),(1,iN t1),(2,iN t2),(3,iN t3),(8,.ptr 8 0),(27,bl t27)],[(8,⟨true,0,[iN zac,iN zad,iN zae,iN zar]⟩)]⟩:=by
 unfold Dp_Primitive_0 at h
 refine x_frk 0 [] oN h (fun h=>?_) (fun h=>?_)
 ·obtain rfl:=sj h
  exact x_end 6 [] [] oN oN 
 ·obtain⟨v0,y0,h⟩:=bm h
  obtain⟨v1,y1,h⟩:=bm h
  obtain⟨v2,y2,h⟩:=bm h
  obtain⟨v3,y3,h⟩:=bm h
  obtain⟨v4,y4,h⟩:=bm h
  obtain⟨v5,y5,h⟩:=bm h
  obtain⟨v6,y6,h⟩:=bm h
  obtain⟨v7,y7,h⟩:=bm h
  refine x_frk 81 [(1,.call [] [] (.agg [bl v0.Neg,.sl true 1 v0.D.length ((eInt).f v0.D)]) []),(1,.call [] [] (.agg [bl v1.Neg,.sl true 1 v1.D.length ((eInt).f v1.D)]) []),(1,.call [] [] (.agg [bl v2.Neg,.sl true 1 v2.D.length ((eInt).f v2.D)]) []),(1,.call [] [] (.agg [bl v3.Neg,.sl true 1 v3.D.length ((eInt).f v3.D)]) []),(3,.call [] [(eNum false).f [v0,v1,v2,v3]] (.agg [bl v4.Neg,.sl true 1 v4.D.length ((eInt).f v4.D)]) []),(11,.rows [(eInt).f v0.D]),(1,.rows [(eInt).f v4.D]),(0,.call [] [] (.tup [.sl false 1 v5.1.length ((eInt).f v5.1),.sl false 1 v5.2.length ((eInt).f v5.2)]) []),(11,.call [] [] (.agg [bl v6.Neg,.sl true 1 v6.D.length ((eInt).f v6.D)]) []),(0,.call [] [(eInt).f v6.D] (.tup [iN v7.1,bl v7.2]) [])] (oC (Tp_Of (Y:=Y) n t0 _ y0) (oC (Tp_Of (Y:=Y) n t1 _ y1) (oC (Tp_Of (Y:=Y) n t2 _ y2) (oC (Tp_Of (Y:=Y) n t3 _ y3) (oC (Tp_l3NumGcd (Y:=Y) n [v0,v1,v2,v3] _ y4) (oC (len_row (L:=[v0,v1,v2,v3]) (eNum true)) (oC (Enc.share (eNum true) (eNum false) (sNum true) [v0,v1,v2,v3]) (oC (show hasSh (.agg [bl v4.Neg,.sl true 1 v4.D.length ((eInt).f v4.D)])=false by simp[hasSh,hasShL,nSh,nShI,nShB,nShP,nShT,nShN,nShPs]) (oC (Enc.share eInt eInt sInt v0.D) (oC (Enc.share eInt eInt sInt v4.D) (oC (Big.wkr (Tp_l1DivMag (Y:=Y) n v0.D v4.D _ y5) (show WkV (.tup [.sl true 1 v5.1.length ((eInt).f v5.1),.sl true 1 v5.2.length ((eInt).f v5.2)]) (.tup [.sl false 1 v5.1.length ((eInt).f v5.1),.sl false 1 v5.2.length ((eInt).f v5.2)]) from .inr ⟨_,_,rfl,rfl,⟨wkShareU (L:=v5.1) eInt eInt sInt,wkShareU (L:=v5.2) eInt eInt sInt,trivial⟩⟩)) (oC (Tp_l1Num (Y:=Y) n v0.Neg v5.1 _ y6) (oC (Tp_Small (Y:=Y) n v6 _ y7) (oI (Enc.share eInt eInt sInt v6.D))))))))))))))) h (fun h=>?_) (fun h=>?_)
  ·obtain rfl:=sj h
   exact x_end 12 [] [] oN oN 
  ·obtain⟨v8,y8,h⟩:=bm h
   exact x_to 5 [(1,.call [] [] (bl v8) [])] (oI (Tp_l1In (Y:=Y) v7.1 (-500) 500 _ y8)) (Tp_Primitive_1 n v7.1 (!v8) zac zad zae zar v4.Neg v4.D [v0,v1,v2,v3] [] r h) 
def Dp_Primitive_5(n:Nat)(t0 t1 t2 t3 zac zad zae zar:Int):Option (Pl×Int) :=
 (Dp_Of n t0).bind fun v35=>(Dp_Of n t1).bind fun v36=>(Dp_Of n t2).bind fun v37=>(Dp_Of n t3).bind fun v38=>(Dp_l3NumGcd n [v35,v36,v37,v38]).bind fun v39=>(Dp_l1DivMag n v35.D v39.D).bind fun v40=>(Dp_l1Num n v35.Neg v40.1).bind fun v41=>(Dp_Small n v41).bind fun v42=>frk (!v42.2) (some ((Pl.mk 0 0 0 0),2)) ((Dp_l1In v42.1 (-500) 500).bind fun v43=>Dp_Primitive_1 n v42.1 (!v43) zac zad zae zar v39.Neg v39.D [v35,v36,v37,v38] [])
theorem Tp_Primitive_5{Y}(n:Nat)(t0 t1 t2 t3 zac zad zae zar:Int)(r:(Pl×Int))(h:Dp_Primitive_5 n t0 t1 t2 t3 zac zad zae zar=some r):WT Y 139 [.code (cp [1,1,0] B139),.code (cp [1,1,1] B139)] (FT Tryz.f139 [] (.tup [.agg [iN r.1.A,iN r.1.B,iN r.1.C,iN r.1.D],iN r.2]) []) ⟨[(0,iN t0),(1,iN t1),(2,iN t2),(3,iN t3),(8,.ptr 8 0)],[(8,⟨true,0,[iN zac,iN zad,iN zae,iN zar]⟩)]⟩:=by
 unfold Dp_Primitive_5 at h
 obtain⟨v35,y35,h⟩:=bm h
 obtain⟨v36,y36,h⟩:=bm h
 obtain⟨v37,y37,h⟩:=bm h
 obtain⟨v38,y38,h⟩:=bm h
 obtain⟨v39,y39,h⟩:=bm h
 obtain⟨v40,y40,h⟩:=bm h
 obtain⟨v41,y41,h⟩:=bm h
 obtain⟨v42,y42,h⟩:=bm h
 refine x_frk 79 [(1,.call [] [] (.agg [bl v35.Neg,.sl true 1 v35.D.length ((eInt).f v35.D)]) []),(1,.call [] [] (.agg [bl v36.Neg,.sl true 1 v36.D.length ((eInt).f v36.D)]) []),(1,.call [] [] (.agg [bl v37.Neg,.sl true 1 v37.D.length ((eInt).f v37.D)]) []),(1,.call [] [] (.agg [bl v38.Neg,.sl true 1 v38.D.length ((eInt).f v38.D)]) []),(3,.call [] [(eNum false).f [v35,v36,v37,v38]] (.agg [bl v39.Neg,.sl true 1 v39.D.length ((eInt).f v39.D)]) []),(11,.rows [(eInt).f v35.D]),(1,.rows [(eInt).f v39.D]),(0,.call [] [] (.tup [.sl false 1 v40.1.length ((eInt).f v40.1),.sl false 1 v40.2.length ((eInt).f v40.2)]) []),(11,.call [] [] (.agg [bl v41.Neg,.sl true 1 v41.D.length ((eInt).f v41.D)]) []),(0,.call [] [(eInt).f v41.D] (.tup [iN v42.1,bl v42.2]) [])] (oC (Tp_Of (Y:=Y) n t0 _ y35) (oC (Tp_Of (Y:=Y) n t1 _ y36) (oC (Tp_Of (Y:=Y) n t2 _ y37) (oC (Tp_Of (Y:=Y) n t3 _ y38) (oC (Tp_l3NumGcd (Y:=Y) n [v35,v36,v37,v38] _ y39) (oC (len_row (L:=[v35,v36,v37,v38]) (eNum true)) (oC (Enc.share (eNum true) (eNum false) (sNum true) [v35,v36,v37,v38]) (oC (show hasSh (.agg [bl v39.Neg,.sl true 1 v39.D.length ((eInt).f v39.D)])=false by simp[hasSh,hasShL,nSh,nShI,nShB,nShP,nShT,nShN,nShPs]) (oC (Enc.share eInt eInt sInt v35.D) (oC (Enc.share eInt eInt sInt v39.D) (oC (Big.wkr (Tp_l1DivMag (Y:=Y) n v35.D v39.D _ y40) (show WkV (.tup [.sl true 1 v40.1.length ((eInt).f v40.1),.sl true 1 v40.2.length ((eInt).f v40.2)]) (.tup [.sl false 1 v40.1.length ((eInt).f v40.1),.sl false 1 v40.2.length ((eInt).f v40.2)]) from .inr ⟨_,_,rfl,rfl,⟨wkShareU (L:=v40.1) eInt eInt sInt,wkShareU (L:=v40.2) eInt eInt sInt,trivial⟩⟩)) (oC (Tp_l1Num (Y:=Y) n v35.Neg v40.1 _ y41) (oC (Tp_Small (Y:=Y) n v41 _ y42) (oI (Enc.share eInt eInt sInt v41.D))))))))))))))) h (fun h=>?_) (fun h=>?_)
 ·obtain rfl:=sj h
  exact x_end 12 [] [] oN oN 
 ·obtain⟨v43,y43,h⟩:=bm h
  exact x_to 5 [(1,.call [] [] (bl v43) [])] (oI (Tp_l1In (Y:=Y) v42.1 (-500) 500 _ y43)) (Tp_Primitive_1 n v42.1 (!v43) zac zad zae zar v39.Neg v39.D [v35,v36,v37,v38] [] r h) 
def Dp_Primitive(n:Nat)(a0 a1 a2 a3:Int):Option (Pl×Int) :=
 frk (a0==0) (frk (a1==0) (Dp_Primitive_0 n a0 a1 a2 a3 (a2==0) 0 0 0 0) (Dp_Primitive_5 n a0 a1 a2 a3 0 0 0 0)) (Dp_Primitive_5 n a0 a1 a2 a3 0 0 0 0)
theorem Tp_Primitive{Y}(n:Nat)(a0 a1 a2 a3:Int)(r:(Pl×Int))(h:Dp_Primitive n a0 a1 a2 a3=some r):BT Y (.call 139 [iN a0,iN a1,iN a2,iN a3] (lk []) (.tup [.agg [iN r.1.A,iN r.1.B,iN r.1.C,iN r.1.D],iN r.2]) (lk [])):=by
 unfold Dp_Primitive at h
 refine x_call (fn:=Tryz.f139) (c:=B139) (bs0:=[]) Tryz.func139 (by kernel_rfl) (by kernel_rfl) ?_
 refine x_frk 11 [] oN h (fun h=>?_) (fun h=>?_)
 ·refine x_frk 4 [] oN h (fun h=>?_) (fun h=>?_)
  ·exact x_to 4 [] oN (Tp_Primitive_0 n a0 a1 a2 a3 (a2==0) 0 0 0 0 r h) 
  ·exact x_to 7 [] oN (Tp_Primitive_5 n a0 a1 a2 a3 0 0 0 0 r h) 
 ·exact x_to 11 [] oN (Tp_Primitive_5 n a0 a1 a2 a3 0 0 0 0 r h) 
def Dp_Shifted_0(n:Nat)(t13:Bool)(zg zh zi zj zl zm zn _zr _zs _zt _zu:Int):Option (Pl×Int) :=
 frk t13 (some ((Pl.mk 0 0 0 0),1)) ((Dp_Primitive n zg zh zi (w64 (zj-(w64 ((w64 ((w64 (zg*zl))+(w64 (zh*zm))))+(w64 (zi*zn))))))).bind fun v2=>some v2)
theorem Tp_Shifted_0{Y}(n:Nat)(t13:Bool)(zg zh zi zj zl zm zn zr zs zt zu:Int)(r:(Pl×Int))(h:Dp_Shifted_0 n t13 zg zh zi zj zl zm zn zr zs zt zu=some r):WT Y 191 [.code (cp [1,0,1] B191),.code (cp [1,1] B191)] (FT Tryz.f191 [] (.tup [.agg [iN r.1.A,iN r.1.B,iN r.1.C,iN r.1.D],iN r.2]) []) ⟨[(2,.ptr 2 0),(3,.ptr 3 0),(4,.ptr 4 0),(13,bl t13)],[(2,⟨true,0,[iN zg,iN zh,iN zi,iN zj]⟩),(3,⟨true,0,[iN zl,iN zm,iN zn]⟩),(4,⟨true,0,[iN zr,iN zs,iN zt,iN zu]⟩)]⟩:=by
 unfold Dp_Shifted_0 at h
 refine x_frk 0 [] oN h (fun h=>?_) (fun h=>?_)
 ·obtain rfl:=sj h
  exact x_end 6 [] [] oN oN 
 ·obtain⟨v2,y2,h⟩:=bm h
  obtain rfl:=sj h
  exact x_end 35 [(26,.call [] [] (.tup [.agg [iN v2.1.A,iN v2.1.B,iN v2.1.C,iN v2.1.D],iN v2.2]) [])] [] (oI (Tp_Primitive (Y:=Y) n zg zh zi (w64 (zj-(w64 ((w64 ((w64 (zg*zl))+(w64 (zh*zm))))+(w64 (zi*zn)))))) _ y2)) oN 
def Dp_Shifted(n:Nat)(a0:Pl)(a1:Pt):Option (Pl×Int) :=
 (Dp_PlaneOk n a0).bind fun v0=>frk (!v0) (some ((Pl.mk 0 0 0 0),1)) ((Dp_PtOk a1).bind fun v1=>Dp_Shifted_0 n (!v1) a0.A a0.B a0.C a0.D a1.X a1.Y a1.Z 0 0 0 0)
theorem Tp_Shifted{Y}(n:Nat)(a0:Pl)(a1:Pt)(r:(Pl×Int))(h:Dp_Shifted n a0 a1=some r):BT Y (.call 191 [.agg [iN a0.A,iN a0.B,iN a0.C,iN a0.D],.agg [iN a1.X,iN a1.Y,iN a1.Z]] (lk []) (.tup [.agg [iN r.1.A,iN r.1.B,iN r.1.C,iN r.1.D],iN r.2]) (lk [])):=by
 unfold Dp_Shifted at h
 refine x_call (fn:=Tryz.f191) (c:=B191) (bs0:=[]) Tryz.func191 (by kernel_rfl) (by kernel_rfl) ?_
 obtain⟨v0,y0,h⟩:=bm h
 refine x_frk 14 [(5,.call [] [] (bl v0) [])] (oI (Tp_PlaneOk (Y:=Y) n a0 _ y0)) h (fun h=>?_) (fun h=>?_)
 ·obtain rfl:=sj h
  exact x_end 12 [] [] oN oN 
 ·obtain⟨v1,y1,h⟩:=bm h
  exact x_to 5 [(1,.call [] [] (bl v1) [])] (oI (Tp_PtOk (Y:=Y) a1 _ y1)) (Tp_Shifted_0 n (!v1) a0.A a0.B a0.C a0.D a1.X a1.Y a1.Z 0 0 0 0 r h) 
def Dp_l16Shift_b(n:Nat)(self:(Sol×Pt)→Option (Sol×Bool))(a:(Sol×Pt)):Option (Sol×Bool) :=
 match a with
 | (a0,a1)=>(Dp_l8Leaf a0).bind fun v0=>frk v0 ((Dp_Leaf a0.inn).bind fun v1=>some (v1,true)) ((Dp_Shifted n a0.pl a1).bind fun v2=>(lget a0.kids 0).bind fun v3=>(self (v3,a1)).bind fun v4=>(lget a0.kids 1).bind fun v5=>(self (v5,a1)).bind fun v6=>(Dp_l8Nodeo1o2 v2.1 v4.1 v6.1).bind fun v7=>frk (v2.2==0) (frk v4.2 (some (v7,v6.2)) (some (v7,false))) (some (v7,false)))
def Dp_l16Shift(n:Nat)(a0:Sol)(a1:Pt):Option (Sol×Bool):=loopN (Dp_l16Shift_b n) n (a0,a1)
theorem Tp_l16Shift_b{Y}(n:Nat):∀(m:Nat) (a:(Sol×Pt)) (r:(Sol×Bool)),loopN (Dp_l16Shift_b n) m a=some r→∀(_:Unit),BT Y (.call 179 [eF a.1,.agg [iN a.2.X,iN a.2.Y,iN a.2.Z]] (lk []) (.tup [eS r.1,bl r.2]) (lk [])):=by
 refine loopN_ind (fun self hs a r h=>?_)
 have hself:∀(a:(Sol×Pt)) (r:(Sol×Bool)),self a=some r→BT Y (.call 179 [eF a.1,.agg [iN a.2.X,iN a.2.Y,iN a.2.Z]] (lk []) (.tup [eS r.1,bl r.2]) (lk [])):=fun a r h=>hs a r h ()
 intro _
 obtain⟨a0,a1⟩:=a
 unfold Dp_l16Shift_b at h
 refine x_call (fn:=Tryz.f179) (c:=B179) (bs0:=[]) Tryz.func179 (by kernel_rfl) (by kernel_rfl) ?_
 obtain⟨v0,y0,h⟩:=bm h
 refine x_frk 13 [(5,.call [] [] (bl v0) [])] (oI (Tp_l8Leaf (Y:=Y) a0 _ y0)) h (fun h=>?_) (fun h=>?_)
 ·obtain⟨v1,y1,h⟩:=bm h
  obtain rfl:=sj h
  exact x_end 8 [(2,.call [] [] (eS v1) [])] [] (oI (Tp_Leaf (Y:=Y) a0.inn _ y1)) oN 
 ·obtain⟨v2,y2,h⟩:=bm h
  obtain⟨v3,y3,h⟩:=bm h
  obtain⟨v4,y4,h⟩:=bm h
  obtain⟨v5,y5,h⟩:=bm h
  obtain⟨v6,y6,h⟩:=bm h
  obtain⟨v7,y7,h⟩:=bm h
  refine x_frk 53 [(3,.call [] [] (.tup [.agg [iN v2.1.A,iN v2.1.B,iN v2.1.C,iN v2.1.D],iN v2.2]) []),(8,.val (.cptr ((eSol false).c v3++(eSol false).f ((a0.kids).drop (Int.toNat 0+1))))),(2,.call [] [] (.tup [eS v4.1,bl v4.2]) []),(8,.val (.cptr ((eSol false).c v5++(eSol false).f ((a0.kids).drop (Int.toNat 1+1))))),(2,.call [] [] (.tup [eS v6.1,bl v6.2]) []),(9,.call [] [] (eS v7) [])] (oC (Tp_Shifted (Y:=Y) n a0.pl a1 _ y2) (oC (ix (eSol false) y3) (oC (hself (v3,a1) _ y4) (oC (ix (eSol false) y5) (oC (hself (v5,a1) _ y6) (oI (Tp_l8Nodeo1o2 (Y:=Y) v2.1 v4.1 v6.1 _ y7))))))) h (fun h=>?_) (fun h=>?_)
  ·refine x_frk 3 [] oN h (fun h=>?_) (fun h=>?_)
   ·obtain rfl:=sj h
    exact x_end 5 [] [] oN oN 
   ·obtain rfl:=sj h
    exact x_end 5 [] [] oN oN 
  ·obtain rfl:=sj h
   exact x_end 8 [] [] oN oN 
theorem Tp_l16Shift{Y}(n:Nat)(a0:Sol)(a1:Pt)(r:(Sol×Bool))(h:Dp_l16Shift n a0 a1=some r):BT Y (.call 179 [eF a0,.agg [iN a1.X,iN a1.Y,iN a1.Z]] (lk []) (.tup [eS r.1,bl r.2]) (lk [])):=Tp_l16Shift_b n n (a0,a1) r h ()
def Dp_ShiftSolid_0(n:Nat)(t15 zg:Bool)(zh zi zj zk:Int)(zq:List Sol)(zl zm zn:Int)(_zr:Bool)(_zs _zt _zu _zai:Int):Option (Sol×Int) :=
 frk t15 (some ((Sol.mk false (Pl.mk 0 0 0 0) []),1)) ((Dp_l16Shift n (Sol.mk zg (Pl.mk zh zi zj zk) zq) (Pt.mk zl zm zn)).bind fun v2=>frk (!v2.2) (some ((Sol.mk false (Pl.mk 0 0 0 0) []),3)) (some (v2.1,0)))
theorem Tp_ShiftSolid_0{Y}(n:Nat)(t15 zg:Bool)(zh zi zj zk:Int)(zq:List Sol)(zl zm zn:Int)(zr:Bool)(zs zt zu zai:Int)(r:(Sol×Int))(h:Dp_ShiftSolid_0 n t15 zg zh zi zj zk zq zl zm zn zr zs zt zu zai=some r):WT Y 152 [.code (cp [1,0,1] B152),.code (cp [1,1] B152)] (FT Tryz.f152 [] (.tup [eS r.1,iN r.2]) []) ⟨[(2,.ptr 2 0),(3,.ptr 3 0),(4,.ptr 4 0),(15,bl t15)],[(2,⟨true,0,[bl zg,iN zh,iN zi,iN zj,iN zk,.sl false 6 zq.length ((eSol false).f zq)]⟩),(3,⟨true,0,[iN zl,iN zm,iN zn]⟩),(4,⟨true,0,[bl zr,iN zs,iN zt,iN zu,iN zai,.nil]⟩)]⟩:=by
 unfold Dp_ShiftSolid_0 at h
 refine x_frk 0 [] oN h (fun h=>?_) (fun h=>?_)
 ·obtain rfl:=sj h
  exact x_end 6 [] [(true,6)] oN oN 
 ·obtain⟨v2,y2,h⟩:=bm h
  refine x_frk 19 [(2,.call [] [] (.tup [eS v2.1,bl v2.2]) [])] (oI (Tp_l16Shift (Y:=Y) n (Sol.mk zg (Pl.mk zh zi zj zk) zq) (Pt.mk zl zm zn) _ y2)) h (fun h=>?_) (fun h=>?_)
  ·obtain rfl:=sj h
   exact x_end 6 [] [(true,6)] oN oN 
  ·obtain rfl:=sj h
   exact x_end 7 [] [] oN oN 
def Dp_ShiftSolid(n:Nat)(a0:Sol)(a1:Pt):Option (Sol×Int) :=
 (Dp_SolidOk n a0).bind fun v0=>frk (!v0) (some ((Sol.mk false (Pl.mk 0 0 0 0) []),1)) ((Dp_PtOk a1).bind fun v1=>Dp_ShiftSolid_0 n (!v1) a0.inn a0.pl.A a0.pl.B a0.pl.C a0.pl.D a0.kids a1.X a1.Y a1.Z false 0 0 0 0)
theorem Tp_ShiftSolid{Y}(n:Nat)(a0:Sol)(a1:Pt)(r:(Sol×Int))(h:Dp_ShiftSolid n a0 a1=some r):BT Y (.call 152 [eF a0,.agg [iN a1.X,iN a1.Y,iN a1.Z]] (lk []) (.tup [eS r.1,iN r.2]) (lk [])):=by
 unfold Dp_ShiftSolid at h
 refine x_call (fn:=Tryz.f152) (c:=B152) (bs0:=[]) Tryz.func152 (by kernel_rfl) (by kernel_rfl) ?_
 obtain⟨v0,y0,h⟩:=bm h
 refine x_frk 14 [(5,.call [] [] (bl v0) [])] (oI (Tp_SolidOk (Y:=Y) n a0 _ y0)) h (fun h=>?_) (fun h=>?_)
 ·obtain rfl:=sj h
  exact x_end 12 [] [(true,6)] oN oN 
 ·obtain⟨v1,y1,h⟩:=bm h
  exact x_to 5 [(1,.call [] [] (bl v1) [])] (oI (Tp_PtOk (Y:=Y) a1 _ y1)) (Tp_ShiftSolid_0 n (!v1) a0.inn a0.pl.A a0.pl.B a0.pl.C a0.pl.D a0.kids a1.X a1.Y a1.Z false 0 0 0 0 r h) 
def Dp_Move_0(n:Nat)(a0:Dk8):Option (Dk8×Int) :=
 (Dp_l20Copy n a0).bind fun v1=>some (v1,1)
theorem Tp_Move_0{Y}(n:Nat)(a0:Dk8)(r:(Dk8×Int))(h:Dp_Move_0 n a0=some r):WT Y 119 [.code (cp [1,0,0,1,0,0] B119),.code (cp [1,0,0,1,0,1] B119),.blk 0,.code (cp [1,1] B119)] (FT Tryz.f119 [] (.tup [.agg (cT52o r.1),iN r.2]) []) ⟨[(4,.ptr 4 0),(8,.ptr 8 0)],[(4,⟨true,0,(cT52 a0)⟩),(8,⟨true,0,zD⟩)]⟩:=by
 unfold Dp_Move_0 at h
 obtain⟨v1,y1,h⟩:=bm h
 obtain rfl:=sj h
 exact x_end 6 [(1,.call [] [] (.agg (cT52o v1)) [])] [] (oI (Tp_l20Copy (Y:=Y) n a0 _ y1)) oN 
def Dp_Move_3(n:Nat)(t1:Int)(t51:Bool)(a0:Dk8)(zbi:Bool)(zbj zbk zbl zbm:Int)(zbn:List Sol):Option (Dk8×Int) :=
 frk t51 ((Dp_l20Copy n a0).bind fun v8=>some (v8,3)) ((Dp_l20Keeps n a0 t1 (Sol.mk zbi (Pl.mk zbj zbk zbl zbm) zbn)).bind fun v9=>some v9)
theorem Tp_Move_3{Y}(n:Nat)(t1:Int)(t51:Bool)(a0:Dk8)(zbi:Bool)(zbj zbk zbl zbm:Int)(zbn:List Sol)(r:(Dk8×Int))(h:Dp_Move_3 n t1 t51 a0 zbi zbj zbk zbl zbm zbn=some r):WT Y 119 [.code (cp [1,1,1,0,1] B119),.code (cp [1,1,1,1] B119)] (FT Tryz.f119 [] (.tup [.agg (cT52o r.1),iN r.2]) []) ⟨[(1,iN t1),(4,.ptr 4 0),(8,.ptr 8 0),(10,.ptr 10 0),(51,bl t51)],[(4,⟨true,0,(cT52 a0)⟩),(8,⟨true,0,zD⟩),(10,⟨true,0,[bl zbi,iN zbj,iN zbk,iN zbl,iN zbm,.sl true 6 zbn.length ((eSol true).f zbn)]⟩)]⟩:=by
 unfold Dp_Move_3 at h
 refine x_frk 0 [] oN h (fun h=>?_) (fun h=>?_)
 ·obtain⟨v8,y8,h⟩:=bm h
  obtain rfl:=sj h
  exact x_end 7 [(1,.call [] [] (.agg (cT52o v8)) [])] [] (oI (Tp_l20Copy (Y:=Y) n a0 _ y8)) oN 
 ·obtain⟨v9,y9,h⟩:=bm h
  obtain rfl:=sj h
  exact x_end 12 [(2,.rows [(eSol false).f zbn]),(0,.call [] [] (.tup [.agg (cT52o v9.1),iN v9.2]) [])] [] (oC (Enc.share (eSol true) (eSol false) (sSol true) zbn) (oI (Tp_l20Keeps (Y:=Y) n a0 t1 (Sol.mk zbi (Pl.mk zbj zbk zbl zbm) zbn) _ y9))) oN 
def Dp_Move_2(n:Nat)(t1 t2:Int)(t33:Bool)(a0:Dk8)(zz zaa zab:Int):Option (Dk8×Int) :=
 frk t33 ((Dp_l20Copy n a0).bind fun v6=>some (v6,2)) (frk (t2==0) ((Dp_ShiftSolid n a0.1.1 (Pt.mk zz zaa zab)).bind fun v7=>Dp_Move_3 n t1 (v7.2 != 0) a0 v7.1.inn v7.1.pl.A v7.1.pl.B v7.1.pl.C v7.1.pl.D v7.1.kids) (frk (t2==1) ((Dp_ShiftSolid n a0.1.2.1 (Pt.mk zz zaa zab)).bind fun v10=>Dp_Move_3 n t1 (v10.2 != 0) a0 v10.1.inn v10.1.pl.A v10.1.pl.B v10.1.pl.C v10.1.pl.D v10.1.kids) (frk (t2==2) ((Dp_ShiftSolid n a0.1.2.2.1 (Pt.mk zz zaa zab)).bind fun v11=>Dp_Move_3 n t1 (v11.2 != 0) a0 v11.1.inn v11.1.pl.A v11.1.pl.B v11.1.pl.C v11.1.pl.D v11.1.kids) (frk (t2==3) ((Dp_ShiftSolid n a0.1.2.2.2.1 (Pt.mk zz zaa zab)).bind fun v12=>Dp_Move_3 n t1 (v12.2 != 0) a0 v12.1.inn v12.1.pl.A v12.1.pl.B v12.1.pl.C v12.1.pl.D v12.1.kids) (frk (t2==4) ((Dp_ShiftSolid n a0.1.2.2.2.2.1 (Pt.mk zz zaa zab)).bind fun v13=>Dp_Move_3 n t1 (v13.2 != 0) a0 v13.1.inn v13.1.pl.A v13.1.pl.B v13.1.pl.C v13.1.pl.D v13.1.kids) (frk (t2==5) ((Dp_ShiftSolid n a0.1.2.2.2.2.2.1 (Pt.mk zz zaa zab)).bind fun v14=>Dp_Move_3 n t1 (v14.2 != 0) a0 v14.1.inn v14.1.pl.A v14.1.pl.B v14.1.pl.C v14.1.pl.D v14.1.kids) (frk (t2==6) ((Dp_ShiftSolid n a0.1.2.2.2.2.2.2.1 (Pt.mk zz zaa zab)).bind fun v15=>Dp_Move_3 n t1 (v15.2 != 0) a0 v15.1.inn v15.1.pl.A v15.1.pl.B v15.1.pl.C v15.1.pl.D v15.1.kids) (frk (t2==7) ((Dp_ShiftSolid n a0.1.2.2.2.2.2.2.2 (Pt.mk zz zaa zab)).bind fun v16=>Dp_Move_3 n t1 (v16.2 != 0) a0 v16.1.inn v16.1.pl.A v16.1.pl.B v16.1.pl.C v16.1.pl.D v16.1.kids) (none)))))))))
theorem Tp_Move_2{Y}(n:Nat)(t1 t2:Int)(t33:Bool)(a0:Dk8)(zz zaa zab:Int)(r:(Dk8×Int))(h:Dp_Move_2 n t1 t2 t33 a0 zz zaa zab=some r):WT Y 119 [.code (cp [1,0,0,1,1,1] B119),.blk 0,.code (cp [1,1] B119)] (FT Tryz.f119 [] (.tup [.agg (cT52o r.1),iN r.2]) []) ⟨[(1,iN t1),(2,iN t2),(4,.ptr 4 0),(7,.ptr 7 0),(8,.ptr 8 0),(33,bl t33)],[(4,⟨true,0,(cT52 a0)⟩),(7,⟨true,0,[iN zz,iN zaa,iN zab]⟩),(8,⟨true,0,zD⟩)]⟩:=by
 unfold Dp_Move_2 at h
 refine x_frk 0 [] oN h (fun h=>?_) (fun h=>?_)
 ·obtain⟨v6,y6,h⟩:=bm h
  obtain rfl:=sj h
  exact x_end 7 [(1,.call [] [] (.agg (cT52o v6)) [])] [] (oI (Tp_l20Copy (Y:=Y) n a0 _ y6)) oN 
 ·refine x_pt 6 [] oN (by kernel_rfl) ?_
  iterate 8
   rcases frk_eq h with ⟨hc,hk99⟩ | h
   ·subst hc
    replace h:=hk99
    obtain⟨v7,y7,h⟩:=bm h
    exact x_to 17 [(3,.call [] [] (.tup [eS v7.1,iN v7.2]) [])] (oI (Tp_ShiftSolid (Y:=Y) n _ (Pt.mk zz zaa zab) _ y7)) (Tp_Move_3 n t1 (v7.2 != 0) a0 v7.1.inn v7.1.pl.A v7.1.pl.B v7.1.pl.C v7.1.pl.D v7.1.kids r h) 
  exact absurd h (by simp)
def Dp_Move_1(n:Nat)(t1 t2:Int)(t12:Bool)(a0:Dk8)(zz zaa zab:Int):Option (Dk8×Int) :=
 frk t12 ((Dp_l20Copy n a0).bind fun v5=>some (v5,1)) (frk (t2==0) (Dp_Move_2 n t1 0 (!a0.2.1) a0 zz zaa zab) (frk (t2==1) (Dp_Move_2 n t1 1 (!a0.2.2.1) a0 zz zaa zab) (frk (t2==2) (Dp_Move_2 n t1 2 (!a0.2.2.2.1) a0 zz zaa zab) (frk (t2==3) (Dp_Move_2 n t1 3 (!a0.2.2.2.2.1) a0 zz zaa zab) (frk (t2==4) (Dp_Move_2 n t1 4 (!a0.2.2.2.2.2.1) a0 zz zaa zab) (frk (t2==5) (Dp_Move_2 n t1 5 (!a0.2.2.2.2.2.2.1) a0 zz zaa zab) (frk (t2==6) (Dp_Move_2 n t1 6 (!a0.2.2.2.2.2.2.2.1) a0 zz zaa zab) (frk (t2==7) (Dp_Move_2 n t1 7 (!a0.2.2.2.2.2.2.2.2) a0 zz zaa zab) (none)))))))))
theorem Tp_Move_1{Y}(n:Nat)(t1 t2:Int)(t12:Bool)(a0:Dk8)(zz zaa zab:Int)(r:(Dk8×Int))(h:Dp_Move_1 n t1 t2 t12 a0 zz zaa zab=some r):WT Y 119 [.code (cp [1,0,0,1] B119),.blk 0,.code (cp [1,1] B119)] (FT Tryz.f119 [] (.tup [.agg (cT52o r.1),iN r.2]) []) ⟨[(1,iN t1),(2,iN t2),(4,.ptr 4 0),(7,.ptr 7 0),(8,.ptr 8 0),(12,bl t12)],[(4,⟨true,0,(cT52 a0)⟩),(7,⟨true,0,[iN zz,iN zaa,iN zab]⟩),(8,⟨true,0,zD⟩)]⟩:=by
 unfold Dp_Move_1 at h
 refine x_frk 0 [] oN h (fun h=>?_) (fun h=>?_)
 ·obtain⟨v5,y5,h⟩:=bm h
  obtain rfl:=sj h
  exact x_end 7 [(1,.call [] [] (.agg (cT52o v5)) [])] [] (oI (Tp_l20Copy (Y:=Y) n a0 _ y5)) oN 
 ·refine x_pt 4 [] oN (by kernel_rfl) ?_
  rcases frk_eq h with ⟨hc,hk100⟩ | h
  ·subst hc
   replace h:=hk100
   exact x_to 5 [] oN (Tp_Move_2 n t1 0 (!a0.2.1) a0 zz zaa zab r h) 
  rcases frk_eq h with ⟨hc,hk101⟩ | h
  ·subst hc
   replace h:=hk101
   exact x_to 5 [] oN (Tp_Move_2 n t1 1 (!a0.2.2.1) a0 zz zaa zab r h) 
  rcases frk_eq h with ⟨hc,hk102⟩ | h
  ·subst hc
   replace h:=hk102
   exact x_to 5 [] oN (Tp_Move_2 n t1 2 (!a0.2.2.2.1) a0 zz zaa zab r h) 
  rcases frk_eq h with ⟨hc,hk103⟩ | h
  ·subst hc
   replace h:=hk103
   exact x_to 5 [] oN (Tp_Move_2 n t1 3 (!a0.2.2.2.2.1) a0 zz zaa zab r h) 
  rcases frk_eq h with ⟨hc,hk104⟩ | h
  ·subst hc
   replace h:=hk104
   exact x_to 5 [] oN (Tp_Move_2 n t1 4 (!a0.2.2.2.2.2.1) a0 zz zaa zab r h) 
  rcases frk_eq h with ⟨hc,hk105⟩ | h
  ·subst hc
   replace h:=hk105
   exact x_to 5 [] oN (Tp_Move_2 n t1 5 (!a0.2.2.2.2.2.2.1) a0 zz zaa zab r h) 
  rcases frk_eq h with ⟨hc,hk106⟩ | h
  ·subst hc
   replace h:=hk106
   exact x_to 5 [] oN (Tp_Move_2 n t1 6 (!a0.2.2.2.2.2.2.2.1) a0 zz zaa zab r h) 
  rcases frk_eq h with ⟨hc,hk107⟩ | h
  ·subst hc
   replace h:=hk107
   exact x_to 5 [] oN (Tp_Move_2 n t1 7 (!a0.2.2.2.2.2.2.2.2) a0 zz zaa zab r h) 
  exact absurd h (by simp)
def Dp_Move(n:Nat)(a0:Dk8)(a1 a2:Int)(a3:Pt):Option (Dk8×Int) :=
 (Dp_DeskOk n a0).bind fun v0=>frk (!v0) (Dp_Move_0 n a0) ((Dp_l20At a1).bind fun v2=>frk (!v2) (Dp_Move_0 n a0) ((Dp_l20At a2).bind fun v3=>frk (!v3) (Dp_Move_0 n a0) ((Dp_PtOk a3).bind fun v4=>Dp_Move_1 n a1 a2 (!v4) a0 a3.X a3.Y a3.Z)))
theorem Tp_Move{Y}(n:Nat)(a0:Dk8)(a1 a2:Int)(a3:Pt)(r:(Dk8×Int))(h:Dp_Move n a0 a1 a2 a3=some r):BT Y (.call 119 [.agg (cT52 a0),iN a1,iN a2,.agg [iN a3.X,iN a3.Y,iN a3.Z]] (lk []) (.tup [.agg (cT52o r.1),iN r.2]) (lk [])):=by
 unfold Dp_Move at h
 refine x_call (fn:=Tryz.f119) (c:=B119) (bs0:=[]) Tryz.func119 (by kernel_rfl) (by kernel_rfl) ?_
 obtain⟨v0,y0,h⟩:=bm h
 refine x_frk 15 [(5,.call [] [] (bl v0) [])] (oI (Tp_DeskOk (Y:=Y) n a0 _ y0)) h (fun h=>?_) (fun h=>?_)
 ·exact x_to 18 [] oN (Tp_Move_0 n a0 r h) 
 ·obtain⟨v2,y2,h⟩:=bm h
  refine x_frk 5 [(1,.call [] [] (bl v2) [])] (oI (Tp_l20At (Y:=Y) a1 _ y2)) h (fun h=>?_) (fun h=>?_)
  ·exact x_to 13 [] oN (Tp_Move_0 n a0 r h) 
  ·obtain⟨v3,y3,h⟩:=bm h
   refine x_frk 5 [(1,.call [] [] (bl v3) [])] (oI (Tp_l20At (Y:=Y) a2 _ y3)) h (fun h=>?_) (fun h=>?_)
   ·exact x_to 8 [] oN (Tp_Move_0 n a0 r h) 
   ·obtain⟨v4,y4,h⟩:=bm h
    exact x_to 6 [(1,.call [] [] (bl v4) [])] (oI (Tp_PtOk (Y:=Y) a3 _ y4)) (Tp_Move_1 n a1 a2 (!v4) a0 a3.X a3.Y a3.Z r h) 
def Dp_l1Int(a0:((List Int)×Int×Int))(a1:(List Int)):Option (Int×((List Int)×Int×Int)) :=
 (Dp_l1Below a0 (a1.length:Int)).bind fun v0=>(lget a1 v0.1).bind fun v1=>some (v1,v0.2)
theorem Tp_l1Int{Y}(a0:((List Int)×Int×Int))(a1:(List Int))(r:(Int×((List Int)×Int×Int)))(h:Dp_l1Int a0 a1=some r):BT Y (.call 79 [.ptr 1000 0,.sl false 1 a1.length ((eInt).f a1)] (lk [(1000,⟨true,0,[.sl false 1 a0.1.length ((eU8).f a0.1),iN a0.2.1,iN a0.2.2]⟩)]) (iN r.1) (lk [(1000,⟨true,0,[.sl false 1 r.2.1.length ((eU8).f r.2.1),iN r.2.2.1,iN r.2.2.2]⟩)])):=by
 unfold Dp_l1Int at h
 refine x_call (fn:=Tryz.f79) (c:=B79) (bs0:=[(1000,⟨true,0,[.bad,.bad,.bad]⟩)]) Tryz.func79 (by kernel_rfl) (by kernel_rfl) ?_
 obtain⟨v0,y0,h⟩:=bm h
 obtain⟨v1,y1,h⟩:=bm h
 obtain rfl:=sj h
 exact x_end 15 [(5,.call [] [] (iN v0.1) [(1000,⟨true,0,[.sl false 1 v0.2.1.length ((eU8).f v0.2.1),iN v0.2.2.1,iN v0.2.2.2]⟩)]),(0,.val (.cptr (eInt.c v1++(eInt).f ((a1).drop (Int.toNat v0.1+1)))))] [] (oC (Tp_l1Below (Y:=Y) a0 (a1.length:Int) _ y0) (oI (ix eInt y1))) oN 
def Dp_l3Coef(a0:((List Int)×Int×Int)):Option (Int×((List Int)×Int×Int)) :=
 (Dp_l1Below a0 11).bind fun v0=>(Dp_l1Int v0.2 [0,0,1,(-1),2,(-3),w64 (v0.1-5)]).bind fun v1=>some v1
theorem Tp_l3Coef{Y}(a0:((List Int)×Int×Int))(r:(Int×((List Int)×Int×Int)))(h:Dp_l3Coef a0=some r):BT Y (.call 138 [.ptr 1000 0] (lk [(1000,⟨true,0,[.sl false 1 a0.1.length ((eU8).f a0.1),iN a0.2.1,iN a0.2.2]⟩)]) (iN r.1) (lk [(1000,⟨true,0,[.sl false 1 r.2.1.length ((eU8).f r.2.1),iN r.2.2.1,iN r.2.2.2]⟩)])):=by
 unfold Dp_l3Coef at h
 refine x_call (fn:=Tryz.f138) (c:=B138) (bs0:=[(1000,⟨true,0,[.bad,.bad,.bad]⟩)]) Tryz.func138 (by kernel_rfl) (by kernel_rfl) ?_
 obtain⟨v0,y0,h⟩:=bm h
 obtain⟨v1,y1,h⟩:=bm h
 obtain rfl:=sj h
 exact x_end 14 [(3,.call [] [] (iN v0.1) [(1000,⟨true,0,[.sl false 1 v0.2.1.length ((eU8).f v0.2.1),iN v0.2.2.1,iN v0.2.2.2]⟩)]),(2,.call [] [] (iN v1.1) [(1000,⟨true,0,[.sl false 1 v1.2.1.length ((eU8).f v1.2.1),iN v1.2.2.1,iN v1.2.2.2]⟩)])] [] (oC (Tp_l1Below (Y:=Y) a0 11 _ y0) (oC (Big.wka (show WkT [.ptr 1000 0,.sl true 1 7 ((eInt).f [0,0,1,(-1),2,(-3),w64 (v0.1-5)])] [.ptr 1000 0,.sl false 1 7 ((eInt).f [0,0,1,(-1),2,(-3),w64 (v0.1-5)])] from ⟨wkSameU _,wkShareU (L:=[0,0,1,(-1),2,(-3),w64 (v0.1-5)]) eInt eInt sInt,trivial⟩) (Tp_l1Int (Y:=Y) v0.2 [0,0,1,(-1),2,(-3),w64 (v0.1-5)] _ y1)) (oI (len_row (L:=[0,0,1,(-1),2,(-3),w64 (v0.1-5)]) eInt)))) oN 
def Dp_l1Once(a0:((List Int)×Int×Int))(a1:Int):Option (Bool×((List Int)×Int×Int)) :=
 (Dp_l1Below a0 a1).bind fun v0=>some (v0.1==0,v0.2)
theorem Tp_l1Once{Y}(a0:((List Int)×Int×Int))(a1:Int)(r:(Bool×((List Int)×Int×Int)))(h:Dp_l1Once a0 a1=some r):BT Y (.call 47 [.ptr 1000 0,iN a1] (lk [(1000,⟨true,0,[.sl false 1 a0.1.length ((eU8).f a0.1),iN a0.2.1,iN a0.2.2]⟩)]) (bl r.1) (lk [(1000,⟨true,0,[.sl false 1 r.2.1.length ((eU8).f r.2.1),iN r.2.2.1,iN r.2.2.2]⟩)])):=by
 unfold Dp_l1Once at h
 refine x_call (fn:=Tryz.f47) (c:=B47) (bs0:=[(1000,⟨true,0,[.bad,.bad,.bad]⟩)]) Tryz.func47 (by kernel_rfl) (by kernel_rfl) ?_
 obtain⟨v0,y0,h⟩:=bm h
 obtain rfl:=sj h
 exact x_end 12 [(3,.call [] [] (iN v0.1) [(1000,⟨true,0,[.sl false 1 v0.2.1.length ((eU8).f v0.2.1),iN v0.2.2.1,iN v0.2.2.2]⟩)])] [] (oI (Tp_l1Below (Y:=Y) a0 a1 _ y0)) oN 
def Dp_l3Draw_0(n:Nat)(t3 t4 t5 _zg _zh _zi _zj:Int)(zat:List Int)(zau zbo:Int):Option (Pl×((List Int)×Int×Int)) :=
 (Dp_l1Below (zat,zau,zbo) 25).bind fun v6=>(Dp_l1Int v6.2 [0,1,(-1),2,(-4),w64 (v6.1-12),500,(-500)]).bind fun v7=>(Dp_Primitive n t3 t4 t5 v7.1).bind fun v8=>frk (v8.2 != 0) (some ((Pl.mk 0 0 1 (-1)),v7.2)) (some (v8.1,v7.2))
theorem Tp_l3Draw_0{Y}(n:Nat)(t3 t4 t5 zg zh zi zj:Int)(zat:List Int)(zau zbo:Int)(r:(Pl×((List Int)×Int×Int)))(h:Dp_l3Draw_0 n t3 t4 t5 zg zh zi zj zat zau zbo=some r):WT Y 94 [.code (cp [1,1,1,1,1,0] B94),.code (cp [1,1,1,1,1,1] B94)] (FT Tryz.f94 [(1000,⟨true,0,[.bad,.bad,.bad]⟩)] (.agg [iN r.1.A,iN r.1.B,iN r.1.C,iN r.1.D]) [(1000,⟨true,0,[.sl false 1 r.2.1.length ((eU8).f r.2.1),iN r.2.2.1,iN r.2.2.2]⟩)]) ⟨[(0,.ptr 1000 0),(2,.ptr 2 0),(3,iN t3),(4,iN t4),(5,iN t5)],[(2,⟨true,0,[iN zg,iN zh,iN zi,iN zj]⟩),(1000,⟨true,0,[.sl false 1 zat.length ((eU8).f zat),iN zau,iN zbo]⟩)]⟩:=by
 unfold Dp_l3Draw_0 at h
 obtain⟨v6,y6,h⟩:=bm h
 obtain⟨v7,y7,h⟩:=bm h
 obtain⟨v8,y8,h⟩:=bm h
 refine x_frk 24 [(5,.call [] [] (iN v6.1) [(1000,⟨true,0,[.sl false 1 v6.2.1.length ((eU8).f v6.2.1),iN v6.2.2.1,iN v6.2.2.2]⟩)]),(2,.call [] [] (iN v7.1) [(1000,⟨true,0,[.sl false 1 v7.2.1.length ((eU8).f v7.2.1),iN v7.2.2.1,iN v7.2.2.2]⟩)]),(0,.call [] [] (.tup [.agg [iN v8.1.A,iN v8.1.B,iN v8.1.C,iN v8.1.D],iN v8.2]) [])] (oC (Tp_l1Below (Y:=Y) (zat,zau,zbo) 25 _ y6) (oC (Big.wka (show WkT [.ptr 1000 0,.sl true 1 8 ((eInt).f [0,1,(-1),2,(-4),w64 (v6.1-12),500,(-500)])] [.ptr 1000 0,.sl false 1 8 ((eInt).f [0,1,(-1),2,(-4),w64 (v6.1-12),500,(-500)])] from ⟨wkSameU _,wkShareU (L:=[0,1,(-1),2,(-4),w64 (v6.1-12),500,(-500)]) eInt eInt sInt,trivial⟩) (Tp_l1Int (Y:=Y) v6.2 [0,1,(-1),2,(-4),w64 (v6.1-12),500,(-500)] _ y7)) (oC (len_row (L:=[0,1,(-1),2,(-4),w64 (v6.1-12),500,(-500)]) eInt) (oI (Tp_Primitive (Y:=Y) n t3 t4 t5 v7.1 _ y8))))) h (fun h=>?_) (fun h=>?_)
 ·obtain rfl:=sj h
  exact x_end 5 [] [] oN oN 
 ·obtain rfl:=sj h
  exact x_end 6 [] [] oN oN 
def Dp_l3Draw(n:Nat)(a0:((List Int)×Int×Int)):Option (Pl×((List Int)×Int×Int)) :=
 (Dp_l3Coef a0).bind fun v0=>(Dp_l3Coef v0.2).bind fun v1=>(Dp_l3Coef v1.2).bind fun v2=>(Dp_l1Once v2.2 2).bind fun v3=>frk v3.1 ((Dp_l1Int v3.2 [1,(-1)]).bind fun v4=>(Dp_l1Once v4.2 2).bind fun v5=>frk v5.1 (Dp_l3Draw_0 n 0 v4.1 0 0 0 0 0 v5.2.1 v5.2.2.1 v5.2.2.2) ((Dp_l1Once v5.2 2).bind fun v9=>frk v9.1 (Dp_l3Draw_0 n 0 0 v4.1 0 0 0 0 v9.2.1 v9.2.2.1 v9.2.2.2) (Dp_l3Draw_0 n v4.1 0 0 0 0 0 0 v9.2.1 v9.2.2.1 v9.2.2.2))) (Dp_l3Draw_0 n v0.1 v1.1 v2.1 0 0 0 0 v3.2.1 v3.2.2.1 v3.2.2.2)
theorem Tp_l3Draw{Y}(n:Nat)(a0:((List Int)×Int×Int))(r:(Pl×((List Int)×Int×Int)))(h:Dp_l3Draw n a0=some r):BT Y (.call 94 [.ptr 1000 0] (lk [(1000,⟨true,0,[.sl false 1 a0.1.length ((eU8).f a0.1),iN a0.2.1,iN a0.2.2]⟩)]) (.agg [iN r.1.A,iN r.1.B,iN r.1.C,iN r.1.D]) (lk [(1000,⟨true,0,[.sl false 1 r.2.1.length ((eU8).f r.2.1),iN r.2.2.1,iN r.2.2.2]⟩)])):=by
 unfold Dp_l3Draw at h
 refine x_call (fn:=Tryz.f94) (c:=B94) (bs0:=[(1000,⟨true,0,[.bad,.bad,.bad]⟩)]) Tryz.func94 (by kernel_rfl) (by kernel_rfl) ?_
 obtain⟨v0,y0,h⟩:=bm h
 obtain⟨v1,y1,h⟩:=bm h
 obtain⟨v2,y2,h⟩:=bm h
 obtain⟨v3,y3,h⟩:=bm h
 refine x_frk 28 [(2,.call [] [] (iN v0.1) [(1000,⟨true,0,[.sl false 1 v0.2.1.length ((eU8).f v0.2.1),iN v0.2.2.1,iN v0.2.2.2]⟩)]),(2,.call [] [] (iN v1.1) [(1000,⟨true,0,[.sl false 1 v1.2.1.length ((eU8).f v1.2.1),iN v1.2.2.1,iN v1.2.2.2]⟩)]),(2,.call [] [] (iN v2.1) [(1000,⟨true,0,[.sl false 1 v2.2.1.length ((eU8).f v2.2.1),iN v2.2.2.1,iN v2.2.2.2]⟩)]),(2,.call [] [] (bl v3.1) [(1000,⟨true,0,[.sl false 1 v3.2.1.length ((eU8).f v3.2.1),iN v3.2.2.1,iN v3.2.2.2]⟩)])] (oC (Tp_l3Coef (Y:=Y) a0 _ y0) (oC (Tp_l3Coef (Y:=Y) v0.2 _ y1) (oC (Tp_l3Coef (Y:=Y) v1.2 _ y2) (oI (Tp_l1Once (Y:=Y) v2.2 2 _ y3))))) h (fun h=>?_) (fun h=>?_)
 ·obtain⟨v4,y4,h⟩:=bm h
  obtain⟨v5,y5,h⟩:=bm h
  refine x_frk 20 [(2,.call [] [] (iN v4.1) [(1000,⟨true,0,[.sl false 1 v4.2.1.length ((eU8).f v4.2.1),iN v4.2.2.1,iN v4.2.2.2]⟩)]),(4,.call [] [] (bl v5.1) [(1000,⟨true,0,[.sl false 1 v5.2.1.length ((eU8).f v5.2.1),iN v5.2.2.1,iN v5.2.2.2]⟩)])] (oC (Big.wka (show WkT [.ptr 1000 0,.sl true 1 2 ((eInt).f [1,(-1)])] [.ptr 1000 0,.sl false 1 2 ((eInt).f [1,(-1)])] from ⟨wkSameU _,wkShareU (L:=[1,(-1)]) eInt eInt sInt,trivial⟩) (Tp_l1Int (Y:=Y) v3.2 [1,(-1)] _ y4)) (oC (len_row (L:=[1,(-1)]) eInt) (oI (Tp_l1Once (Y:=Y) v4.2 2 _ y5)))) h (fun h=>?_) (fun h=>?_)
  ·exact x_to 9 [] oN (Tp_l3Draw_0 n 0 v4.1 0 0 0 0 0 v5.2.1 v5.2.2.1 v5.2.2.2 r h) 
  ·obtain⟨v9,y9,h⟩:=bm h
   refine x_frk 5 [(1,.call [] [] (bl v9.1) [(1000,⟨true,0,[.sl false 1 v9.2.1.length ((eU8).f v9.2.1),iN v9.2.2.1,iN v9.2.2.2]⟩)])] (oI (Tp_l1Once (Y:=Y) v5.2 2 _ y9)) h (fun h=>?_) (fun h=>?_)
   ·exact x_to 9 [] oN (Tp_l3Draw_0 n 0 0 v4.1 0 0 0 0 v9.2.1 v9.2.2.1 v9.2.2.2 r h) 
   ·exact x_to 2 [] oN (Tp_l3Draw_0 n v4.1 0 0 0 0 0 0 v9.2.1 v9.2.2.1 v9.2.2.2 r h) 
 ·exact x_to 2 [] oN (Tp_l3Draw_0 n v0.1 v1.1 v2.1 0 0 0 0 v3.2.1 v3.2.2.1 v3.2.2.2 r h) 
def Dp_l8Grow_1(_n:Nat)(self:(((List Int)×Int×Int)×(List Pl)×Int)→Option (Sol×((List Int)×Int×Int)))(rec0:(Int×List Int×Int×Int)→Option (Sol×((List Int)×Int×Int)))(t1:List Pl)(t2:Int)(_zam:Bool)(_zan _zao _zap _zaq t7:Int)(t30:Bool)(zac zad zae zar:Int)(zat:List Int)(zau zbo:Int):Option (Sol×((List Int)×Int×Int)) :=
 frk t30 ((Dp_l8Path t1 (Pl.mk zac zad zae zar)).bind fun v4=>(Dp_l1Below (zat,zau,zbo) 2).bind fun v5=>(self (v5.2,v4,w64 ((w64 (t2-1))-v5.1))).bind fun v6=>(Dp_l3Flip (Pl.mk zac zad zae zar)).bind fun v7=>(Dp_l8Path t1 v7).bind fun v8=>(Dp_l1Below v6.2 2).bind fun v9=>(self (v9.2,v8,w64 ((w64 (t2-1))-v9.1))).bind fun v10=>(Dp_l8Nodeo1o2 (Pl.mk zac zad zae zar) v6.1 v10.1).bind fun v11=>some (v11,v10.2)) (rec0 (w64 (t7+1),zat,zau,zbo))
theorem Tp_l8Grow_1{Y}(n:Nat)(self:(((List Int)×Int×Int)×(List Pl)×Int)→Option (Sol×((List Int)×Int×Int)))(rec0:(Int×List Int×Int×Int)→Option (Sol×((List Int)×Int×Int)))(t1:List Pl)(t2:Int)(zam:Bool)(zan zao zap zaq:Int)(hself:∀(a:(((List Int)×Int×Int)×(List Pl)×Int)) (r:(Sol×((List Int)×Int×Int))),self a=some r→BT Y (.call 45 [.ptr 1000 0,.sl false 4 a.2.1.length ((ePl).f a.2.1),iN a.2.2] (lk [(1000,⟨true,0,[.sl false 1 a.1.1.length ((eU8).f a.1.1),iN a.1.2.1,iN a.1.2.2]⟩)]) (eS r.1) (lk [(1000,⟨true,0,[.sl false 1 r.2.1.length ((eU8).f r.2.1),iN r.2.2.1,iN r.2.2.2]⟩)])))(hrec0:∀(a:(Int×List Int×Int×Int)) (r:(Sol×((List Int)×Int×Int))),rec0 a=some r→WT Y 45 [.code (cp [1,0,1,0] B45),.blk 0,.code (cp [1,1] B45)] (FT Tryz.f45 [(1000,⟨true,0,[.bad,.bad,.bad]⟩)] (eS r.1) [(1000,⟨true,0,[.sl false 1 r.2.1.length ((eU8).f r.2.1),iN r.2.2.1,iN r.2.2.2]⟩)]) ⟨[(0,.ptr 1000 0),(1,.sl false 4 t1.length ((ePl).f t1)),(2,iN t2),(6,.ptr 6 0),(7,iN a.1)],[(6,⟨true,0,[bl zam,iN zan,iN zao,iN zap,iN zaq,.nil]⟩),(1000,⟨true,0,[.sl false 1 a.2.1.length ((eU8).f a.2.1),iN a.2.2.1,iN a.2.2.2]⟩)]⟩)(t7:Int)(t30:Bool)(zac zad zae zar:Int)(zat:List Int)(zau zbo:Int)(r:(Sol×((List Int)×Int×Int)))(h:Dp_l8Grow_1 n self rec0 t1 t2 zam zan zao zap zaq t7 t30 zac zad zae zar zat zau zbo=some r):WT Y 45 [.code (cp [1,0,1,0,0,1,0,0,1,1] B45),.blk 1,.code (cp [1,0,1,0,0,1,1] B45),.lp (cp [1,0,1,0] B45),.blk 0,.code (cp [1,1] B45)] (FT Tryz.f45 [(1000,⟨true,0,[.bad,.bad,.bad]⟩)] (eS r.1) [(1000,⟨true,0,[.sl false 1 r.2.1.length ((eU8).f r.2.1),iN r.2.2.1,iN r.2.2.2]⟩)]) ⟨[(0,.ptr 1000 0),(1,.sl false 4 t1.length ((ePl).f t1)),(2,iN t2),(6,.ptr 6 0),(7,iN t7),(8,.ptr 8 0),(30,bl t30)],[(6,⟨true,0,[bl zam,iN zan,iN zao,iN zap,iN zaq,.nil]⟩),(8,⟨true,0,[iN zac,iN zad,iN zae,iN zar]⟩),(1000,⟨true,0,[.sl false 1 zat.length ((eU8).f zat),iN zau,iN zbo]⟩)]⟩:=by
 unfold Dp_l8Grow_1 at h
 refine x_frk 0 [] oN h (fun h=>?_) (fun h=>?_)
 ·obtain⟨v4,y4,h⟩:=bm h
  obtain⟨v5,y5,h⟩:=bm h
  obtain⟨v6,y6,h⟩:=bm h
  obtain⟨v7,y7,h⟩:=bm h
  obtain⟨v8,y8,h⟩:=bm h
  obtain⟨v9,y9,h⟩:=bm h
  obtain⟨v10,y10,h⟩:=bm h
  obtain⟨v11,y11,h⟩:=bm h
  obtain rfl:=sj h
  exact x_end 33 [(3,.call [] [] (.sl true 4 v4.length ((ePl).f v4)) []),(3,.call [] [] (iN v5.1) [(1000,⟨true,0,[.sl false 1 v5.2.1.length ((eU8).f v5.2.1),iN v5.2.2.1,iN v5.2.2.2]⟩)]),(1,.call [] [] (eS v6.1) [(1000,⟨true,0,[.sl false 1 v6.2.1.length ((eU8).f v6.2.1),iN v6.2.2.1,iN v6.2.2.2]⟩)]),(7,.call [] [] (.agg [iN v7.A,iN v7.B,iN v7.C,iN v7.D]) []),(0,.call [] [] (.sl true 4 v8.length ((ePl).f v8)) []),(3,.call [] [] (iN v9.1) [(1000,⟨true,0,[.sl false 1 v9.2.1.length ((eU8).f v9.2.1),iN v9.2.2.1,iN v9.2.2.2]⟩)]),(1,.call [] [] (eS v10.1) [(1000,⟨true,0,[.sl false 1 v10.2.1.length ((eU8).f v10.2.1),iN v10.2.2.1,iN v10.2.2.2]⟩)]),(0,.call [] [] (eS v11) [])] [] (oC (Tp_l8Path (Y:=Y) t1 (Pl.mk zac zad zae zar) _ y4) (oC (Tp_l1Below (Y:=Y) (zat,zau,zbo) 2 _ y5) (oC (Big.wka (show WkT [.ptr 1000 0,.sl true 4 v4.length ((ePl).f v4),iN (w64 ((w64 (t2-1))-v5.1))] [.ptr 1000 0,.sl false 4 v4.length ((ePl).f v4),iN (w64 ((w64 (t2-1))-v5.1))] from ⟨wkSameU _,wkShareU (L:=v4) ePl ePl sPl,wkSameU _,trivial⟩) (hself (v5.2,v4,w64 ((w64 (t2-1))-v5.1)) _ y6)) (oC (len_row (L:=v4) ePl) (oC (Tp_l3Flip (Y:=Y) (Pl.mk zac zad zae zar) _ y7) (oC (Tp_l8Path (Y:=Y) t1 v7 _ y8) (oC (Tp_l1Below (Y:=Y) v6.2 2 _ y9) (oC (Big.wka (show WkT [.ptr 1000 0,.sl true 4 v8.length ((ePl).f v8),iN (w64 ((w64 (t2-1))-v9.1))] [.ptr 1000 0,.sl false 4 v8.length ((ePl).f v8),iN (w64 ((w64 (t2-1))-v9.1))] from ⟨wkSameU _,wkShareU (L:=v8) ePl ePl sPl,wkSameU _,trivial⟩) (hself (v9.2,v8,w64 ((w64 (t2-1))-v9.1)) _ y10)) (oC (len_row (L:=v8) ePl) (oI (Tp_l8Nodeo1o2 (Y:=Y) (Pl.mk zac zad zae zar) v6.1 v10.1 _ y11))))))))))) oN 
 ·exact x_to 8 [] oN (hrec0 (w64 (t7+1),zat,zau,zbo) r h) 
def Dp_l8Grow_2(_n:Nat)(_self:(((List Int)×Int×Int)×(List Pl)×Int)→Option (Sol×((List Int)×Int×Int)))(_zam:Bool)(_zan _zao _zap _zaq:Int)(zat:List Int)(zau zbo:Int):Option (Sol×((List Int)×Int×Int)) :=
 (Dp_l1Once (zat,zau,zbo) 2).bind fun v12=>(Dp_Leaf v12.1).bind fun v13=>some (v13,v12.2)
theorem Tp_l8Grow_2{Y}(n:Nat)(self:(((List Int)×Int×Int)×(List Pl)×Int)→Option (Sol×((List Int)×Int×Int)))(_hself:∀(a:(((List Int)×Int×Int)×(List Pl)×Int)) (r:(Sol×((List Int)×Int×Int))),self a=some r→BT Y (.call 45 [.ptr 1000 0,.sl false 4 a.2.1.length ((ePl).f a.2.1),iN a.2.2] (lk [(1000,⟨true,0,[.sl false 1 a.1.1.length ((eU8).f a.1.1),iN a.1.2.1,iN a.1.2.2]⟩)]) (eS r.1) (lk [(1000,⟨true,0,[.sl false 1 r.2.1.length ((eU8).f r.2.1),iN r.2.2.1,iN r.2.2.2]⟩)])))(zam:Bool)(zan zao zap zaq:Int)(zat:List Int)(zau zbo:Int)(r:(Sol×((List Int)×Int×Int)))(h:Dp_l8Grow_2 n self zam zan zao zap zaq zat zau zbo=some r):WT Y 45 [.code (cp [1,1,0] B45),.code (cp [1,1,1] B45)] (FT Tryz.f45 [(1000,⟨true,0,[.bad,.bad,.bad]⟩)] (eS r.1) [(1000,⟨true,0,[.sl false 1 r.2.1.length ((eU8).f r.2.1),iN r.2.2.1,iN r.2.2.2]⟩)]) ⟨[(0,.ptr 1000 0),(6,.ptr 6 0)],[(6,⟨true,0,[bl zam,iN zan,iN zao,iN zap,iN zaq,.nil]⟩),(1000,⟨true,0,[.sl false 1 zat.length ((eU8).f zat),iN zau,iN zbo]⟩)]⟩:=by
 unfold Dp_l8Grow_2 at h
 obtain⟨v12,y12,h⟩:=bm h
 obtain⟨v13,y13,h⟩:=bm h
 obtain rfl:=sj h
 exact x_end 6 [(1,.call [] [] (bl v12.1) [(1000,⟨true,0,[.sl false 1 v12.2.1.length ((eU8).f v12.2.1),iN v12.2.2.1,iN v12.2.2.2]⟩)]),(0,.call [] [] (eS v13) [])] [] (oC (Tp_l1Once (Y:=Y) (zat,zau,zbo) 2 _ y12) (oI (Tp_Leaf (Y:=Y) v12.1 _ y13))) oN 
def Dp_l8Grow_0(n:Nat)(self:(((List Int)×Int×Int)×(List Pl)×Int)→Option (Sol×((List Int)×Int×Int)))(rec0:(Int×List Int×Int×Int)→Option (Sol×((List Int)×Int×Int)))(t1:List Pl)(t2:Int)(zam:Bool)(zan zao zap zaq t7:Int)(t15:Bool)(zat:List Int)(zau zbo:Int):Option (Sol×((List Int)×Int×Int)) :=
 frk t15 ((Dp_l3Draw n (zat,zau,zbo)).bind fun v0=>(Dp_l6With n t1 v0.1).bind fun v1=>frk (!v1) ((Dp_l3Flip v0.1).bind fun v2=>(Dp_l6With n t1 v2).bind fun v3=>Dp_l8Grow_1 n self rec0 t1 t2 zam zan zao zap zaq t7 (!v3) v0.1.A v0.1.B v0.1.C v0.1.D v0.2.1 v0.2.2.1 v0.2.2.2) (rec0 (w64 (t7+1),v0.2.1,v0.2.2.1,v0.2.2.2))) (Dp_l8Grow_2 n self zam zan zao zap zaq zat zau zbo)
theorem Tp_l8Grow_0{Y}(n:Nat)(self:(((List Int)×Int×Int)×(List Pl)×Int)→Option (Sol×((List Int)×Int×Int)))(rec0:(Int×List Int×Int×Int)→Option (Sol×((List Int)×Int×Int)))(t1:List Pl)(t2:Int)(zam:Bool)(zan zao zap zaq:Int)(hself:∀(a:(((List Int)×Int×Int)×(List Pl)×Int)) (r:(Sol×((List Int)×Int×Int))),self a=some r→BT Y (.call 45 [.ptr 1000 0,.sl false 4 a.2.1.length ((ePl).f a.2.1),iN a.2.2] (lk [(1000,⟨true,0,[.sl false 1 a.1.1.length ((eU8).f a.1.1),iN a.1.2.1,iN a.1.2.2]⟩)]) (eS r.1) (lk [(1000,⟨true,0,[.sl false 1 r.2.1.length ((eU8).f r.2.1),iN r.2.2.1,iN r.2.2.2]⟩)])))(hrec0:∀(a:(Int×List Int×Int×Int)) (r:(Sol×((List Int)×Int×Int))),rec0 a=some r→WT Y 45 [.code (cp [1,0,1,0] B45),.blk 0,.code (cp [1,1] B45)] (FT Tryz.f45 [(1000,⟨true,0,[.bad,.bad,.bad]⟩)] (eS r.1) [(1000,⟨true,0,[.sl false 1 r.2.1.length ((eU8).f r.2.1),iN r.2.2.1,iN r.2.2.2]⟩)]) ⟨[(0,.ptr 1000 0),(1,.sl false 4 t1.length ((ePl).f t1)),(2,iN t2),(6,.ptr 6 0),(7,iN a.1)],[(6,⟨true,0,[bl zam,iN zan,iN zao,iN zap,iN zaq,.nil]⟩),(1000,⟨true,0,[.sl false 1 a.2.1.length ((eU8).f a.2.1),iN a.2.2.1,iN a.2.2.2]⟩)]⟩)(t7:Int)(t15:Bool)(zat:List Int)(zau zbo:Int)(r:(Sol×((List Int)×Int×Int)))(h:Dp_l8Grow_0 n self rec0 t1 t2 zam zan zao zap zaq t7 t15 zat zau zbo=some r):WT Y 45 [.code (cp [1,0,1,0,0,0,1] B45),.code (cp [1,0,1,0,0,1] B45),.lp (cp [1,0,1,0] B45),.blk 0,.code (cp [1,1] B45)] (FT Tryz.f45 [(1000,⟨true,0,[.bad,.bad,.bad]⟩)] (eS r.1) [(1000,⟨true,0,[.sl false 1 r.2.1.length ((eU8).f r.2.1),iN r.2.2.1,iN r.2.2.2]⟩)]) ⟨[(0,.ptr 1000 0),(1,.sl false 4 t1.length ((ePl).f t1)),(2,iN t2),(6,.ptr 6 0),(7,iN t7),(15,bl t15)],[(6,⟨true,0,[bl zam,iN zan,iN zao,iN zap,iN zaq,.nil]⟩),(1000,⟨true,0,[.sl false 1 zat.length ((eU8).f zat),iN zau,iN zbo]⟩)]⟩:=by
 unfold Dp_l8Grow_0 at h
 refine x_frk 0 [] oN h (fun h=>?_) (fun h=>?_)
 ·obtain⟨v0,y0,h⟩:=bm h
  obtain⟨v1,y1,h⟩:=bm h
  refine x_frk 17 [(1,.call [] [] (.agg [iN v0.1.A,iN v0.1.B,iN v0.1.C,iN v0.1.D]) [(1000,⟨true,0,[.sl false 1 v0.2.1.length ((eU8).f v0.2.1),iN v0.2.2.1,iN v0.2.2.2]⟩)]),(4,.call [] [] (bl v1) [])] (oC (Tp_l3Draw (Y:=Y) n (zat,zau,zbo) _ y0) (oI (Tp_l6With (Y:=Y) n t1 v0.1 _ y1))) h (fun h=>?_) (fun h=>?_)
  ·obtain⟨v2,y2,h⟩:=bm h
   obtain⟨v3,y3,h⟩:=bm h
   exact x_to 7 [(2,.call [] [] (.agg [iN v2.A,iN v2.B,iN v2.C,iN v2.D]) []),(0,.call [] [] (bl v3) [])] (oC (Tp_l3Flip (Y:=Y) v0.1 _ y2) (oI (Tp_l6With (Y:=Y) n t1 v2 _ y3))) (Tp_l8Grow_1 n self rec0 t1 t2 zam zan zao zap zaq hself hrec0 t7 (!v3) v0.1.A v0.1.B v0.1.C v0.1.D v0.2.1 v0.2.2.1 v0.2.2.2 r h) 
  ·exact x_to 16 [] oN (hrec0 (w64 (t7+1),v0.2.1,v0.2.2.1,v0.2.2.2) r h) 
 ·exact x_to 2 [] oN (Tp_l8Grow_2 n self hself zam zan zao zap zaq zat zau zbo r h) 
def Dp_l8Grow_3(n:Nat)(self:(((List Int)×Int×Int)×(List Pl)×Int)→Option (Sol×((List Int)×Int×Int)))(t1:List Pl)(t2:Int)(zam:Bool)(zan zao zap zaq:Int)(rec0:(Int×List Int×Int×Int)→Option (Sol×((List Int)×Int×Int)))(a:(Int×List Int×Int×Int)):Option (Sol×((List Int)×Int×Int)) :=
 match a with
 | (t7,zat,zau,zbo)=>frk (decide (t7<3)) (Dp_l8Grow_0 n self rec0 t1 t2 zam zan zao zap zaq t7 (decide (t2>0)) zat zau zbo) (Dp_l8Grow_2 n self zam zan zao zap zaq zat zau zbo)
theorem Tp_l8Grow_3{Y}(n:Nat)(self:(((List Int)×Int×Int)×(List Pl)×Int)→Option (Sol×((List Int)×Int×Int)))(hself:∀(a:(((List Int)×Int×Int)×(List Pl)×Int)) (r:(Sol×((List Int)×Int×Int))),self a=some r→BT Y (.call 45 [.ptr 1000 0,.sl false 4 a.2.1.length ((ePl).f a.2.1),iN a.2.2] (lk [(1000,⟨true,0,[.sl false 1 a.1.1.length ((eU8).f a.1.1),iN a.1.2.1,iN a.1.2.2]⟩)]) (eS r.1) (lk [(1000,⟨true,0,[.sl false 1 r.2.1.length ((eU8).f r.2.1),iN r.2.2.1,iN r.2.2.2]⟩)])))(t1:List Pl)(t2:Int)(zam:Bool)(zan zao zap zaq:Int):∀(m:Nat) (a:(Int×List Int×Int×Int)) (r:(Sol×((List Int)×Int×Int))),loopN (Dp_l8Grow_3 n self t1 t2 zam zan zao zap zaq) m a=some r→WT Y 45 [.code (cp [1,0,1,0] B45),.blk 0,.code (cp [1,1] B45)] (FT Tryz.f45 [(1000,⟨true,0,[.bad,.bad,.bad]⟩)] (eS r.1) [(1000,⟨true,0,[.sl false 1 r.2.1.length ((eU8).f r.2.1),iN r.2.2.1,iN r.2.2.2]⟩)]) ⟨[(0,.ptr 1000 0),(1,.sl false 4 t1.length ((ePl).f t1)),(2,iN t2),(6,.ptr 6 0),(7,iN a.1)],[(6,⟨true,0,[bl zam,iN zan,iN zao,iN zap,iN zaq,.nil]⟩),(1000,⟨true,0,[.sl false 1 a.2.1.length ((eU8).f a.2.1),iN a.2.2.1,iN a.2.2.2]⟩)]⟩:=by
 refine loopN_ind (fun rec0 hrec0 a r h=>?_)
 obtain⟨t7,zat,zau,zbo⟩:=a
 unfold Dp_l8Grow_3 at h
 refine x_frk 7 [] oN h (fun h=>?_) (fun h=>?_)
 ·exact x_to 4 [] oN (Tp_l8Grow_0 n self rec0 t1 t2 zam zan zao zap zaq hself hrec0 t7 (decide (t2>0)) zat zau zbo r h) 
 ·exact x_to 7 [] oN (Tp_l8Grow_2 n self hself zam zan zao zap zaq zat zau zbo r h) 
def Dp_l8Grow_b(n:Nat)(self:(((List Int)×Int×Int)×(List Pl)×Int)→Option (Sol×((List Int)×Int×Int)))(a:(((List Int)×Int×Int)×(List Pl)×Int)):Option (Sol×((List Int)×Int×Int)) :=
 match a with
 | (a0,a1,a2)=>loopN (Dp_l8Grow_3 n self a1 a2 false 0 0 0 0) n (0,a0.1,a0.2.1,a0.2.2)
def Dp_l8Grow(n:Nat)(a0:((List Int)×Int×Int))(a1:(List Pl))(a2:Int):Option (Sol×((List Int)×Int×Int)):=loopN (Dp_l8Grow_b n) n (a0,a1,a2)
theorem Tp_l8Grow_b{Y}(n:Nat):∀(m:Nat) (a:(((List Int)×Int×Int)×(List Pl)×Int)) (r:(Sol×((List Int)×Int×Int))),loopN (Dp_l8Grow_b n) m a=some r→∀(_:Unit),BT Y (.call 45 [.ptr 1000 0,.sl false 4 a.2.1.length ((ePl).f a.2.1),iN a.2.2] (lk [(1000,⟨true,0,[.sl false 1 a.1.1.length ((eU8).f a.1.1),iN a.1.2.1,iN a.1.2.2]⟩)]) (eS r.1) (lk [(1000,⟨true,0,[.sl false 1 r.2.1.length ((eU8).f r.2.1),iN r.2.2.1,iN r.2.2.2]⟩)])):=by
 refine loopN_ind (fun self hs a r h=>?_)
 have hself:∀(a:(((List Int)×Int×Int)×(List Pl)×Int)) (r:(Sol×((List Int)×Int×Int))),self a=some r→BT Y (.call 45 [.ptr 1000 0,.sl false 4 a.2.1.length ((ePl).f a.2.1),iN a.2.2] (lk [(1000,⟨true,0,[.sl false 1 a.1.1.length ((eU8).f a.1.1),iN a.1.2.1,iN a.1.2.2]⟩)]) (eS r.1) (lk [(1000,⟨true,0,[.sl false 1 r.2.1.length ((eU8).f r.2.1),iN r.2.2.1,iN r.2.2.2]⟩)])):=fun a r h=>hs a r h ()
 intro _
 obtain⟨a0,a1,a2⟩:=a
 unfold Dp_l8Grow_b at h
 refine x_call (fn:=Tryz.f45) (c:=B45) (bs0:=[(1000,⟨true,0,[.bad,.bad,.bad]⟩)]) Tryz.func45 (by kernel_rfl) (by kernel_rfl) ?_
 exact x_to 10 [] oN (Tp_l8Grow_3 n self hself a1 a2 false 0 0 0 0 n (0,a0.1,a0.2.1,a0.2.2) r h) 
theorem Tp_l8Grow{Y}(n:Nat)(a0:((List Int)×Int×Int))(a1:(List Pl))(a2:Int)(r:(Sol×((List Int)×Int×Int)))(h:Dp_l8Grow n a0 a1 a2=some r):BT Y (.call 45 [.ptr 1000 0,.sl false 4 a1.length ((ePl).f a1),iN a2] (lk [(1000,⟨true,0,[.sl false 1 a0.1.length ((eU8).f a0.1),iN a0.2.1,iN a0.2.2]⟩)]) (eS r.1) (lk [(1000,⟨true,0,[.sl false 1 r.2.1.length ((eU8).f r.2.1),iN r.2.2.1,iN r.2.2.2]⟩)])):=Tp_l8Grow_b n n (a0,a1,a2) r h ()
def Dp_Keep_0(n:Nat)(a0:Dk8):Option (Dk8×Int) :=
 (Dp_l20Copy n a0).bind fun v1=>some (v1,1)
theorem Tp_Keep_0{Y}(n:Nat)(a0:Dk8)(r:(Dk8×Int))(h:Dp_Keep_0 n a0=some r):WT Y 23 [.code (cp [1,0,1,0,0] B23),.code (cp [1,0,1,0,1] B23),.code (cp [1,1] B23)] (FT Tryz.f23 [] (.tup [.agg (cT52o r.1),iN r.2]) []) ⟨[(3,.ptr 3 0),(6,.ptr 6 0)],[(3,⟨true,0,(cT52 a0)⟩),(6,⟨true,0,zD⟩)]⟩:=by
 unfold Dp_Keep_0 at h
 obtain⟨v1,y1,h⟩:=bm h
 obtain rfl:=sj h
 exact x_end 6 [(1,.call [] [] (.agg (cT52o v1)) [])] [] (oI (Tp_l20Copy (Y:=Y) n a0 _ y1)) oN 
def Dp_Keep_1(n:Nat)(t1:Int)(t20:Bool)(a0:Dk8)(zv:Bool)(zw zx zy zak:Int)(zal:List Sol):Option (Dk8×Int) :=
 frk t20 ((Dp_l20Copy n a0).bind fun v4=>some (v4,1)) ((Dp_l20Keeps n a0 t1 (Sol.mk zv (Pl.mk zw zx zy zak) zal)).bind fun v5=>some v5)
theorem Tp_Keep_1{Y}(n:Nat)(t1:Int)(t20:Bool)(a0:Dk8)(zv:Bool)(zw zx zy zak:Int)(zal:List Sol)(r:(Dk8×Int))(h:Dp_Keep_1 n t1 t20 a0 zv zw zx zy zak zal=some r):WT Y 23 [.code (cp [1,0,1] B23),.code (cp [1,1] B23)] (FT Tryz.f23 [] (.tup [.agg (cT52o r.1),iN r.2]) []) ⟨[(1,iN t1),(3,.ptr 3 0),(5,.ptr 5 0),(6,.ptr 6 0),(20,bl t20)],[(3,⟨true,0,(cT52 a0)⟩),(5,⟨true,0,[bl zv,iN zw,iN zx,iN zy,iN zak,.sl false 6 zal.length ((eSol false).f zal)]⟩),(6,⟨true,0,zD⟩)]⟩:=by
 unfold Dp_Keep_1 at h
 refine x_frk 0 [] oN h (fun h=>?_) (fun h=>?_)
 ·obtain⟨v4,y4,h⟩:=bm h
  obtain rfl:=sj h
  exact x_end 7 [(1,.call [] [] (.agg (cT52o v4)) [])] [] (oI (Tp_l20Copy (Y:=Y) n a0 _ y4)) oN 
 ·obtain⟨v5,y5,h⟩:=bm h
  obtain rfl:=sj h
  exact x_end 12 [(3,.call [] [] (.tup [.agg (cT52o v5.1),iN v5.2]) [])] [] (oI (Tp_l20Keeps (Y:=Y) n a0 t1 (Sol.mk zv (Pl.mk zw zx zy zak) zal) _ y5)) oN 
def Dp_Keep(n:Nat)(a0:Dk8)(a1:Int)(a2:Sol):Option (Dk8×Int) :=
 (Dp_DeskOk n a0).bind fun v0=>frk (!v0) (Dp_Keep_0 n a0) ((Dp_l20At a1).bind fun v2=>frk (!v2) (Dp_Keep_0 n a0) ((Dp_SolidOk n a2).bind fun v3=>Dp_Keep_1 n a1 (!v3) a0 a2.inn a2.pl.A a2.pl.B a2.pl.C a2.pl.D a2.kids))
theorem Tp_Keep{Y}(n:Nat)(a0:Dk8)(a1:Int)(a2:Sol)(r:(Dk8×Int))(h:Dp_Keep n a0 a1 a2=some r):BT Y (.call 23 [.agg (cT52 a0),iN a1,eF a2] (lk []) (.tup [.agg (cT52o r.1),iN r.2]) (lk [])):=by
 unfold Dp_Keep at h
 refine x_call (fn:=Tryz.f23) (c:=B23) (bs0:=[]) Tryz.func23 (by kernel_rfl) (by kernel_rfl) ?_
 obtain⟨v0,y0,h⟩:=bm h
 refine x_frk 14 [(5,.call [] [] (bl v0) [])] (oI (Tp_DeskOk (Y:=Y) n a0 _ y0)) h (fun h=>?_) (fun h=>?_)
 ·exact x_to 12 [] oN (Tp_Keep_0 n a0 r h) 
 ·obtain⟨v2,y2,h⟩:=bm h
  refine x_frk 5 [(1,.call [] [] (bl v2) [])] (oI (Tp_l20At (Y:=Y) a1 _ y2)) h (fun h=>?_) (fun h=>?_)
  ·exact x_to 7 [] oN (Tp_Keep_0 n a0 r h) 
  ·obtain⟨v3,y3,h⟩:=bm h
   exact x_to 5 [(1,.call [] [] (bl v3) [])] (oI (Tp_SolidOk (Y:=Y) n a2 _ y3)) (Tp_Keep_1 n a1 (!v3) a0 a2.inn a2.pl.A a2.pl.B a2.pl.C a2.pl.D a2.kids r h) 
def Dp_l20Draw_0(n:Nat)(_zr:Bool)(_zs _zt _zu _zai:Int)(_zbp:Bool)(_zbq _zbr _zbs _zbt:Int)(_zbu:Bool)(_zbv _zbw _zbx _zby:Int)(_zbz:Bool)(_zca _zcb _zcc _zcd:Int)(_zce:Bool)(_zcf _zcg _zch _zci:Int)(_zcj:Bool)(_zck _zcl _zcm _zcn:Int)(_zco:Bool)(_zcp _zcq _zcr _zcs:Int)(_zct:Bool)(_zcu _zcv _zcw _zcx:Int)(_zcy _zcz _zda _zdb _zdc _zdd _zde _zdf:Bool)(rec0:(Int×Dk8×List Int×Int×Int)→Option (Dk8×((List Int)×Int×Int)))(a:(Int×Dk8×List Int×Int×Int)):Option (Dk8×((List Int)×Int×Int)) :=
 match a with
 | (t6,w5,zat,zau,zbo)=>frk (decide (t6>0)) ((Dp_l1Below (zat,zau,zbo) 4).bind fun v1=>(Dp_l1Below v1.2 5).bind fun v2=>frk (v2.1==0) ((Dp_Drop n w5 v1.1).bind fun v3=>rec0 (w64 (t6-1),v3.1,v2.2.1,v2.2.2.1,v2.2.2.2)) (frk (v2.1==1) ((Dp_l1Below v2.2 4).bind fun v4=>(Dp_l1Below v4.2 4).bind fun v5=>(Dp_l1Below v5.2 4).bind fun v6=>(Dp_Mix n w5 v1.1 v4.1 v5.1 (w64 (1+v6.1))).bind fun v7=>rec0 (w64 (t6-1),v7.1,v6.2.1,v6.2.2.1,v6.2.2.2)) (frk (v2.1==2) ((Dp_l1Below v2.2 4).bind fun v8=>(Dp_l1Below v8.2 5).bind fun v9=>(Dp_Move n w5 v1.1 v8.1 (Pt.mk (w64 (v9.1-2)) 0 0)).bind fun v10=>rec0 (w64 (t6-1),v10.1,v9.2.1,v9.2.2.1,v9.2.2.2)) ((Dp_l8Grow n v2.2 [] 2).bind fun v11=>(Dp_Keep n w5 v1.1 v11.1).bind fun v12=>rec0 (w64 (t6-1),v12.1,v11.2.1,v11.2.2.1,v11.2.2.2))))) (some (w5,(zat,zau,zbo)))
theorem Tp_l20Draw_0{Y}(n:Nat)(zr:Bool)(zs zt zu zai:Int)(zbp:Bool)(zbq zbr zbs zbt:Int)(zbu:Bool)(zbv zbw zbx zby:Int)(zbz:Bool)(zca zcb zcc zcd:Int)(zce:Bool)(zcf zcg zch zci:Int)(zcj:Bool)(zck zcl zcm zcn:Int)(zco:Bool)(zcp zcq zcr zcs:Int)(zct:Bool)(zcu zcv zcw zcx:Int)(zcy zcz zda zdb zdc zdd zde zdf:Bool):∀(m:Nat) (a:(Int×Dk8×List Int×Int×Int)) (r:(Dk8×((List Int)×Int×Int))),loopN (Dp_l20Draw_0 n zr zs zt zu zai zbp zbq zbr zbs zbt zbu zbv zbw zbx zby zbz zca zcb zcc zcd zce zcf zcg zch zci zcj zck zcl zcm zcn zco zcp zcq zcr zcs zct zcu zcv zcw zcx zcy zcz zda zdb zdc zdd zde zdf) m a=some r→WT Y 60 [.code (cp [1,1,0,1,0] B60),.blk 0,.code (cp [1,1,1] B60)] (FT Tryz.f60 [(1000,⟨true,0,[.bad,.bad,.bad]⟩)] (.agg (cT52o r.1)) [(1000,⟨true,0,[.sl false 1 r.2.1.length ((eU8).f r.2.1),iN r.2.2.1,iN r.2.2.2]⟩)]) ⟨[(0,.ptr 1000 0),(4,.ptr 4 0),(5,.ptr 5 0),(6,iN a.1)],[(4,⟨true,0,[bl zr,iN zs,iN zt,iN zu,iN zai,.nil,bl zbp,iN zbq,iN zbr,iN zbs,iN zbt,.nil,bl zbu,iN zbv,iN zbw,iN zbx,iN zby,.nil,bl zbz,iN zca,iN zcb,iN zcc,iN zcd,.nil,bl zce,iN zcf,iN zcg,iN zch,iN zci,.nil,bl zcj,iN zck,iN zcl,iN zcm,iN zcn,.nil,bl zco,iN zcp,iN zcq,iN zcr,iN zcs,.nil,bl zct,iN zcu,iN zcv,iN zcw,iN zcx,.nil,bl zcy,bl zcz,bl zda,bl zdb,bl zdc,bl zdd,bl zde,bl zdf]⟩),(5,⟨true,0,[bl a.2.1.1.1.inn,iN a.2.1.1.1.pl.A,iN a.2.1.1.1.pl.B,iN a.2.1.1.1.pl.C,iN a.2.1.1.1.pl.D,.sl true 6 a.2.1.1.1.kids.length ((eSol true).f a.2.1.1.1.kids),bl a.2.1.1.2.1.inn,iN a.2.1.1.2.1.pl.A,iN a.2.1.1.2.1.pl.B,iN a.2.1.1.2.1.pl.C,iN a.2.1.1.2.1.pl.D,.sl true 6 a.2.1.1.2.1.kids.length ((eSol true).f a.2.1.1.2.1.kids),bl a.2.1.1.2.2.1.inn,iN a.2.1.1.2.2.1.pl.A,iN a.2.1.1.2.2.1.pl.B,iN a.2.1.1.2.2.1.pl.C,iN a.2.1.1.2.2.1.pl.D,.sl true 6 a.2.1.1.2.2.1.kids.length ((eSol true).f a.2.1.1.2.2.1.kids),bl a.2.1.1.2.2.2.1.inn,iN a.2.1.1.2.2.2.1.pl.A,iN a.2.1.1.2.2.2.1.pl.B,iN a.2.1.1.2.2.2.1.pl.C,iN a.2.1.1.2.2.2.1.pl.D,.sl true 6 a.2.1.1.2.2.2.1.kids.length ((eSol true).f a.2.1.1.2.2.2.1.kids),bl a.2.1.1.2.2.2.2.1.inn,iN a.2.1.1.2.2.2.2.1.pl.A,iN a.2.1.1.2.2.2.2.1.pl.B,iN a.2.1.1.2.2.2.2.1.pl.C,iN a.2.1.1.2.2.2.2.1.pl.D,.sl true 6 a.2.1.1.2.2.2.2.1.kids.length ((eSol true).f a.2.1.1.2.2.2.2.1.kids),bl a.2.1.1.2.2.2.2.2.1.inn,iN a.2.1.1.2.2.2.2.2.1.pl.A,iN a.2.1.1.2.2.2.2.2.1.pl.B,iN a.2.1.1.2.2.2.2.2.1.pl.C,iN a.2.1.1.2.2.2.2.2.1.pl.D,.sl true 6 a.2.1.1.2.2.2.2.2.1.kids.length ((eSol true).f a.2.1.1.2.2.2.2.2.1.kids),bl a.2.1.1.2.2.2.2.2.2.1.inn,iN a.2.1.1.2.2.2.2.2.2.1.pl.A,iN a.2.1.1.2.2.2.2.2.2.1.pl.B,iN a.2.1.1.2.2.2.2.2.2.1.pl.C,iN a.2.1.1.2.2.2.2.2.2.1.pl.D,.sl true 6 a.2.1.1.2.2.2.2.2.2.1.kids.length ((eSol true).f a.2.1.1.2.2.2.2.2.2.1.kids),bl a.2.1.1.2.2.2.2.2.2.2.inn,iN a.2.1.1.2.2.2.2.2.2.2.pl.A,iN a.2.1.1.2.2.2.2.2.2.2.pl.B,iN a.2.1.1.2.2.2.2.2.2.2.pl.C,iN a.2.1.1.2.2.2.2.2.2.2.pl.D,.sl true 6 a.2.1.1.2.2.2.2.2.2.2.kids.length ((eSol true).f a.2.1.1.2.2.2.2.2.2.2.kids),bl a.2.1.2.1,bl a.2.1.2.2.1,bl a.2.1.2.2.2.1,bl a.2.1.2.2.2.2.1,bl a.2.1.2.2.2.2.2.1,bl a.2.1.2.2.2.2.2.2.1,bl a.2.1.2.2.2.2.2.2.2.1,bl a.2.1.2.2.2.2.2.2.2.2]⟩),(1000,⟨true,0,[.sl false 1 a.2.2.1.length ((eU8).f a.2.2.1),iN a.2.2.2.1,iN a.2.2.2.2]⟩)]⟩:=by
 refine loopN_ind (fun _rec0 hrec0 a r h=>?_)
 obtain⟨t6,w5,zat,zau,zbo⟩:=a
 unfold Dp_l20Draw_0 at h
 refine x_frk 7 [] oN h (fun h=>?_) (fun h=>?_)
 ·obtain⟨v1,y1,h⟩:=bm h
  obtain⟨v2,y2,h⟩:=bm h
  refine x_frk 20 [(1,.call [] [] (iN v1.1) [(1000,⟨true,0,[.sl false 1 v1.2.1.length ((eU8).f v1.2.1),iN v1.2.2.1,iN v1.2.2.2]⟩)]),(2,.call [] [] (iN v2.1) [(1000,⟨true,0,[.sl false 1 v2.2.1.length ((eU8).f v2.2.1),iN v2.2.2.1,iN v2.2.2.2]⟩)])] (oC (Tp_l1Below (Y:=Y) (zat,zau,zbo) 4 _ y1) (oI (Tp_l1Below (Y:=Y) v1.2 5 _ y2))) h (fun h=>?_) (fun h=>?_)
  ·obtain⟨v3,y3,h⟩:=bm h
   exact x_to 17 [(0,.rows (kF w5)),(1,.call [] [] (.tup [.agg (cT52o v3.1),iN v3.2]) [])] (oSh8 w5 (oI (Tp_Drop (Y:=Y) n w5 v1.1 _ y3))) (hrec0 (w64 (t6-1),v3.1,v2.2.1,v2.2.2.1,v2.2.2.2) r h) 
  ·refine x_frk 5 [] oN h (fun h=>?_) (fun h=>?_)
   ·obtain⟨v4,y4,h⟩:=bm h
    obtain⟨v5,y5,h⟩:=bm h
    obtain⟨v6,y6,h⟩:=bm h
    obtain⟨v7,y7,h⟩:=bm h
    exact x_to 24 [(0,.rows (kF w5)),(2,.call [] [] (iN v4.1) [(1000,⟨true,0,[.sl false 1 v4.2.1.length ((eU8).f v4.2.1),iN v4.2.2.1,iN v4.2.2.2]⟩)]),(1,.call [] [] (iN v5.1) [(1000,⟨true,0,[.sl false 1 v5.2.1.length ((eU8).f v5.2.1),iN v5.2.2.1,iN v5.2.2.2]⟩)]),(1,.call [] [] (iN v6.1) [(1000,⟨true,0,[.sl false 1 v6.2.1.length ((eU8).f v6.2.1),iN v6.2.2.1,iN v6.2.2.2]⟩)]),(1,.call [] [] (.tup [.agg (cT52o v7.1),iN v7.2]) [])] (oSh8 w5 (oC (Tp_l1Below (Y:=Y) v2.2 4 _ y4) (oC (Tp_l1Below (Y:=Y) v4.2 4 _ y5) (oC (Tp_l1Below (Y:=Y) v5.2 4 _ y6) (oI (Tp_Mix (Y:=Y) n w5 v1.1 v4.1 v5.1 (w64 (1+v6.1)) _ y7)))))) (hrec0 (w64 (t6-1),v7.1,v6.2.1,v6.2.2.1,v6.2.2.2) r h) 
   ·refine x_frk 5 [] oN h (fun h=>?_) (fun h=>?_)
    ·obtain⟨v8,y8,h⟩:=bm h
     obtain⟨v9,y9,h⟩:=bm h
     obtain⟨v10,y10,h⟩:=bm h
     exact x_to 23 [(0,.rows (kF w5)),(2,.call [] [] (iN v8.1) [(1000,⟨true,0,[.sl false 1 v8.2.1.length ((eU8).f v8.2.1),iN v8.2.2.1,iN v8.2.2.2]⟩)]),(1,.call [] [] (iN v9.1) [(1000,⟨true,0,[.sl false 1 v9.2.1.length ((eU8).f v9.2.1),iN v9.2.2.1,iN v9.2.2.2]⟩)]),(2,.call [] [] (.tup [.agg (cT52o v10.1),iN v10.2]) [])] (oSh8 w5 (oC (Tp_l1Below (Y:=Y) v2.2 4 _ y8) (oC (Tp_l1Below (Y:=Y) v8.2 5 _ y9) (oI (Tp_Move (Y:=Y) n w5 v1.1 v8.1 (Pt.mk (w64 (v9.1-2)) 0 0) _ y10))))) (hrec0 (w64 (t6-1),v10.1,v9.2.1,v9.2.2.1,v9.2.2.2) r h) 
    ·obtain⟨v11,y11,h⟩:=bm h
     obtain⟨v12,y12,h⟩:=bm h
     exact x_to 20 [(0,.rows (kF w5)),(3,.call [] [] (eS v11.1) [(1000,⟨true,0,[.sl false 1 v11.2.1.length ((eU8).f v11.2.1),iN v11.2.2.1,iN v11.2.2.2]⟩)]),(0,.call [] [(eSol false).f v11.1.kids] (.tup [.agg (cT52o v12.1),iN v12.2]) [])] (oSh8 w5 (oC (Big.wka (show WkT [.ptr 1000 0,.sl true 4 0 ((ePl).f []),iN 2] [.ptr 1000 0,.sl false 4 0 ((ePl).f []),iN 2] from ⟨wkSameU _,wkShareU (L:=[]) ePl ePl sPl,wkSameU _,trivial⟩) (Tp_l8Grow (Y:=Y) n v2.2 [] 2 _ y11)) (oC (len_row (L:=[]) ePl) (oC (Tp_Keep (Y:=Y) n w5 v1.1 v11.1 _ y12) (oI (Enc.share (eSol true) (eSol false) (sSol true) v11.1.kids)))))) (hrec0 (w64 (t6-1),v12.1,v11.2.1,v11.2.2.1,v11.2.2.2) r h) 
 ·obtain rfl:=sj h
  exact x_end 6 [] [] oN oN 
def Dp_l20Draw(n:Nat)(a0:((List Int)×Int×Int))(a1:Int):Option (Dk8×((List Int)×Int×Int)) :=
 (Dp_l1Below a0 a1).bind fun v0=>loopN (Dp_l20Draw_0 n false 0 0 0 0 false 0 0 0 0 false 0 0 0 0 false 0 0 0 0 false 0 0 0 0 false 0 0 0 0 false 0 0 0 0 false 0 0 0 0 false false false false false false false false) n (v0.1,(((Sol.mk false (Pl.mk 0 0 0 0) ([]:List Sol)),(Sol.mk false (Pl.mk 0 0 0 0) ([]:List Sol)),(Sol.mk false (Pl.mk 0 0 0 0) ([]:List Sol)),(Sol.mk false (Pl.mk 0 0 0 0) ([]:List Sol)),(Sol.mk false (Pl.mk 0 0 0 0) ([]:List Sol)),(Sol.mk false (Pl.mk 0 0 0 0) ([]:List Sol)),(Sol.mk false (Pl.mk 0 0 0 0) ([]:List Sol)),(Sol.mk false (Pl.mk 0 0 0 0) ([]:List Sol))),(false,false,false,false,false,false,false,false)),v0.2.1,v0.2.2.1,v0.2.2.2)
theorem Tp_l20Draw{Y}(n:Nat)(a0:((List Int)×Int×Int))(a1:Int)(r:(Dk8×((List Int)×Int×Int)))(h:Dp_l20Draw n a0 a1=some r):BT Y (.call 60 [.ptr 1000 0,iN a1] (lk [(1000,⟨true,0,[.sl false 1 a0.1.length ((eU8).f a0.1),iN a0.2.1,iN a0.2.2]⟩)]) (.agg (cT52o r.1)) (lk [(1000,⟨true,0,[.sl false 1 r.2.1.length ((eU8).f r.2.1),iN r.2.2.1,iN r.2.2.2]⟩)])):=by
 unfold Dp_l20Draw at h
 refine x_call (fn:=Tryz.f60) (c:=B60) (bs0:=[(1000,⟨true,0,[.bad,.bad,.bad]⟩)]) Tryz.func60 (by kernel_rfl) (by kernel_rfl) ?_
 obtain⟨v0,y0,h⟩:=bm h
 exact x_to 20 [(6,.call [] [] (iN v0.1) [(1000,⟨true,0,[.sl false 1 v0.2.1.length ((eU8).f v0.2.1),iN v0.2.2.1,iN v0.2.2.2]⟩)]),(1,.wkb 5 ⟨true,0,zD⟩ ⟨true,0,[bl false,iN 0,iN 0,iN 0,iN 0,.sl true 6 ([]:List Sol).length ((eSol true).f ([]:List Sol)),bl false,iN 0,iN 0,iN 0,iN 0,.sl true 6 ([]:List Sol).length ((eSol true).f ([]:List Sol)),bl false,iN 0,iN 0,iN 0,iN 0,.sl true 6 ([]:List Sol).length ((eSol true).f ([]:List Sol)),bl false,iN 0,iN 0,iN 0,iN 0,.sl true 6 ([]:List Sol).length ((eSol true).f ([]:List Sol)),bl false,iN 0,iN 0,iN 0,iN 0,.sl true 6 ([]:List Sol).length ((eSol true).f ([]:List Sol)),bl false,iN 0,iN 0,iN 0,iN 0,.sl true 6 ([]:List Sol).length ((eSol true).f ([]:List Sol)),bl false,iN 0,iN 0,iN 0,iN 0,.sl true 6 ([]:List Sol).length ((eSol true).f ([]:List Sol)),bl false,iN 0,iN 0,iN 0,iN 0,.sl true 6 ([]:List Sol).length ((eSol true).f ([]:List Sol)),bl false,bl false,bl false,bl false,bl false,bl false,bl false,bl false]⟩)] (oC (Tp_l1Below (Y:=Y) a0 a1 _ y0) (oC (rflB ⟨true,0,zD⟩) (oI (show WkB ⟨true,0,zD⟩ ⟨true,0,[bl false,iN 0,iN 0,iN 0,iN 0,.sl true 6 ([]:List Sol).length ((eSol true).f ([]:List Sol)),bl false,iN 0,iN 0,iN 0,iN 0,.sl true 6 ([]:List Sol).length ((eSol true).f ([]:List Sol)),bl false,iN 0,iN 0,iN 0,iN 0,.sl true 6 ([]:List Sol).length ((eSol true).f ([]:List Sol)),bl false,iN 0,iN 0,iN 0,iN 0,.sl true 6 ([]:List Sol).length ((eSol true).f ([]:List Sol)),bl false,iN 0,iN 0,iN 0,iN 0,.sl true 6 ([]:List Sol).length ((eSol true).f ([]:List Sol)),bl false,iN 0,iN 0,iN 0,iN 0,.sl true 6 ([]:List Sol).length ((eSol true).f ([]:List Sol)),bl false,iN 0,iN 0,iN 0,iN 0,.sl true 6 ([]:List Sol).length ((eSol true).f ([]:List Sol)),bl false,iN 0,iN 0,iN 0,iN 0,.sl true 6 ([]:List Sol).length ((eSol true).f ([]:List Sol)),bl false,bl false,bl false,bl false,bl false,bl false,bl false,bl false]⟩ from ⟨rfl,rfl,⟨.inl rfl,.inl rfl,.inl rfl,.inl rfl,.inl rfl,.inr (.inr (.inr ⟨rfl,_,_,rfl⟩)),.inl rfl,.inl rfl,.inl rfl,.inl rfl,.inl rfl,.inr (.inr (.inr ⟨rfl,_,_,rfl⟩)),.inl rfl,.inl rfl,.inl rfl,.inl rfl,.inl rfl,.inr (.inr (.inr ⟨rfl,_,_,rfl⟩)),.inl rfl,.inl rfl,.inl rfl,.inl rfl,.inl rfl,.inr (.inr (.inr ⟨rfl,_,_,rfl⟩)),.inl rfl,.inl rfl,.inl rfl,.inl rfl,.inl rfl,.inr (.inr (.inr ⟨rfl,_,_,rfl⟩)),.inl rfl,.inl rfl,.inl rfl,.inl rfl,.inl rfl,.inr (.inr (.inr ⟨rfl,_,_,rfl⟩)),.inl rfl,.inl rfl,.inl rfl,.inl rfl,.inl rfl,.inr (.inr (.inr ⟨rfl,_,_,rfl⟩)),.inl rfl,.inl rfl,.inl rfl,.inl rfl,.inl rfl,.inr (.inr (.inr ⟨rfl,_,_,rfl⟩)),.inl rfl,.inl rfl,.inl rfl,.inl rfl,.inl rfl,.inl rfl,.inl rfl,.inl rfl,trivial⟩⟩)))) (Tp_l20Draw_0 n false 0 0 0 0 false 0 0 0 0 false 0 0 0 0 false 0 0 0 0 false 0 0 0 0 false 0 0 0 0 false 0 0 0 0 false 0 0 0 0 false false false false false false false false n (v0.1,(((Sol.mk false (Pl.mk 0 0 0 0) ([]:List Sol)),(Sol.mk false (Pl.mk 0 0 0 0) ([]:List Sol)),(Sol.mk false (Pl.mk 0 0 0 0) ([]:List Sol)),(Sol.mk false (Pl.mk 0 0 0 0) ([]:List Sol)),(Sol.mk false (Pl.mk 0 0 0 0) ([]:List Sol)),(Sol.mk false (Pl.mk 0 0 0 0) ([]:List Sol)),(Sol.mk false (Pl.mk 0 0 0 0) ([]:List Sol)),(Sol.mk false (Pl.mk 0 0 0 0) ([]:List Sol))),(false,false,false,false,false,false,false,false)),v0.2.1,v0.2.2.1,v0.2.2.2) r h) 
def Dp_DrawDesk(n:Nat)(a0:(List Int)):Option Dk8 :=
 (Dp_l1New n a0).bind fun v0=>(Dp_l1Size a0 8).bind fun v1=>(Dp_l20Draw n v0 v1).bind fun v2=>some v2.1
theorem Tp_DrawDesk{Y}(n:Nat)(a0:(List Int))(r:Dk8)(h:Dp_DrawDesk n a0=some r):BT Y (.call 20 [.sl false 1 a0.length ((eU8).f a0)] (lk []) (.agg (cT52o r)) (lk [])):=by
 unfold Dp_DrawDesk at h
 refine x_call (fn:=Tryz.f20) (c:=B20) (bs0:=[]) Tryz.func20 (by kernel_rfl) (by kernel_rfl) ?_
 obtain⟨v0,y0,h⟩:=bm h
 obtain⟨v1,y1,h⟩:=bm h
 obtain⟨v2,y2,h⟩:=bm h
 obtain rfl:=sj h
 exact x_end 18 [(2,.call [] [] (.nbx [.sl false 1 v0.1.length ((eU8).f v0.1),iN v0.2.1,iN v0.2.2]) []),(3,.call [] [] (iN v1) []),(0,.call [] [] (.agg (cT52o v2.1)) [(1000,⟨true,0,[.sl false 1 v2.2.1.length ((eU8).f v2.2.1),iN v2.2.2.1,iN v2.2.2.2]⟩)])] [] (oC (Tp_l1New (Y:=Y) n a0 _ y0) (oC (Tp_l1Size (Y:=Y) a0 8 _ y1) (oI (Tp_l20Draw (Y:=Y) n v0 v1 _ y2)))) oN 
def Dlaws_at(a0:(List Int))(a1:Int):Option Int :=
 frk (decide (a1<(a0.length:Int))) ((lget a0 a1).bind fun v0=>some (w64 v0)) (some (Int.tmod (w64 ((w64 (a1*31))+(w64 ((a0.length:Int)*7)))) 256))
theorem Tlaws_at{Y}(a0:(List Int))(a1 r:Int)(h:Dlaws_at a0 a1=some r):BT Y (.call 21 [.sl false 1 a0.length ((eU8).f a0),iN a1] (lk []) (iN r) (lk [])):=by
 unfold Dlaws_at at h
 refine x_call (fn:=Tryz.f21) (c:=B21) (bs0:=[]) Tryz.func21 (by kernel_rfl) (by kernel_rfl) ?_
 refine x_frk 12 [] oN h (fun h=>?_) (fun h=>?_)
 ·obtain⟨v0,y0,h⟩:=bm h
  obtain rfl:=sj h
  exact x_end 9 [(2,.val (.cptr (eU8.c v0++(eU8).f ((a0).drop (Int.toNat a1+1)))))] [] (oI (ix eU8 y0)) oN 
 ·obtain rfl:=sj h
  exact x_end 12 [] [] oN oN 
def Dp_l6Cell_1(n:Nat)(rec0:(Int×List Pl×List Int×Int×Int)→Option ((List Pl)×((List Int)×Int×Int)))(a:(Int×List Pl×List Int×Int×Int)):Option ((List Pl)×((List Int)×Int×Int)) :=
 match a with
 | (t7,l29,zat,zau,zbo)=>frk (decide (t7>0)) ((Dp_l3Draw n (zat,zau,zbo)).bind fun v3=>(Dp_l6With n l29 v3.1).bind fun v4=>frk (!v4) (chk (apB 32 (l29.length+1)) (rec0 (w64 (t7-1),(l29++[v3.1]),v3.2.1,v3.2.2.1,v3.2.2.2))) (rec0 (w64 (t7-1),l29,v3.2.1,v3.2.2.1,v3.2.2.2))) (some (l29,(zat,zau,zbo)))
theorem Tp_l6Cell_1{Y}(n:Nat):∀(m:Nat) (a:(Int×List Pl×List Int×Int×Int)) (r:((List Pl)×((List Int)×Int×Int))),loopN (Dp_l6Cell_1 n) m a=some r→WT Y 49 [.code (cp [1,1,1,0,1,0] B49),.blk 0,.code (cp [1,1,1,1] B49)] (FT Tryz.f49 [(1000,⟨true,0,[.bad,.bad,.bad]⟩)] (.sl true 4 r.1.length ((ePl).f r.1)) [(1000,⟨true,0,[.sl false 1 r.2.1.length ((eU8).f r.2.1),iN r.2.2.1,iN r.2.2.2]⟩)]) ⟨[(0,.ptr 1000 0),(5,.msl 29 a.2.1.length),(7,iN a.1)],[(29,⟨true,4,(ePl).f a.2.1⟩),(1000,⟨true,0,[.sl false 1 a.2.2.1.length ((eU8).f a.2.2.1),iN a.2.2.2.1,iN a.2.2.2.2]⟩)]⟩:=by
 refine loopN_ind (fun _rec0 hrec0 a r h=>?_)
 obtain⟨t7,l29,zat,zau,zbo⟩:=a
 unfold Dp_l6Cell_1 at h
 refine x_frk 7 [] oN h (fun h=>?_) (fun h=>?_)
 ·obtain⟨v3,y3,h⟩:=bm h
  obtain⟨v4,y4,h⟩:=bm h
  refine x_frk 17 [(1,.call [] [] (.agg [iN v3.1.A,iN v3.1.B,iN v3.1.C,iN v3.1.D]) [(1000,⟨true,0,[.sl false 1 v3.2.1.length ((eU8).f v3.2.1),iN v3.2.2.1,iN v3.2.2.2]⟩)]),(4,.call [] [(ePl).f l29] (bl v4) [])] (oC (Tp_l3Draw (Y:=Y) n (zat,zau,zbo) _ y3) (oC (Tp_l6With (Y:=Y) n l29 v3.1 _ y4) (oC (len_row (L:=l29) ePl) (oI (Enc.share ePl ePl sPl l29))))) h (fun h=>?_) (fun h=>?_)
  ·obtain⟨c5,h⟩:=chk_some h
   exact x_to 15 [(3,.app false (List.length (l29++[v3.1])) ((ePl).f (l29++[v3.1]))),(4,.ren 46 29)] (oC (len_row' (L:=l29) ePl) (oC (app_one (L:=l29) (M:=[v3.1]) ePl c5) (oC (app_new (L:=l29) (M:=[v3.1]) ePl) (oC (app_m (L:=l29) (M:=[v3.1]) ePl rfl) (oC (len_row' (L:=[v3.1]) ePl) (oC (Enc.noOwn ePl (fun _=>rfl) [v3.1]) (oI (show 46<1000∧29<1000 by decide)))))))) (hrec0 (w64 (t7-1),(l29++[v3.1]),v3.2.1,v3.2.2.1,v3.2.2.2) r h) 
  ·exact x_to 8 [] oN (hrec0 (w64 (t7-1),l29,v3.2.1,v3.2.2.1,v3.2.2.2) r h) 
 ·obtain rfl:=sj h
  exact x_end 6 [] [] oN (oI (len_row (L:=l29) ePl)) 
def Dp_l6Cell_0(n:Nat)(t1:Int)(l29:List Pl)(zat:List Int)(zau zbo:Int):Option ((List Pl)×((List Int)×Int×Int)) :=
 (Dp_l1Below (zat,zau,zbo) t1).bind fun v2=>loopN (Dp_l6Cell_1 n) n (v2.1,l29,v2.2.1,v2.2.2.1,v2.2.2.2)
theorem Tp_l6Cell_0{Y}(n:Nat)(t1:Int)(l29:List Pl)(zat:List Int)(zau zbo:Int)(r:((List Pl)×((List Int)×Int×Int)))(h:Dp_l6Cell_0 n t1 l29 zat zau zbo=some r):WT Y 49 [.code (cp [1,1,1,0,0] B49),.code (cp [1,1,1,0,1] B49),.code (cp [1,1,1,1] B49)] (FT Tryz.f49 [(1000,⟨true,0,[.bad,.bad,.bad]⟩)] (.sl true 4 r.1.length ((ePl).f r.1)) [(1000,⟨true,0,[.sl false 1 r.2.1.length ((eU8).f r.2.1),iN r.2.2.1,iN r.2.2.2]⟩)]) ⟨[(0,.ptr 1000 0),(1,iN t1),(5,.msl 29 l29.length)],[(29,⟨true,4,(ePl).f l29⟩),(1000,⟨true,0,[.sl false 1 zat.length ((eU8).f zat),iN zau,iN zbo]⟩)]⟩:=by
 unfold Dp_l6Cell_0 at h
 obtain⟨v2,y2,h⟩:=bm h
 exact x_to 7 [(2,.call [] [] (iN v2.1) [(1000,⟨true,0,[.sl false 1 v2.2.1.length ((eU8).f v2.2.1),iN v2.2.2.1,iN v2.2.2.2]⟩)])] (oI (Tp_l1Below (Y:=Y) (zat,zau,zbo) t1 _ y2)) (Tp_l6Cell_1 n n (v2.1,l29,v2.2.1,v2.2.2.1,v2.2.2.2) r h) 
def Dp_l6Cell_3(n:Nat)(rec0:(Int×List Pl×List Int×Int×Int)→Option ((List Pl)×((List Int)×Int×Int)))(a:(Int×List Pl×List Int×Int×Int)):Option ((List Pl)×((List Int)×Int×Int)) :=
 match a with
 | (t7,l9,zat,zau,zbo)=>frk (decide (t7>0)) ((Dp_l3Draw n (zat,zau,zbo)).bind fun v7=>(Dp_l6With n l9 v7.1).bind fun v8=>frk (!v8) (chk (apB 32 (l9.length+1)) (rec0 (w64 (t7-1),(l9++[v7.1]),v7.2.1,v7.2.2.1,v7.2.2.2))) (rec0 (w64 (t7-1),l9,v7.2.1,v7.2.2.1,v7.2.2.2))) (some (l9,(zat,zau,zbo)))
theorem Tp_l6Cell_3{Y}(n:Nat):∀(m:Nat) (a:(Int×List Pl×List Int×Int×Int)) (r:((List Pl)×((List Int)×Int×Int))),loopN (Dp_l6Cell_3 n) m a=some r→WT Y 49 [.code (cp [1,1,1,0,1,0] B49),.blk 0,.code (cp [1,1,1,1] B49)] (FT Tryz.f49 [(1000,⟨true,0,[.bad,.bad,.bad]⟩)] (.sl true 4 r.1.length ((ePl).f r.1)) [(1000,⟨true,0,[.sl false 1 r.2.1.length ((eU8).f r.2.1),iN r.2.2.1,iN r.2.2.2]⟩)]) ⟨[(0,.ptr 1000 0),(5,.msl 9 a.2.1.length),(7,iN a.1)],[(9,⟨true,4,(ePl).f a.2.1⟩),(1000,⟨true,0,[.sl false 1 a.2.2.1.length ((eU8).f a.2.2.1),iN a.2.2.2.1,iN a.2.2.2.2]⟩)]⟩:=by
 refine loopN_ind (fun _rec0 hrec0 a r h=>?_)
 obtain⟨t7,l9,zat,zau,zbo⟩:=a
 unfold Dp_l6Cell_3 at h
 refine x_frk 7 [] oN h (fun h=>?_) (fun h=>?_)
 ·obtain⟨v7,y7,h⟩:=bm h
  obtain⟨v8,y8,h⟩:=bm h
  refine x_frk 17 [(1,.call [] [] (.agg [iN v7.1.A,iN v7.1.B,iN v7.1.C,iN v7.1.D]) [(1000,⟨true,0,[.sl false 1 v7.2.1.length ((eU8).f v7.2.1),iN v7.2.2.1,iN v7.2.2.2]⟩)]),(4,.call [] [(ePl).f l9] (bl v8) [])] (oC (Tp_l3Draw (Y:=Y) n (zat,zau,zbo) _ y7) (oC (Tp_l6With (Y:=Y) n l9 v7.1 _ y8) (oC (len_row (L:=l9) ePl) (oI (Enc.share ePl ePl sPl l9))))) h (fun h=>?_) (fun h=>?_)
  ·obtain⟨c9,h⟩:=chk_some h
   exact x_to 15 [(3,.app false (List.length (l9++[v7.1])) ((ePl).f (l9++[v7.1]))),(4,.ren 46 9)] (oC (len_row' (L:=l9) ePl) (oC (app_one (L:=l9) (M:=[v7.1]) ePl c9) (oC (app_new (L:=l9) (M:=[v7.1]) ePl) (oC (app_m (L:=l9) (M:=[v7.1]) ePl rfl) (oC (len_row' (L:=[v7.1]) ePl) (oC (Enc.noOwn ePl (fun _=>rfl) [v7.1]) (oI (show 46<1000∧9<1000 by decide)))))))) (hrec0 (w64 (t7-1),(l9++[v7.1]),v7.2.1,v7.2.2.1,v7.2.2.2) r h) 
  ·exact x_to 8 [] oN (hrec0 (w64 (t7-1),l9,v7.2.1,v7.2.2.1,v7.2.2.2) r h) 
 ·obtain rfl:=sj h
  exact x_end 6 [] [] oN (oI (len_row (L:=l9) ePl)) 
def Dp_l6Cell_2(n:Nat)(t1:Int)(l9:List Pl)(zat:List Int)(zau zbo:Int):Option ((List Pl)×((List Int)×Int×Int)) :=
 (Dp_l1Below (zat,zau,zbo) t1).bind fun v6=>loopN (Dp_l6Cell_3 n) n (v6.1,l9,v6.2.1,v6.2.2.1,v6.2.2.2)
theorem Tp_l6Cell_2{Y}(n:Nat)(t1:Int)(l9:List Pl)(zat:List Int)(zau zbo:Int)(r:((List Pl)×((List Int)×Int×Int)))(h:Dp_l6Cell_2 n t1 l9 zat zau zbo=some r):WT Y 49 [.code (cp [1,1,1,0,0] B49),.code (cp [1,1,1,0,1] B49),.code (cp [1,1,1,1] B49)] (FT Tryz.f49 [(1000,⟨true,0,[.bad,.bad,.bad]⟩)] (.sl true 4 r.1.length ((ePl).f r.1)) [(1000,⟨true,0,[.sl false 1 r.2.1.length ((eU8).f r.2.1),iN r.2.2.1,iN r.2.2.2]⟩)]) ⟨[(0,.ptr 1000 0),(1,iN t1),(5,.msl 9 l9.length)],[(9,⟨true,4,(ePl).f l9⟩),(1000,⟨true,0,[.sl false 1 zat.length ((eU8).f zat),iN zau,iN zbo]⟩)]⟩:=by
 unfold Dp_l6Cell_2 at h
 obtain⟨v6,y6,h⟩:=bm h
 exact x_to 7 [(2,.call [] [] (iN v6.1) [(1000,⟨true,0,[.sl false 1 v6.2.1.length ((eU8).f v6.2.1),iN v6.2.2.1,iN v6.2.2.2]⟩)])] (oI (Tp_l1Below (Y:=Y) (zat,zau,zbo) t1 _ y6)) (Tp_l6Cell_3 n n (v6.1,l9,v6.2.1,v6.2.2.1,v6.2.2.2) r h) 
def Dp_l6Cell(n:Nat)(a0:((List Int)×Int×Int))(a1:Int):Option ((List Pl)×((List Int)×Int×Int)) :=
 (Dp_l1Once a0 4).bind fun v0=>frk (!v0.1) ((Dp_l1Below v0.2 5).bind fun v1=>Dp_l6Cell_0 n a1 [(Pl.mk 1 0 0 (w64 (1+v1.1))),(Pl.mk (-1) 0 0 (w64 (1+v1.1))),(Pl.mk 0 1 0 (w64 (1+v1.1))),(Pl.mk 0 (-1) 0 (w64 ((w64 (1+v1.1))+1))),(Pl.mk 0 0 1 (w64 (1+v1.1))),(Pl.mk 0 0 (-1) (w64 (1+v1.1)))] v1.2.1 v1.2.2.1 v1.2.2.2) (Dp_l6Cell_2 n a1 [] v0.2.1 v0.2.2.1 v0.2.2.2)
theorem Tp_l6Cell{Y}(n:Nat)(a0:((List Int)×Int×Int))(a1:Int)(r:((List Pl)×((List Int)×Int×Int)))(h:Dp_l6Cell n a0 a1=some r):BT Y (.call 49 [.ptr 1000 0,iN a1] (lk [(1000,⟨true,0,[.sl false 1 a0.1.length ((eU8).f a0.1),iN a0.2.1,iN a0.2.2]⟩)]) (.sl true 4 r.1.length ((ePl).f r.1)) (lk [(1000,⟨true,0,[.sl false 1 r.2.1.length ((eU8).f r.2.1),iN r.2.2.1,iN r.2.2.2]⟩)])):=by
 unfold Dp_l6Cell at h
 refine x_call (fn:=Tryz.f49) (c:=B49) (bs0:=[(1000,⟨true,0,[.bad,.bad,.bad]⟩)]) Tryz.func49 (by kernel_rfl) (by kernel_rfl) ?_
 obtain⟨v0,y0,h⟩:=bm h
 refine x_frk 16 [(4,.call [] [] (bl v0.1) [(1000,⟨true,0,[.sl false 1 v0.2.1.length ((eU8).f v0.2.1),iN v0.2.2.1,iN v0.2.2.2]⟩)])] (oI (Tp_l1Once (Y:=Y) a0 4 _ y0)) h (fun h=>?_) (fun h=>?_)
 ·obtain⟨v1,y1,h⟩:=bm h
  exact x_to 26 [(1,.call [] [] (iN v1.1) [(1000,⟨true,0,[.sl false 1 v1.2.1.length ((eU8).f v1.2.1),iN v1.2.2.1,iN v1.2.2.2]⟩)])] (oI (Tp_l1Below (Y:=Y) v0.2 5 _ y1)) (Tp_l6Cell_0 n a1 [(Pl.mk 1 0 0 (w64 (1+v1.1))),(Pl.mk (-1) 0 0 (w64 (1+v1.1))),(Pl.mk 0 1 0 (w64 (1+v1.1))),(Pl.mk 0 (-1) 0 (w64 ((w64 (1+v1.1))+1))),(Pl.mk 0 0 1 (w64 (1+v1.1))),(Pl.mk 0 0 (-1) (w64 (1+v1.1)))] v1.2.1 v1.2.2.1 v1.2.2.2 r h) 
 ·exact x_to 3 [] oN (Tp_l6Cell_2 n a1 [] v0.2.1 v0.2.2.1 v0.2.2.2 r h) 
def Dp_l6Right_0(n:Nat)(t0:List Pl)(rec0:Int→Option Bool)(a:Int):Option Bool :=
 match a with
 | t3=>frk (decide (t3<(t0.length:Int))) ((lget t0 t3).bind fun v0=>(Dp_PlaneOk n v0).bind fun v1=>frk (!v1) (some false) (rec0 (w64 (t3+1)))) (some (decide ((t0.length:Int)≤24)))
theorem Tp_l6Right_0{Y}(n:Nat)(t0:List Pl):∀(m:Nat) (a:Int) (r:Bool),loopN (Dp_l6Right_0 n t0) m a=some r→WT Y 98 [.code (cp [1,0,1,0] B98),.blk 0,.code (cp [1,1] B98)] (FT Tryz.f98 [] (bl r) []) ⟨[(0,.sl false 4 t0.length ((ePl).f t0)),(3,iN a)],[]⟩:=by
 refine loopN_ind (fun _rec0 hrec0 a r h=>?_)
 obtain⟨t3,rfl⟩:∃x,x=a:=⟨a,rfl⟩
 unfold Dp_l6Right_0 at h
 refine x_frk 9 [] oN h (fun h=>?_) (fun h=>?_)
 ·obtain⟨v0,y0,h⟩:=bm h
  obtain⟨v1,y1,h⟩:=bm h
  refine x_frk 12 [(2,.val (.cptr (ePl.c v0++(ePl).f ((t0).drop (Int.toNat t3+1))))),(1,.call [] [] (bl v1) [])] (oC (ix ePl y0) (oI (Tp_PlaneOk (Y:=Y) n v0 _ y1))) h (fun h=>?_) (fun h=>?_)
  ·obtain rfl:=sj h
   exact x_end 4 [] [] oN oN 
  ·exact x_to 8 [] oN (hrec0 (w64 (t3+1)) r h) 
 ·obtain rfl:=sj h
  exact x_end 8 [] [] oN oN 
def Dp_l6Right(n:Nat)(a0:(List Pl)):Option Bool :=
 loopN (Dp_l6Right_0 n a0) n 0
theorem Tp_l6Right{Y}(n:Nat)(a0:(List Pl))(r:Bool)(h:Dp_l6Right n a0=some r):BT Y (.call 98 [.sl false 4 a0.length ((ePl).f a0)] (lk []) (bl r) (lk [])):=by
 unfold Dp_l6Right at h
 refine x_call (fn:=Tryz.f98) (c:=B98) (bs0:=[]) Tryz.func98 (by kernel_rfl) (by kernel_rfl) ?_
 exact x_to 10 [] oN (Tp_l6Right_0 n a0 n 0 r h) 
def Dp_l6Open_0(n:Nat)(t0:List Pl)(rec0:Int→Option Bool)(a:Int):Option Bool :=
 match a with
 | t3=>frk (decide (t3<(t0.length:Int))) ((lsl t0 0 t3).bind fun v0=>(lget t0 t3).bind fun v1=>(Dp_l6With n v0 v1).bind fun v2=>frk v2 (some false) (rec0 (w64 (t3+1)))) (some true)
theorem Tp_l6Open_0{Y}(n:Nat)(t0:List Pl):∀(m:Nat) (a:Int) (r:Bool),loopN (Dp_l6Open_0 n t0) m a=some r→WT Y 99 [.code (cp [1,0,1,0] B99),.blk 0,.code (cp [1,1] B99)] (FT Tryz.f99 [] (bl r) []) ⟨[(0,.sl false 4 t0.length ((ePl).f t0)),(3,iN a)],[]⟩:=by
 refine loopN_ind (fun _rec0 hrec0 a r h=>?_)
 obtain⟨t3,rfl⟩:∃x,x=a:=⟨a,rfl⟩
 unfold Dp_l6Open_0 at h
 refine x_frk 9 [] oN h (fun h=>?_) (fun h=>?_)
 ·obtain⟨v0,y0,h⟩:=bm h
  obtain⟨v1,y1,h⟩:=bm h
  obtain⟨v2,y2,h⟩:=bm h
  refine x_frk 14 [(2,.val (.sl false 4 v0.length ((ePl).f v0))),(2,.val (.cptr (ePl.c v1++(ePl).f ((t0).drop (Int.toNat t3+1))))),(1,.call [] [] (bl v2) [])] (oC (slF ePl y0) (oC (ix ePl y1) (oI (Tp_l6With (Y:=Y) n v0 v1 _ y2)))) h (fun h=>?_) (fun h=>?_)
  ·obtain rfl:=sj h
   exact x_end 4 [] [] oN oN 
  ·exact x_to 8 [] oN (hrec0 (w64 (t3+1)) r h) 
 ·obtain rfl:=sj h
  exact x_end 5 [] [] oN oN 
def Dp_l6Open(n:Nat)(a0:(List Pl)):Option Bool :=
 loopN (Dp_l6Open_0 n a0) n 1
theorem Tp_l6Open{Y}(n:Nat)(a0:(List Pl))(r:Bool)(h:Dp_l6Open n a0=some r):BT Y (.call 99 [.sl false 4 a0.length ((ePl).f a0)] (lk []) (bl r) (lk [])):=by
 unfold Dp_l6Open at h
 refine x_call (fn:=Tryz.f99) (c:=B99) (bs0:=[]) Tryz.func99 (by kernel_rfl) (by kernel_rfl) ?_
 exact x_to 10 [] oN (Tp_l6Open_0 n a0 n 1 r h) 
def Dp_l9Convex_0(_n:Nat)(self:((List Pl)×(List Pl))→Option Sol)(rec0:Int→Option Sol)(t0:List Pl)(t1:List Pl)(_zr:Bool)(_zs _zt _zu _zai t5:Int)(t28:Bool):Option Sol :=
 frk t28 ((lget t0 t5).bind fun v5=>(lsl t0 (w64 (t5+1)) (t0.length:Int)).bind fun v6=>(lget t0 t5).bind fun v7=>(Dp_l8Path t1 v7).bind fun v8=>(self (v6,v8)).bind fun v9=>(Dp_Leaf false).bind fun v10=>(Dp_l8Nodeo1o2 v5 v9 v10).bind fun v11=>some v11) (rec0 (w64 (t5+1)))
theorem Tp_l9Convex_0{Y}(n:Nat)(self:((List Pl)×(List Pl))→Option Sol)(rec0:Int→Option Sol)(t0:List Pl)(t1:List Pl)(zr:Bool)(zs zt zu zai:Int)(hself:∀(a:((List Pl)×(List Pl))) (r:Sol),self a=some r→BT Y (.call 100 [.sl false 4 a.1.length ((ePl).f a.1),.sl false 4 a.2.length ((ePl).f a.2)] (lk []) (eS r) (lk [])))(hrec0:∀(a:Int) (r:Sol),rec0 a=some r→WT Y 100 [.code (cp [1,0,1,0] B100),.blk 0,.code (cp [1,1] B100)] (FT Tryz.f100 [] (eS r) []) ⟨[(0,.sl false 4 t0.length ((ePl).f t0)),(1,.sl false 4 t1.length ((ePl).f t1)),(4,.ptr 4 0),(5,iN a)],[(4,⟨true,0,[bl zr,iN zs,iN zt,iN zu,iN zai,.nil]⟩)]⟩)(t5:Int)(t28:Bool)(r:Sol)(h:Dp_l9Convex_0 n self rec0 t0 t1 zr zs zt zu zai t5 t28=some r):WT Y 100 [.code (cp [1,0,1,0,0,1,0,0,1] B100),.blk 1,.code (cp [1,0,1,0,0,1,1] B100),.lp (cp [1,0,1,0] B100),.blk 0,.code (cp [1,1] B100)] (FT Tryz.f100 [] (eS r) []) ⟨[(0,.sl false 4 t0.length ((ePl).f t0)),(1,.sl false 4 t1.length ((ePl).f t1)),(4,.ptr 4 0),(5,iN t5),(28,bl t28)],[(4,⟨true,0,[bl zr,iN zs,iN zt,iN zu,iN zai,.nil]⟩)]⟩:=by
 unfold Dp_l9Convex_0 at h
 refine x_frk 0 [] oN h (fun h=>?_) (fun h=>?_)
 ·obtain⟨v5,y5,h⟩:=bm h
  obtain⟨v6,y6,h⟩:=bm h
  obtain⟨v7,y7,h⟩:=bm h
  obtain⟨v8,y8,h⟩:=bm h
  obtain⟨v9,y9,h⟩:=bm h
  obtain⟨v10,y10,h⟩:=bm h
  obtain⟨v11,y11,h⟩:=bm h
  obtain rfl:=sj h
  exact x_end 21 [(2,.val (.cptr (ePl.c v5++(ePl).f ((t0).drop (Int.toNat t5+1))))),(4,.val (.sl false 4 v6.length ((ePl).f v6))),(3,.val (.cptr (ePl.c v7++(ePl).f ((t0).drop (Int.toNat t5+1))))),(1,.call [] [] (.sl false 4 v8.length ((ePl).f v8)) []),(0,.call [] [] (eS v9) []),(0,.call [] [] (eS v10) []),(0,.call [] [] (eS v11) [])] [] (oC (ix ePl y5) (oC (slF ePl y6) (oC (ix ePl y7) (oC (shSl (L:=v8) ePl ePl sPl (Tp_l8Path (Y:=Y) t1 v7 _ y8)) (oC (hself (v6,v8) _ y9) (oC (Tp_Leaf (Y:=Y) false _ y10) (oI (Tp_l8Nodeo1o2 (Y:=Y) v5 v9 v10 _ y11)))))))) oN 
 ·exact x_to 8 [] oN (hrec0 (w64 (t5+1)) r h) 
def Dp_l9Convex_1(_n:Nat)(_self:((List Pl)×(List Pl))→Option Sol)(_zr:Bool)(_zs _zt _zu _zai:Int):Option Sol :=
 (Dp_Leaf true).bind fun v12=>some v12
theorem Tp_l9Convex_1{Y}(n:Nat)(self:((List Pl)×(List Pl))→Option Sol)(_hself:∀(a:((List Pl)×(List Pl))) (r:Sol),self a=some r→BT Y (.call 100 [.sl false 4 a.1.length ((ePl).f a.1),.sl false 4 a.2.length ((ePl).f a.2)] (lk []) (eS r) (lk [])))(zr:Bool)(zs zt zu zai:Int)(r:Sol)(h:Dp_l9Convex_1 n self zr zs zt zu zai=some r):WT Y 100 [.code (cp [1,1,0] B100),.code (cp [1,1,1] B100)] (FT Tryz.f100 [] (eS r) []) ⟨[(4,.ptr 4 0)],[(4,⟨true,0,[bl zr,iN zs,iN zt,iN zu,iN zai,.nil]⟩)]⟩:=by
 unfold Dp_l9Convex_1 at h
 obtain⟨v12,y12,h⟩:=bm h
 obtain rfl:=sj h
 exact x_end 4 [(0,.call [] [] (eS v12) [])] [] (oI (Tp_Leaf (Y:=Y) true _ y12)) oN 
def Dp_l9Convex_2(n:Nat)(self:((List Pl)×(List Pl))→Option Sol)(t0:List Pl)(t1:List Pl)(zr:Bool)(zs zt zu zai:Int)(rec0:Int→Option Sol)(a:Int):Option Sol :=
 match a with
 | t5=>frk (decide (t5<(t0.length:Int))) ((lget t0 t5).bind fun v0=>(Dp_l3Flip v0).bind fun v1=>(Dp_l6With n t1 v1).bind fun v2=>frk (!v2) ((lget t0 t5).bind fun v3=>(Dp_l6With n t1 v3).bind fun v4=>Dp_l9Convex_0 n self rec0 t0 t1 zr zs zt zu zai t5 (!v4)) (rec0 (w64 (t5+1)))) (Dp_l9Convex_1 n self zr zs zt zu zai)
theorem Tp_l9Convex_2{Y}(n:Nat)(self:((List Pl)×(List Pl))→Option Sol)(hself:∀(a:((List Pl)×(List Pl))) (r:Sol),self a=some r→BT Y (.call 100 [.sl false 4 a.1.length ((ePl).f a.1),.sl false 4 a.2.length ((ePl).f a.2)] (lk []) (eS r) (lk [])))(t0:List Pl)(t1:List Pl)(zr:Bool)(zs zt zu zai:Int):∀(m:Nat) (a:Int) (r:Sol),loopN (Dp_l9Convex_2 n self t0 t1 zr zs zt zu zai) m a=some r→WT Y 100 [.code (cp [1,0,1,0] B100),.blk 0,.code (cp [1,1] B100)] (FT Tryz.f100 [] (eS r) []) ⟨[(0,.sl false 4 t0.length ((ePl).f t0)),(1,.sl false 4 t1.length ((ePl).f t1)),(4,.ptr 4 0),(5,iN a)],[(4,⟨true,0,[bl zr,iN zs,iN zt,iN zu,iN zai,.nil]⟩)]⟩:=by
 refine loopN_ind (fun rec0 hrec0 a r h=>?_)
 obtain⟨t5,rfl⟩:∃x,x=a:=⟨a,rfl⟩
 unfold Dp_l9Convex_2 at h
 refine x_frk 9 [] oN h (fun h=>?_) (fun h=>?_)
 ·obtain⟨v0,y0,h⟩:=bm h
  obtain⟨v1,y1,h⟩:=bm h
  obtain⟨v2,y2,h⟩:=bm h
  refine x_frk 14 [(3,.val (.cptr (ePl.c v0++(ePl).f ((t0).drop (Int.toNat t5+1))))),(1,.call [] [] (.agg [iN v1.A,iN v1.B,iN v1.C,iN v1.D]) []),(0,.call [] [] (bl v2) [])] (oC (ix ePl y0) (oC (Tp_l3Flip (Y:=Y) v0 _ y1) (oI (Tp_l6With (Y:=Y) n t1 v1 _ y2)))) h (fun h=>?_) (fun h=>?_)
  ·obtain⟨v3,y3,h⟩:=bm h
   obtain⟨v4,y4,h⟩:=bm h
   exact x_to 9 [(3,.val (.cptr (ePl.c v3++(ePl).f ((t0).drop (Int.toNat t5+1))))),(1,.call [] [] (bl v4) [])] (oC (ix ePl y3) (oI (Tp_l6With (Y:=Y) n t1 v3 _ y4))) (Tp_l9Convex_0 n self rec0 t0 t1 zr zs zt zu zai hself hrec0 t5 (!v4) r h) 
  ·exact x_to 18 [] oN (hrec0 (w64 (t5+1)) r h) 
 ·exact x_to 2 [] oN (Tp_l9Convex_1 n self hself zr zs zt zu zai r h) 
def Dp_l9Convex_b(n:Nat)(self:((List Pl)×(List Pl))→Option Sol)(a:((List Pl)×(List Pl))):Option Sol :=
 match a with
 | (a0,a1)=>loopN (Dp_l9Convex_2 n self a0 a1 false 0 0 0 0) n 0
def Dp_l9Convex(n:Nat)(a0:(List Pl))(a1:(List Pl)):Option Sol:=loopN (Dp_l9Convex_b n) n (a0,a1)
theorem Tp_l9Convex_b{Y}(n:Nat):∀(m:Nat) (a:((List Pl)×(List Pl))) (r:Sol),loopN (Dp_l9Convex_b n) m a=some r→∀(_:Unit),BT Y (.call 100 [.sl false 4 a.1.length ((ePl).f a.1),.sl false 4 a.2.length ((ePl).f a.2)] (lk []) (eS r) (lk [])):=by
 refine loopN_ind (fun self hs a r h=>?_)
 have hself:∀(a:((List Pl)×(List Pl))) (r:Sol),self a=some r→BT Y (.call 100 [.sl false 4 a.1.length ((ePl).f a.1),.sl false 4 a.2.length ((ePl).f a.2)] (lk []) (eS r) (lk [])):=fun a r h=>hs a r h ()
 intro _
 obtain⟨a0,a1⟩:=a
 unfold Dp_l9Convex_b at h
 refine x_call (fn:=Tryz.f100) (c:=B100) (bs0:=[]) Tryz.func100 (by kernel_rfl) (by kernel_rfl) ?_
 exact x_to 10 [] oN (Tp_l9Convex_2 n self hself a0 a1 false 0 0 0 0 n 0 r h) 
theorem Tp_l9Convex{Y}(n:Nat)(a0:(List Pl))(a1:(List Pl))(r:Sol)(h:Dp_l9Convex n a0 a1=some r):BT Y (.call 100 [.sl false 4 a0.length ((ePl).f a0),.sl false 4 a1.length ((ePl).f a1)] (lk []) (eS r) (lk [])):=Tp_l9Convex_b n n (a0,a1) r h ()
def Dp_Convex(n:Nat)(a0:(List Pl)):Option (Sol×Int) :=
 (Dp_l6Right n a0).bind fun v0=>frk (!v0) (some ((Sol.mk false (Pl.mk 0 0 0 0) []),1)) ((Dp_l6Open n a0).bind fun v1=>frk (!v1) ((Dp_Leaf false).bind fun v2=>some (v2,2)) ((Dp_l9Convex n a0 []).bind fun v3=>some (v3,0)))
theorem Tp_Convex{Y}(n:Nat)(a0:(List Pl))(r:(Sol×Int))(h:Dp_Convex n a0=some r):BT Y (.call 48 [.sl false 4 a0.length ((ePl).f a0)] (lk []) (.tup [eS r.1,iN r.2]) (lk [])):=by
 unfold Dp_Convex at h
 refine x_call (fn:=Tryz.f48) (c:=B48) (bs0:=[]) Tryz.func48 (by kernel_rfl) (by kernel_rfl) ?_
 obtain⟨v0,y0,h⟩:=bm h
 refine x_frk 12 [(3,.call [] [] (bl v0) [])] (oI (Tp_l6Right (Y:=Y) n a0 _ y0)) h (fun h=>?_) (fun h=>?_)
 ·obtain rfl:=sj h
  exact x_end 6 [] [(true,6)] oN oN 
 ·obtain⟨v1,y1,h⟩:=bm h
  refine x_frk 8 [(1,.call [] [] (bl v1) [])] (oI (Tp_l6Open (Y:=Y) n a0 _ y1)) h (fun h=>?_) (fun h=>?_)
  ·obtain⟨v2,y2,h⟩:=bm h
   obtain rfl:=sj h
   exact x_end 6 [(0,.call [] [] (eS v2) [])] [] (oI (Tp_Leaf (Y:=Y) false _ y2)) oN 
  ·obtain⟨v3,y3,h⟩:=bm h
   obtain rfl:=sj h
   exact x_end 9 [(2,.call [] [(ePl).f []] (eS v3) [])] [] (oC (Tp_l9Convex (Y:=Y) n a0 [] _ y3) (oC (len_row (L:=[]) ePl) (oC (Enc.share ePl ePl sPl []) (oI (show hasSh (eS v3)=false by simp[eS,hasSh,hasShL,nSh,nShI,nShB,nShP,nShT,nShN,nShPs]))))) oN 
end Evl.T
