
/- The law FnExactMove returns true for every input,and its arguments read behind the call as they read before. No condition. -/
import Derived.Test.YtaaljnljnkdiaaaGreatJl
import Derived.Test.YtaaljnljnkdiaaaGreatJr
import Derived.Test.YtaaljnljnkdiaaaGreatRows
open Go Go.RowKit Go.Proofs
namespace Go.Proofs.YtaaljnljnkdiaaaGreat.fnExactMove
open Go.ChangeShapes Go.WideShapes Go.ChangeAt Go.RowKit Evl Evl.T
theorem laidOut:laidOutB Tryz.prog=true:=by kernel_rfl
theorem own:ownKnob Tryz.prog.godebug=none:=by kernel_rfl
theorem eqOk:EqtOk Tryz.prog Evl.T.H:=eqt_of fun t ht=>by
 have h:[32,146].contains t=true:=ht
 have:t=32∨t=146:=by simpa using h
 rcases this with rfl | rfl
 ·exact .inl ⟨by kernel_rfl,by kernel_rfl,by kernel_rfl,by kernel_rfl,by kernel_rfl⟩
 ·exact .inr ⟨⟨3,3,(Tryz.prog.info? 3).get (by kernel_rfl),by kernel_rfl,(Option.some_get _).symm,by kernel_rfl,by kernel_rfl,by kernel_rfl,by kernel_rfl⟩,by kernel_rfl⟩
theorem solT:SolT Tryz.prog 26 23 24 4 3 :=
 ⟨⟨_,Tryz.underlying26,rfl⟩,by kernel_rfl,⟨⟨_,Tryz.underlying23,rfl⟩,by kernel_rfl,⟨Tryz.underlying3,by kernel_rfl⟩⟩,Tryz.underlying24,by kernel_rfl,Tryz.underlying4,by kernel_rfl⟩
theorem ptT:IntsT Tryz.prog 46 3 3:=⟨⟨_,Tryz.underlying46,rfl⟩,by kernel_rfl,⟨Tryz.underlying3,by kernel_rfl⟩⟩
theorem deskT:DeskT Tryz.prog 30 27 28 26 23 24 4 3:=⟨⟨_,Tryz.underlying30,rfl⟩,by kernel_rfl,Tryz.underlying27,by kernel_rfl,Tryz.underlying28,by kernel_rfl,solT⟩
theorem walk(a0:Desk)(g0:LensD a0)(a1:Int)(g1:IntGood a1)(a2:Int)(g2:IntGood a2)(a3:Pt)(g3:PtGood a3)(v0 v1 v2 v3:Value)(W:World)(k0:RepV (Evl.T.cellsIn W) W (fun _=>(0,0)) [] v0 (.agg (dDesk a0)))(k1:RepV (Evl.T.cellsIn W) W (fun _=>(0,0)) [] v1 (i64 a1))(k2:RepV (Evl.T.cellsIn W) W (fun _=>(0,0)) [] v2 (i64 a2))(k3:RepV (Evl.T.cellsIn W) W (fun _=>(0,0)) [] v3 (.agg [i64 a3.X,i64 a3.Y,i64 a3.Z])) :
  Calls Tryz.prog 4 #[v0,v1,v2,v3] W fun e w'=>e=.returned (.bool true)∧Go.RowKit.Below W.heap.size W w':=by
 obtain⟨u0_0,u0_1,u0_2,u0_3,u0_4,u0_5,u0_6,u0_7,o0_0,o0_1,o0_2,o0_3,o0_4,o0_5,o0_6,o0_7,m0⟩:=law_desk k0
 obtain⟨n,hn⟩:=plain_Move a0 g0 a1 g1 a2 g2 a3 g3
 refine law_calls (mark_law eqOk (by decide +kernel) (Tlaws_FnExactMove u0_0 u0_1 u0_2 u0_3 u0_4 u0_5 u0_6 u0_7 eqOk (by decide +kernel) n a0.1.1.kids a0.1.2.1.kids a0.1.2.2.1.kids a0.1.2.2.2.1.kids a0.1.2.2.2.2.1.kids a0.1.2.2.2.2.2.1.kids a0.1.2.2.2.2.2.2.1.kids a0.1.2.2.2.2.2.2.2.kids a0 a1 a2 a3 true hn)).1 W [v0,v1,v2,v3] (gd_law fun q hq=>?_) (.cons m0 (.cons k1 (.cons k2 (.cons k3 .nil))))
 simp only[List.mem_cons,List.not_mem_nil,or_false] at hq
 rcases hq with rfl | rfl | rfl | rfl | rfl | rfl | rfl | rfl
 ·exact o0_0
 ·exact o0_1
 ·exact o0_2
 ·exact o0_3
 ·exact o0_4
 ·exact o0_5
 ·exact o0_6
 ·exact o0_7
set_option maxRecDepth 100000 in
theorem lifted(os:Os)(started:os.Started)(H:Type)(enc:TypeId×Value→H) :
  ReturnsInHanded {} Tryz.checked os 4 .any (Rows.fnExactMoveSpec.pre6 enc Tryz.prog Tryz.f4 Rows.fnExactMoveRow.domain false) (Rows.fnExactMoveSpec.post enc Tryz.prog Tryz.f4 false true false false):=by
 refine returnsInHanded_of_change_sized (C:=Tryz.checked) own started (by kernel_rfl) Tryz.func4
  (ChangeSpec.witness6 (enc:=enc) (C:=Tryz.checked) false ⟨#[],#[.agg #[.bool false,.int .i64 0,.int .i64 0,.int .i64 0,.int .i64 0,.slice none 0 0,.bool false,.int .i64 0,.int .i64 0,.int .i64 0,.int .i64 0,.slice none 0 0,.bool false,.int .i64 0,.int .i64 0,.int .i64 0,.int .i64 0,.slice none 0 0,.bool false,.int .i64 0,.int .i64 0,.int .i64 0,.int .i64 0,.slice none 0 0,.bool false,.int .i64 0,.int .i64 0,.int .i64 0,.int .i64 0,.slice none 0 0,.bool false,.int .i64 0,.int .i64 0,.int .i64 0,.int .i64 0,.slice none 0 0,.bool false,.int .i64 0,.int .i64 0,.int .i64 0,.int .i64 0,.slice none 0 0,.bool false,.int .i64 0,.int .i64 0,.int .i64 0,.int .i64 0,.slice none 0 0,.bool false,.bool false,.bool false,.bool false,.bool false,.bool false,.bool false,.bool false],.int .i64 0,.int .i64 0,.agg #[.int .i64 0,.int .i64 0,.int .i64 0]],[]⟩ 8 (by kernel_rfl) (by kernel_rfl) (by kernel_rfl) (by kernel_rfl)) ?_
 intro W base args ds gs before hval0 hW hcnd hsz0 _
 have hval:∀(j:Nat) t v,Tryz.f4.params[j]?=some t→args[j]?=some v→Value.okWide Tryz.prog W .any base t v:=hval0
 have hW':=hW
 obtain⟨p,q,hA0,hV,rfl,hfz,hnd⟩:=hW
 have hA:DataW.TrodAll enc Tryz.prog W 0 (fun _=>true) true Tryz.f4.params.toList args.toList ds p:=hA0
 rw[Tryz.params4] at hA hval
 obtain⟨v0,vs0,d0,ds0,p0,q0,hargs,rfl,rfl,h0,r0⟩:=trodAll_cons hA
 obtain⟨v1,vs1,d1,ds1,p1,q1,rfl,rfl,rfl,h1,r1⟩:=trodAll_cons r0
 obtain⟨v2,vs2,d2,ds2,p2,q2,rfl,rfl,rfl,h2,r2⟩:=trodAll_cons r1
 obtain⟨v3,vs3,d3,ds3,p3,q3,rfl,rfl,rfl,h3,r3⟩:=trodAll_cons r2
 obtain⟨rfl,rfl,rfl⟩:=trodAll_nil r3
 obtain rfl:args=#[v0,v1,v2,v3]:=by cases args;simp_all
 obtain⟨rfl,rfl⟩:=trodVars_none hV
 have hlt0:∀x∈p0,x.block<W.heap.size:=fun x hx=>hW'.lt x (by simp[hx])
 obtain⟨a0,g0,k0⟩:=opens_desk deskT (hval 0 30 v0 rfl rfl) h0
 have hlt1:∀x∈p1,x.block<W.heap.size:=fun x hx=>hW'.lt x (by simp[hx])
 obtain⟨a1,g1,k1⟩:=opens_int Tryz.underlying3 (hval 1 3 v1 rfl rfl) h1
 have hlt2:∀x∈p2,x.block<W.heap.size:=fun x hx=>hW'.lt x (by simp[hx])
 obtain⟨a2,g2,k2⟩:=opens_int Tryz.underlying3 (hval 2 3 v2 rfl rfl) h2
 have hlt3:∀x∈p3,x.block<W.heap.size:=fun x hx=>hW'.lt x (by simp[hx])
 obtain⟨a3,g3,k3⟩:=opens_pt ptT (hval 3 46 v3 rfl rfl) h3
 clear hA0 hval0 hsz0
 refine(walk a0 g0 a1 g1 a2 g2 a3 g3 v0 v1 v2 v3 W k0 k1 k2 k3).mono fun e W' ⟨he,bel⟩=>?_
 subst he
 exact⟨_,rfl,_,_,_,[],_,[],hW',trodAll_mk1 (shut_bool Tryz.underlying4 _),(trodAll_cons_mk (Below.trod laidOut (by kernel_rfl) (of_decide_eq_true (by kernel_rfl)) h0 bel hlt0) (trodAll_cons_mk (Below.trod laidOut (by kernel_rfl) (of_decide_eq_true (by kernel_rfl)) h1 bel hlt1) (trodAll_cons_mk (Below.trod laidOut (by kernel_rfl) (of_decide_eq_true (by kernel_rfl)) h2 bel hlt2) (trodAll_cons_mk (Below.trod laidOut (by kernel_rfl) (of_decide_eq_true (by kernel_rfl)) h3 bel hlt3) trodAll_mk0)))),rfl,bel.frame _,fun h=>by cases h⟩
theorem over:Rows.fnExactMoveRow.holds Tryz.pinned (OpenSpec.ofChange Rows.fnExactMoveSpec) :=
 OpenClaim.holds_of_wide 4 Tryz.f4 rfl rfl rfl rfl rfl rfl rfl ⟨rfl,rfl,rfl,rfl,rfl⟩ rfl rfl rfl rfl rfl (by kernel_rfl) Tryz.func4 (by kernel_rfl)
  (of_decide_eq_true (by kernel_rfl)) (by unfold Func.isWrapper;first | (rw[if_pos (by decide +kernel)];kernel_rfl) | (rw[if_neg (by decide +kernel)];exact⟨rfl,rfl⟩))
  (fun os started H enc _=>lifted os started H enc)
theorem proved:Rows.FnExactMoveSaid:=over
end Go.Proofs.YtaaljnljnkdiaaaGreat.fnExactMove
namespace Go.Proofs.YtaaljnljnkdiaaaGreat
theorem fnExactMove_holds:Rows.FnExactMoveSaid:=fnExactMove.proved
end Go.Proofs.YtaaljnljnkdiaaaGreat
