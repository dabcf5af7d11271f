
/- Walks. No condition. -/
import Derived.Test.YtaaljnljnkdiaaaGreatJm
import Derived.Test.YtaaljnljnkdiaaaGreatChecked
namespace Evl.T
open Go Evl Go.Proofs
theorem sj{α:Type}{a b:α}(h:some a=some b):a=b:=Option.some.inj h
theorem bm{α β:Type}{x:Option α}{f:α→Option β}{r:β}(h:x.bind f=some r):∃v,x=some v∧f v=some r:=bind_some h
def eS(x:Sol):AV:=.agg [bl x.inn,i64 x.pl.A,i64 x.pl.B,i64 x.pl.C,i64 x.pl.D,.sl true 6 x.kids.length ((eSol true).f x.kids)]
def eF(x:Sol):AV:=.agg [bl x.inn,i64 x.pl.A,i64 x.pl.B,i64 x.pl.C,i64 x.pl.D,.sl false 6 x.kids.length ((eSol false).f x.kids)]
set_option maxRecDepth 100000
def HF:FuncId→Bool:=fun f=>[4,14,67,129,186].contains f
def HB:Hints:={ mv:=hasP [(11,12),(53,18),(55,24),(57,15),(61,17),(63,23),(70,26),(72,26),(117,26),(122,8),(122,9),(124,23),(128,8),(128,9),(131,43),(131,44),(132,42),(132,43),(233,18)],own:=hasP [(88,1),(122,1),(122,2),(128,1),(128,2),(160,1),(169,1),(183,1),(183,2),(185,2),(185,3)],mt:=hasP [(88,0),(89,0),(90,0),(92,0),(93,0),(102,0),(113,0),(119,0),(125,0),(151,0),(155,0),(160,0),(182,0),(184,0),(185,0),(201,0),(217,0)],eqt:=fun t=>[32,146].contains t }
def H:Hints:=withMarks HB Tryz.prog HF fun _ _=>True
def HL (l:List (Value×AV)):Hints:=HLg HB Tryz.prog HF l
def YL (l:List (Value×AV)):FuncId→List AV→(Nat→Option Box)→AV→(Nat→Option Box)→Prop:=YLg H Tryz.prog l
theorem gv{l:List (Value×AV)}{f:FuncId}{args args':List AV}{bx bx':Nat→Option Box}{r:AV}(h:Big Tryz.prog H (fun _ _ _ _ _=>False) (.call f args' bx r bx'))(ho:OldAs l args args'):Big Tryz.prog (HL l) (YL l) (.call f args bx r bx'):=gvL h ho
def cT30 (a:((Sol×Sol×Sol×Sol×Sol×Sol×Sol×Sol)×(Bool×Bool×Bool×Bool×Bool×Bool×Bool×Bool))):List AV:=[bl a.1.1.inn,i64 a.1.1.pl.A,i64 a.1.1.pl.B,i64 a.1.1.pl.C,i64 a.1.1.pl.D,.sl false 6 a.1.1.kids.length ((eSol false).f a.1.1.kids),bl a.1.2.1.inn,i64 a.1.2.1.pl.A,i64 a.1.2.1.pl.B,i64 a.1.2.1.pl.C,i64 a.1.2.1.pl.D,.sl false 6 a.1.2.1.kids.length ((eSol false).f a.1.2.1.kids),bl a.1.2.2.1.inn,i64 a.1.2.2.1.pl.A,i64 a.1.2.2.1.pl.B,i64 a.1.2.2.1.pl.C,i64 a.1.2.2.1.pl.D,.sl false 6 a.1.2.2.1.kids.length ((eSol false).f a.1.2.2.1.kids),bl a.1.2.2.2.1.inn,i64 a.1.2.2.2.1.pl.A,i64 a.1.2.2.2.1.pl.B,i64 a.1.2.2.2.1.pl.C,i64 a.1.2.2.2.1.pl.D,.sl false 6 a.1.2.2.2.1.kids.length ((eSol false).f a.1.2.2.2.1.kids),bl a.1.2.2.2.2.1.inn,i64 a.1.2.2.2.2.1.pl.A,i64 a.1.2.2.2.2.1.pl.B,i64 a.1.2.2.2.2.1.pl.C,i64 a.1.2.2.2.2.1.pl.D,.sl false 6 a.1.2.2.2.2.1.kids.length ((eSol false).f a.1.2.2.2.2.1.kids),bl a.1.2.2.2.2.2.1.inn,i64 a.1.2.2.2.2.2.1.pl.A,i64 a.1.2.2.2.2.2.1.pl.B,i64 a.1.2.2.2.2.2.1.pl.C,i64 a.1.2.2.2.2.2.1.pl.D,.sl false 6 a.1.2.2.2.2.2.1.kids.length ((eSol false).f a.1.2.2.2.2.2.1.kids),bl a.1.2.2.2.2.2.2.1.inn,i64 a.1.2.2.2.2.2.2.1.pl.A,i64 a.1.2.2.2.2.2.2.1.pl.B,i64 a.1.2.2.2.2.2.2.1.pl.C,i64 a.1.2.2.2.2.2.2.1.pl.D,.sl false 6 a.1.2.2.2.2.2.2.1.kids.length ((eSol false).f a.1.2.2.2.2.2.2.1.kids),bl a.1.2.2.2.2.2.2.2.inn,i64 a.1.2.2.2.2.2.2.2.pl.A,i64 a.1.2.2.2.2.2.2.2.pl.B,i64 a.1.2.2.2.2.2.2.2.pl.C,i64 a.1.2.2.2.2.2.2.2.pl.D,.sl false 6 a.1.2.2.2.2.2.2.2.kids.length ((eSol false).f a.1.2.2.2.2.2.2.2.kids),bl a.2.1,bl a.2.2.1,bl a.2.2.2.1,bl a.2.2.2.2.1,bl a.2.2.2.2.2.1,bl a.2.2.2.2.2.2.1,bl a.2.2.2.2.2.2.2.1,bl a.2.2.2.2.2.2.2.2]
def cT27 (a:(Sol×Sol×Sol×Sol×Sol×Sol×Sol×Sol)):List AV:=[bl a.1.inn,i64 a.1.pl.A,i64 a.1.pl.B,i64 a.1.pl.C,i64 a.1.pl.D,.sl false 6 a.1.kids.length ((eSol false).f a.1.kids),bl a.2.1.inn,i64 a.2.1.pl.A,i64 a.2.1.pl.B,i64 a.2.1.pl.C,i64 a.2.1.pl.D,.sl false 6 a.2.1.kids.length ((eSol false).f a.2.1.kids),bl a.2.2.1.inn,i64 a.2.2.1.pl.A,i64 a.2.2.1.pl.B,i64 a.2.2.1.pl.C,i64 a.2.2.1.pl.D,.sl false 6 a.2.2.1.kids.length ((eSol false).f a.2.2.1.kids),bl a.2.2.2.1.inn,i64 a.2.2.2.1.pl.A,i64 a.2.2.2.1.pl.B,i64 a.2.2.2.1.pl.C,i64 a.2.2.2.1.pl.D,.sl false 6 a.2.2.2.1.kids.length ((eSol false).f a.2.2.2.1.kids),bl a.2.2.2.2.1.inn,i64 a.2.2.2.2.1.pl.A,i64 a.2.2.2.2.1.pl.B,i64 a.2.2.2.2.1.pl.C,i64 a.2.2.2.2.1.pl.D,.sl false 6 a.2.2.2.2.1.kids.length ((eSol false).f a.2.2.2.2.1.kids),bl a.2.2.2.2.2.1.inn,i64 a.2.2.2.2.2.1.pl.A,i64 a.2.2.2.2.2.1.pl.B,i64 a.2.2.2.2.2.1.pl.C,i64 a.2.2.2.2.2.1.pl.D,.sl false 6 a.2.2.2.2.2.1.kids.length ((eSol false).f a.2.2.2.2.2.1.kids),bl a.2.2.2.2.2.2.1.inn,i64 a.2.2.2.2.2.2.1.pl.A,i64 a.2.2.2.2.2.2.1.pl.B,i64 a.2.2.2.2.2.2.1.pl.C,i64 a.2.2.2.2.2.2.1.pl.D,.sl false 6 a.2.2.2.2.2.2.1.kids.length ((eSol false).f a.2.2.2.2.2.2.1.kids),bl a.2.2.2.2.2.2.2.inn,i64 a.2.2.2.2.2.2.2.pl.A,i64 a.2.2.2.2.2.2.2.pl.B,i64 a.2.2.2.2.2.2.2.pl.C,i64 a.2.2.2.2.2.2.2.pl.D,.sl false 6 a.2.2.2.2.2.2.2.kids.length ((eSol false).f a.2.2.2.2.2.2.2.kids)]
def cT36o(a:(Sol×Sol×Sol×Sol×Sol×Sol×Sol×Sol)):List AV:=[bl a.1.inn,i64 a.1.pl.A,i64 a.1.pl.B,i64 a.1.pl.C,i64 a.1.pl.D,.sl true 6 a.1.kids.length ((eSol true).f a.1.kids),bl a.2.1.inn,i64 a.2.1.pl.A,i64 a.2.1.pl.B,i64 a.2.1.pl.C,i64 a.2.1.pl.D,.sl true 6 a.2.1.kids.length ((eSol true).f a.2.1.kids),bl a.2.2.1.inn,i64 a.2.2.1.pl.A,i64 a.2.2.1.pl.B,i64 a.2.2.1.pl.C,i64 a.2.2.1.pl.D,.sl true 6 a.2.2.1.kids.length ((eSol true).f a.2.2.1.kids),bl a.2.2.2.1.inn,i64 a.2.2.2.1.pl.A,i64 a.2.2.2.1.pl.B,i64 a.2.2.2.1.pl.C,i64 a.2.2.2.1.pl.D,.sl true 6 a.2.2.2.1.kids.length ((eSol true).f a.2.2.2.1.kids),bl a.2.2.2.2.1.inn,i64 a.2.2.2.2.1.pl.A,i64 a.2.2.2.2.1.pl.B,i64 a.2.2.2.2.1.pl.C,i64 a.2.2.2.2.1.pl.D,.sl true 6 a.2.2.2.2.1.kids.length ((eSol true).f a.2.2.2.2.1.kids),bl a.2.2.2.2.2.1.inn,i64 a.2.2.2.2.2.1.pl.A,i64 a.2.2.2.2.2.1.pl.B,i64 a.2.2.2.2.2.1.pl.C,i64 a.2.2.2.2.2.1.pl.D,.sl true 6 a.2.2.2.2.2.1.kids.length ((eSol true).f a.2.2.2.2.2.1.kids),bl a.2.2.2.2.2.2.1.inn,i64 a.2.2.2.2.2.2.1.pl.A,i64 a.2.2.2.2.2.2.1.pl.B,i64 a.2.2.2.2.2.2.1.pl.C,i64 a.2.2.2.2.2.2.1.pl.D,.sl true 6 a.2.2.2.2.2.2.1.kids.length ((eSol true).f a.2.2.2.2.2.2.1.kids),bl a.2.2.2.2.2.2.2.inn,i64 a.2.2.2.2.2.2.2.pl.A,i64 a.2.2.2.2.2.2.2.pl.B,i64 a.2.2.2.2.2.2.2.pl.C,i64 a.2.2.2.2.2.2.2.pl.D,.sl true 6 a.2.2.2.2.2.2.2.kids.length ((eSol true).f a.2.2.2.2.2.2.2.kids)]
def cT38o(a:((Sol×Sol×Sol×Sol×Sol×Sol×Sol×Sol)×(Bool×Bool×Bool×Bool×Bool×Bool×Bool×Bool))):List AV:=[bl a.1.1.inn,i64 a.1.1.pl.A,i64 a.1.1.pl.B,i64 a.1.1.pl.C,i64 a.1.1.pl.D,.sl true 6 a.1.1.kids.length ((eSol true).f a.1.1.kids),bl a.1.2.1.inn,i64 a.1.2.1.pl.A,i64 a.1.2.1.pl.B,i64 a.1.2.1.pl.C,i64 a.1.2.1.pl.D,.sl true 6 a.1.2.1.kids.length ((eSol true).f a.1.2.1.kids),bl a.1.2.2.1.inn,i64 a.1.2.2.1.pl.A,i64 a.1.2.2.1.pl.B,i64 a.1.2.2.1.pl.C,i64 a.1.2.2.1.pl.D,.sl true 6 a.1.2.2.1.kids.length ((eSol true).f a.1.2.2.1.kids),bl a.1.2.2.2.1.inn,i64 a.1.2.2.2.1.pl.A,i64 a.1.2.2.2.1.pl.B,i64 a.1.2.2.2.1.pl.C,i64 a.1.2.2.2.1.pl.D,.sl true 6 a.1.2.2.2.1.kids.length ((eSol true).f a.1.2.2.2.1.kids),bl a.1.2.2.2.2.1.inn,i64 a.1.2.2.2.2.1.pl.A,i64 a.1.2.2.2.2.1.pl.B,i64 a.1.2.2.2.2.1.pl.C,i64 a.1.2.2.2.2.1.pl.D,.sl true 6 a.1.2.2.2.2.1.kids.length ((eSol true).f a.1.2.2.2.2.1.kids),bl a.1.2.2.2.2.2.1.inn,i64 a.1.2.2.2.2.2.1.pl.A,i64 a.1.2.2.2.2.2.1.pl.B,i64 a.1.2.2.2.2.2.1.pl.C,i64 a.1.2.2.2.2.2.1.pl.D,.sl true 6 a.1.2.2.2.2.2.1.kids.length ((eSol true).f a.1.2.2.2.2.2.1.kids),bl a.1.2.2.2.2.2.2.1.inn,i64 a.1.2.2.2.2.2.2.1.pl.A,i64 a.1.2.2.2.2.2.2.1.pl.B,i64 a.1.2.2.2.2.2.2.1.pl.C,i64 a.1.2.2.2.2.2.2.1.pl.D,.sl true 6 a.1.2.2.2.2.2.2.1.kids.length ((eSol true).f a.1.2.2.2.2.2.2.1.kids),bl a.1.2.2.2.2.2.2.2.inn,i64 a.1.2.2.2.2.2.2.2.pl.A,i64 a.1.2.2.2.2.2.2.2.pl.B,i64 a.1.2.2.2.2.2.2.2.pl.C,i64 a.1.2.2.2.2.2.2.2.pl.D,.sl true 6 a.1.2.2.2.2.2.2.2.kids.length ((eSol true).f a.1.2.2.2.2.2.2.2.kids),bl a.2.1,bl a.2.2.1,bl a.2.2.2.1,bl a.2.2.2.2.1,bl a.2.2.2.2.2.1,bl a.2.2.2.2.2.2.1,bl a.2.2.2.2.2.2.2.1,bl a.2.2.2.2.2.2.2.2]
def cT38 (a:((Sol×Sol×Sol×Sol×Sol×Sol×Sol×Sol)×(Bool×Bool×Bool×Bool×Bool×Bool×Bool×Bool))):List AV:=[bl a.1.1.inn,i64 a.1.1.pl.A,i64 a.1.1.pl.B,i64 a.1.1.pl.C,i64 a.1.1.pl.D,.sl false 6 a.1.1.kids.length ((eSol false).f a.1.1.kids),bl a.1.2.1.inn,i64 a.1.2.1.pl.A,i64 a.1.2.1.pl.B,i64 a.1.2.1.pl.C,i64 a.1.2.1.pl.D,.sl false 6 a.1.2.1.kids.length ((eSol false).f a.1.2.1.kids),bl a.1.2.2.1.inn,i64 a.1.2.2.1.pl.A,i64 a.1.2.2.1.pl.B,i64 a.1.2.2.1.pl.C,i64 a.1.2.2.1.pl.D,.sl false 6 a.1.2.2.1.kids.length ((eSol false).f a.1.2.2.1.kids),bl a.1.2.2.2.1.inn,i64 a.1.2.2.2.1.pl.A,i64 a.1.2.2.2.1.pl.B,i64 a.1.2.2.2.1.pl.C,i64 a.1.2.2.2.1.pl.D,.sl false 6 a.1.2.2.2.1.kids.length ((eSol false).f a.1.2.2.2.1.kids),bl a.1.2.2.2.2.1.inn,i64 a.1.2.2.2.2.1.pl.A,i64 a.1.2.2.2.2.1.pl.B,i64 a.1.2.2.2.2.1.pl.C,i64 a.1.2.2.2.2.1.pl.D,.sl false 6 a.1.2.2.2.2.1.kids.length ((eSol false).f a.1.2.2.2.2.1.kids),bl a.1.2.2.2.2.2.1.inn,i64 a.1.2.2.2.2.2.1.pl.A,i64 a.1.2.2.2.2.2.1.pl.B,i64 a.1.2.2.2.2.2.1.pl.C,i64 a.1.2.2.2.2.2.1.pl.D,.sl false 6 a.1.2.2.2.2.2.1.kids.length ((eSol false).f a.1.2.2.2.2.2.1.kids),bl a.1.2.2.2.2.2.2.1.inn,i64 a.1.2.2.2.2.2.2.1.pl.A,i64 a.1.2.2.2.2.2.2.1.pl.B,i64 a.1.2.2.2.2.2.2.1.pl.C,i64 a.1.2.2.2.2.2.2.1.pl.D,.sl false 6 a.1.2.2.2.2.2.2.1.kids.length ((eSol false).f a.1.2.2.2.2.2.2.1.kids),bl a.1.2.2.2.2.2.2.2.inn,i64 a.1.2.2.2.2.2.2.2.pl.A,i64 a.1.2.2.2.2.2.2.2.pl.B,i64 a.1.2.2.2.2.2.2.2.pl.C,i64 a.1.2.2.2.2.2.2.2.pl.D,.sl false 6 a.1.2.2.2.2.2.2.2.kids.length ((eSol false).f a.1.2.2.2.2.2.2.2.kids),bl a.2.1,bl a.2.2.1,bl a.2.2.2.1,bl a.2.2.2.2.1,bl a.2.2.2.2.2.1,bl a.2.2.2.2.2.2.1,bl a.2.2.2.2.2.2.2.1,bl a.2.2.2.2.2.2.2.2]
def cT36 (a:(Sol×Sol×Sol×Sol×Sol×Sol×Sol×Sol)):List AV:=[bl a.1.inn,i64 a.1.pl.A,i64 a.1.pl.B,i64 a.1.pl.C,i64 a.1.pl.D,.sl false 6 a.1.kids.length ((eSol false).f a.1.kids),bl a.2.1.inn,i64 a.2.1.pl.A,i64 a.2.1.pl.B,i64 a.2.1.pl.C,i64 a.2.1.pl.D,.sl false 6 a.2.1.kids.length ((eSol false).f a.2.1.kids),bl a.2.2.1.inn,i64 a.2.2.1.pl.A,i64 a.2.2.1.pl.B,i64 a.2.2.1.pl.C,i64 a.2.2.1.pl.D,.sl false 6 a.2.2.1.kids.length ((eSol false).f a.2.2.1.kids),bl a.2.2.2.1.inn,i64 a.2.2.2.1.pl.A,i64 a.2.2.2.1.pl.B,i64 a.2.2.2.1.pl.C,i64 a.2.2.2.1.pl.D,.sl false 6 a.2.2.2.1.kids.length ((eSol false).f a.2.2.2.1.kids),bl a.2.2.2.2.1.inn,i64 a.2.2.2.2.1.pl.A,i64 a.2.2.2.2.1.pl.B,i64 a.2.2.2.2.1.pl.C,i64 a.2.2.2.2.1.pl.D,.sl false 6 a.2.2.2.2.1.kids.length ((eSol false).f a.2.2.2.2.1.kids),bl a.2.2.2.2.2.1.inn,i64 a.2.2.2.2.2.1.pl.A,i64 a.2.2.2.2.2.1.pl.B,i64 a.2.2.2.2.2.1.pl.C,i64 a.2.2.2.2.2.1.pl.D,.sl false 6 a.2.2.2.2.2.1.kids.length ((eSol false).f a.2.2.2.2.2.1.kids),bl a.2.2.2.2.2.2.1.inn,i64 a.2.2.2.2.2.2.1.pl.A,i64 a.2.2.2.2.2.2.1.pl.B,i64 a.2.2.2.2.2.2.1.pl.C,i64 a.2.2.2.2.2.2.1.pl.D,.sl false 6 a.2.2.2.2.2.2.1.kids.length ((eSol false).f a.2.2.2.2.2.2.1.kids),bl a.2.2.2.2.2.2.2.inn,i64 a.2.2.2.2.2.2.2.pl.A,i64 a.2.2.2.2.2.2.2.pl.B,i64 a.2.2.2.2.2.2.2.pl.C,i64 a.2.2.2.2.2.2.2.pl.D,.sl false 6 a.2.2.2.2.2.2.2.kids.length ((eSol false).f a.2.2.2.2.2.2.2.kids)]
def Dlaws_szSolidS_in_0(_n:Nat)(self:(Sol×Int)→Option Int)(t0:List Sol)(rec0:(Int×Int)→Option Int)(a:(Int×Int)):Option Int :=
 match a with
 | (t1,t5)=>frk (decide (t5<(t0.length:Int))) ((lget t0 t5).bind fun v0=>(self (v0,t1)).bind fun v1=>frk (decide (v1<0)) (some (-1)) (rec0 (v1,w64 (t5+1)))) (some t1)
theorem Tlaws_szSolidS_in_0{Y}(n:Nat)(self:(Sol×Int)→Option Int)(hself:∀(a:(Sol×Int)) (r:Int),self a=some r→Big Tryz.prog H Y (.call 19 [eF a.1,i64 a.2] (lk []) (i64 r) (lk [])))(t0:List Sol):∀(m:Nat) (a:(Int×Int)) (r:Int),loopN (Dlaws_szSolidS_in_0 n self t0) m a=some r→Wk Tryz.prog H Y 73 [.code (cp [1,1,1,0,1,0] (bodyOf Tryz.f73)),.blk 0,.code (cp [1,1,1,1] (bodyOf Tryz.f73))] (FinX Tryz.prog Tryz.f73 [] (i64 r) []) ⟨[(0,.sl false 6 t0.length ((eSol false).f t0)),(1,i64 a.1),(5,i64 a.2)],[]⟩:=by
 refine loopN_ind (fun _rec0 hrec0 a r h=>?_)
 obtain⟨t1,t5⟩:=a
 unfold Dlaws_szSolidS_in_0 at h
 refine x_frk 9 [] onil h (by kernel_rfl) (fun h=>?_) (fun h=>?_)
 ·obtain⟨v0,y0,h⟩:=bm h
  obtain⟨v1,y1,h⟩:=bm h
  refine x_frk 18 [(2,.val (.cptr ((eSol false).c v0++(eSol false).f ((t0).drop (Int.toNat t5+1))))),(2,.call [] [] (i64 v1) [])] (ocons (ix (eSol false) y0) (ocons (hself (v0,t1) _ y1) onil)) h (by kernel_rfl) (fun h=>?_) (fun h=>?_)
  ·replace h:=sj h;subst h
   exact x_end 4 [] [] onil onil 
  ·exact x_to 8 [] onil (hrec0 (v1,w64 (t5+1)) r h) 
 ·replace h:=sj h;subst h
  exact x_end 6 [] [] onil onil 
def Dlaws_szSolidS_in(n:Nat)(self:(Sol×Int)→Option Int)(a0:(List Sol))(a1:Int):Option Int :=
 frk (decide ((w64 (a1-(a0.length:Int)))<0)) (some (-1)) (loopN (Dlaws_szSolidS_in_0 n self a0) n (w64 (a1-(a0.length:Int)),0))
theorem Tlaws_szSolidS_in{Y}(n:Nat)(self:(Sol×Int)→Option Int)(hself:∀(a:(Sol×Int)) (r:Int),self a=some r→Big Tryz.prog H Y (.call 19 [eF a.1,i64 a.2] (lk []) (i64 r) (lk [])))(a0:(List Sol))(a1 r:Int)(h:Dlaws_szSolidS_in n self a0 a1=some r):Big Tryz.prog H Y (.call 73 [.sl false 6 a0.length ((eSol false).f a0),i64 a1] (lk []) (i64 r) (lk [])):=by
 unfold Dlaws_szSolidS_in at h
 refine x_call (fn:=Tryz.f73) (c:=bodyOf Tryz.f73) (bs0:=[]) Tryz.func73 (by kernel_rfl) (by kernel_rfl) ?_
 refine x_frk 18 [] onil h (by kernel_rfl) (fun h=>?_) (fun h=>?_)
 ·replace h:=sj h;subst h
  exact x_end 4 [] [] onil onil 
 ·exact x_to 7 [] onil (Tlaws_szSolidS_in_0 n self hself a0 n (w64 (a1-(a0.length:Int)),0) r h) 
def Dlaws_szSolid_b(n:Nat)(self:(Sol×Int)→Option Int)(a:(Sol×Int)):Option Int :=
 match a with
 | (a0,a1)=>(Dlaws_szSolidS_in n self a0.kids a1).bind fun v0=>frk (decide (v0<0)) (some (-1)) (some v0)
def Dlaws_szSolid(n:Nat)(a0:Sol)(a1:Int):Option Int:=loopN (Dlaws_szSolid_b n) n (a0,a1)
theorem Tlaws_szSolid_b{Y}(n:Nat):∀(m:Nat) (a:(Sol×Int)) (r:Int),loopN (Dlaws_szSolid_b n) m a=some r→∀(_:Unit),Big Tryz.prog H Y (.call 19 [eF a.1,i64 a.2] (lk []) (i64 r) (lk [])):=by
 refine loopN_ind (fun self hs a r h=>?_)
 have hself:∀(a:(Sol×Int)) (r:Int),self a=some r→Big Tryz.prog H Y (.call 19 [eF a.1,i64 a.2] (lk []) (i64 r) (lk [])):=fun a r h=>hs a r h ()
 intro _
 obtain⟨a0,a1⟩:=a
 unfold Dlaws_szSolid_b at h
 refine x_call (fn:=Tryz.f19) (c:=bodyOf Tryz.f19) (bs0:=[]) Tryz.func19 (by kernel_rfl) (by kernel_rfl) ?_
 obtain⟨v0,y0,h⟩:=bm h
 refine x_frk 19 [(5,.call [] [] (i64 v0) [])] (ocons (Tlaws_szSolidS_in (Y:=Y) n self hself a0.kids a1 _ y0) onil) h (by kernel_rfl) (fun h=>?_) (fun h=>?_)
 ·replace h:=sj h;subst h
  exact x_end 4 [] [] onil onil 
 ·replace h:=sj h;subst h
  exact x_end 6 [] [] onil onil 
theorem Tlaws_szSolid{Y}(n:Nat)(a0:Sol)(a1 r:Int)(h:Dlaws_szSolid n a0 a1=some r):Big Tryz.prog H Y (.call 19 [eF a0,i64 a1] (lk []) (i64 r) (lk [])):=Tlaws_szSolid_b n n (a0,a1) r h ()
def Dlaws_szSolidA8(n:Nat)(a0:(Sol×Sol×Sol×Sol×Sol×Sol×Sol×Sol))(a1:Int):Option Int :=
 (Dlaws_szSolid n a0.1 a1).bind fun v0=>frk (decide (v0<0)) (some (-1)) ((Dlaws_szSolid n a0.2.1 v0).bind fun v1=>frk (decide (v1<0)) (some (-1)) ((Dlaws_szSolid n a0.2.2.1 v1).bind fun v2=>frk (decide (v2<0)) (some (-1)) ((Dlaws_szSolid n a0.2.2.2.1 v2).bind fun v3=>frk (decide (v3<0)) (some (-1)) ((Dlaws_szSolid n a0.2.2.2.2.1 v3).bind fun v4=>frk (decide (v4<0)) (some (-1)) ((Dlaws_szSolid n a0.2.2.2.2.2.1 v4).bind fun v5=>frk (decide (v5<0)) (some (-1)) ((Dlaws_szSolid n a0.2.2.2.2.2.2.1 v5).bind fun v6=>frk (decide (v6<0)) (some (-1)) ((Dlaws_szSolid n a0.2.2.2.2.2.2.2 v6).bind fun v7=>frk (decide (v7<0)) (some (-1)) (some v7))))))))
theorem Tlaws_szSolidA8{Y}(n:Nat)(a0:(Sol×Sol×Sol×Sol×Sol×Sol×Sol×Sol))(a1 r:Int)(h:Dlaws_szSolidA8 n a0 a1=some r):Big Tryz.prog H Y (.call 49 [.agg (cT27 a0),i64 a1] (lk []) (i64 r) (lk [])):=by
 unfold Dlaws_szSolidA8 at h
 refine x_call (fn:=Tryz.f49) (c:=bodyOf Tryz.f49) (bs0:=[]) Tryz.func49 (by kernel_rfl) (by kernel_rfl) ?_
 obtain⟨v0,y0,h⟩:=bm h
 refine x_frk 36 [(9,.call [] [] (i64 v0) [])] (ocons (Tlaws_szSolid (Y:=Y) n a0.1 a1 _ y0) onil) h (by kernel_rfl) (fun h=>?_) (fun h=>?_)
 ·replace h:=sj h;subst h
  exact x_end 4 [] [] onil onil 
 ·obtain⟨v1,y1,h⟩:=bm h
  refine x_frk 33 [(9,.call [] [] (i64 v1) [])] (ocons (Tlaws_szSolid (Y:=Y) n a0.2.1 v0 _ y1) onil) h (by kernel_rfl) (fun h=>?_) (fun h=>?_)
  ·replace h:=sj h;subst h
   exact x_end 4 [] [] onil onil 
  ·obtain⟨v2,y2,h⟩:=bm h
   refine x_frk 33 [(9,.call [] [] (i64 v2) [])] (ocons (Tlaws_szSolid (Y:=Y) n a0.2.2.1 v1 _ y2) onil) h (by kernel_rfl) (fun h=>?_) (fun h=>?_)
   ·replace h:=sj h;subst h
    exact x_end 4 [] [] onil onil 
   ·obtain⟨v3,y3,h⟩:=bm h
    refine x_frk 33 [(9,.call [] [] (i64 v3) [])] (ocons (Tlaws_szSolid (Y:=Y) n a0.2.2.2.1 v2 _ y3) onil) h (by kernel_rfl) (fun h=>?_) (fun h=>?_)
    ·replace h:=sj h;subst h
     exact x_end 4 [] [] onil onil 
    ·obtain⟨v4,y4,h⟩:=bm h
     refine x_frk 33 [(9,.call [] [] (i64 v4) [])] (ocons (Tlaws_szSolid (Y:=Y) n a0.2.2.2.2.1 v3 _ y4) onil) h (by kernel_rfl) (fun h=>?_) (fun h=>?_)
     ·replace h:=sj h;subst h
      exact x_end 4 [] [] onil onil 
     ·obtain⟨v5,y5,h⟩:=bm h
      refine x_frk 33 [(9,.call [] [] (i64 v5) [])] (ocons (Tlaws_szSolid (Y:=Y) n a0.2.2.2.2.2.1 v4 _ y5) onil) h (by kernel_rfl) (fun h=>?_) (fun h=>?_)
      ·replace h:=sj h;subst h
       exact x_end 4 [] [] onil onil 
      ·obtain⟨v6,y6,h⟩:=bm h
       refine x_frk 33 [(9,.call [] [] (i64 v6) [])] (ocons (Tlaws_szSolid (Y:=Y) n a0.2.2.2.2.2.2.1 v5 _ y6) onil) h (by kernel_rfl) (fun h=>?_) (fun h=>?_)
       ·replace h:=sj h;subst h
        exact x_end 4 [] [] onil onil 
       ·obtain⟨v7,y7,h⟩:=bm h
        refine x_frk 33 [(9,.call [] [] (i64 v7) [])] (ocons (Tlaws_szSolid (Y:=Y) n a0.2.2.2.2.2.2.2 v6 _ y7) onil) h (by kernel_rfl) (fun h=>?_) (fun h=>?_)
        ·replace h:=sj h;subst h
         exact x_end 4 [] [] onil onil 
        ·replace h:=sj h;subst h
         exact x_end 22 [] [] onil onil 
def Dlaws_szDesk(n:Nat)(a0:Dsk)(a1:Int):Option Int :=
 (Dlaws_szSolidA8 n a0.1 a1).bind fun v0=>frk (decide (v0<0)) (some (-1)) (some v0)
theorem Tlaws_szDesk{Y}(n:Nat)(a0:Dsk)(a1 r:Int)(h:Dlaws_szDesk n a0 a1=some r):Big Tryz.prog H Y (.call 9 [.agg (cT30 a0),i64 a1] (lk []) (i64 r) (lk [])):=by
 unfold Dlaws_szDesk at h
 refine x_call (fn:=Tryz.f9) (c:=bodyOf Tryz.f9) (bs0:=[]) Tryz.func9 (by kernel_rfl) (by kernel_rfl) ?_
 obtain⟨v0,y0,h⟩:=bm h
 refine x_frk 19 [(5,.call [] [] (i64 v0) [])] (ocons (Tlaws_szSolidA8 (Y:=Y) n a0.1 a1 _ y0) onil) h (by kernel_rfl) (fun h=>?_) (fun h=>?_)
 ·replace h:=sj h;subst h
  exact x_end 4 [] [] onil onil 
 ·replace h:=sj h;subst h
  exact x_end 6 [] [] onil onil 
def Dlaws_toPlane(a0:Pl):Option Pl :=
 some a0
theorem Tlaws_toPlane{Y}(a0:Pl)(r:Pl)(h:Dlaws_toPlane a0=some r):Big Tryz.prog H Y (.call 80 [.agg [i64 a0.A,i64 a0.B,i64 a0.C,i64 a0.D]] (lk []) (.agg [i64 r.A,i64 r.B,i64 r.C,i64 r.D]) (lk [])):=by
 unfold Dlaws_toPlane at h
 refine x_call (fn:=Tryz.f80) (c:=bodyOf Tryz.f80) (bs0:=[]) Tryz.func80 (by kernel_rfl) (by kernel_rfl) ?_
 replace h:=sj h;subst h
 exact x_end 42 [] [] onil onil 
def Dlaws_toSolidS_in_0(_n:Nat)(self:Sol→Option Sol)(t0:List Sol)(rec0:(Int×List Sol)→Option (List Sol))(a:(Int×List Sol)):Option (List Sol) :=
 match a with
 | (t4,l7)=>frk (decide (t4<(t0.length:Int))) ((lget t0 t4).bind fun v1=>(self v1).bind fun v2=>(lget l7 t4).bind fun _v3=>rec0 (w64 (t4+1),(l7.set (Int.toNat t4) v2))) (some l7)
theorem Tlaws_toSolidS_in_0{Y}(n:Nat)(self:Sol→Option Sol)(hself:∀(a:Sol) (r:Sol),self a=some r→Big Tryz.prog H Y (.call 21 [eF a] (lk []) (eS r) (lk [])))(t0:List Sol):∀(m:Nat) (a:(Int×List Sol)) (r:(List Sol)),loopN (Dlaws_toSolidS_in_0 n self t0) m a=some r→Wk Tryz.prog H Y 81 [.code (cp [1,1,0,1,0] (bodyOf Tryz.f81)),.blk 0,.code (cp [1,1,1] (bodyOf Tryz.f81))] (FinX Tryz.prog Tryz.f81 [] (.sl true 6 r.length ((eSol true).f r)) []) ⟨[(0,.sl false 6 t0.length ((eSol false).f t0)),(3,.msl 7 a.2.length),(4,i64 a.1)],[(7,⟨true,6,(eSol true).f a.2⟩)]⟩:=by
 refine loopN_ind (fun _rec0 hrec0 a r h=>?_)
 obtain⟨t4,l7⟩:=a
 unfold Dlaws_toSolidS_in_0 at h
 refine x_frk 9 [] onil h (by kernel_rfl) (fun h=>?_) (fun h=>?_)
 ·obtain⟨v1,y1,h⟩:=bm h
  obtain⟨v2,y2,h⟩:=bm h
  obtain⟨_v3,y3,h⟩:=bm h
  exact x_to 23 [(4,.val (.cptr ((eSol false).c v1++(eSol false).f ((t0).drop (Int.toNat t4+1))))),(1,.call [] [] (eS v2) []),(0,.unit),(0,.cells ((eSol true).f (l7.set (Int.toNat t4) v2))),(0,.fix 3 (.msl 7 (l7.set (Int.toNat t4) v2).length)),(0,.fix 14 (.msl 7 (l7.set (Int.toNat t4) v2).length))] (ocons (ix (eSol false) y1) (ocons (hself v1 _ y2) (ocons (inr y3) (ocons (stA (eSol true) y3 0 6 [bl v2.inn,i64 v2.pl.A,i64 v2.pl.B,i64 v2.pl.C,i64 v2.pl.D,.sl true 6 v2.kids.length ((eSol true).f v2.kids)] v2 rfl rfl) (ocons (setLen 7 l7 (Int.toNat t4) v2) (ocons (setLen 7 l7 (Int.toNat t4) v2) onil)))))) (hrec0 (w64 (t4+1),(l7.set (Int.toNat t4) v2)) r h) 
 ·replace h:=sj h;subst h
  exact x_end 6 [] [] onil (ocons (len_row (L:=l7) (eSol true)) onil) 
def Dlaws_toSolidS_in(n:Nat)(self:Sol→Option Sol)(a0:(List Sol)):Option (List Sol) :=
 chk (mkB (a0.length:Int) 64) (loopN (Dlaws_toSolidS_in_0 n self a0) n (0,(List.replicate (Int.toNat (a0.length:Int)) zSol)))
theorem Tlaws_toSolidS_in{Y}(n:Nat)(self:Sol→Option Sol)(hself:∀(a:Sol) (r:Sol),self a=some r→Big Tryz.prog H Y (.call 21 [eF a] (lk []) (eS r) (lk [])))(a0:(List Sol))(r:(List Sol))(h:Dlaws_toSolidS_in n self a0=some r):Big Tryz.prog H Y (.call 81 [.sl false 6 a0.length ((eSol false).f a0)] (lk []) (.sl true 6 r.length ((eSol true).f r)) (lk [])):=by
 unfold Dlaws_toSolidS_in at h
 refine x_call (fn:=Tryz.f81) (c:=bodyOf Tryz.f81) (bs0:=[]) Tryz.func81 (by kernel_rfl) (by kernel_rfl) ?_
 obtain⟨c0,h⟩:=chk_some h
 exact x_to 20 [(3,.mk (List.replicate (Int.toNat (a0.length:Int)) ()).length (eZs.f (List.replicate (Int.toNat (a0.length:Int)) ()))),(1,.wkb 7 ⟨true,6,eZs.f (List.replicate (Int.toNat (a0.length:Int)) ())⟩ ⟨true,6,(eSol true).f (List.replicate (Int.toNat (a0.length:Int)) zSol)⟩),(0,.fix 3 (.msl 7 (List.replicate (Int.toNat (a0.length:Int)) zSol).length)),(0,.fix 7 (.msl 7 (List.replicate (Int.toNat (a0.length:Int)) zSol).length))] (ocons (rflI (a0.length:Int)) (ocons (mkOk eZs c0 () rfl) (ocons (rflB ⟨true,6,eZs.f (List.replicate (Int.toNat (a0.length:Int)) ())⟩) (ocons (wkZs true true (Int.toNat (a0.length:Int))) (ocons (congrArg (AV.msl 7) (zLen (Int.toNat (a0.length:Int)))) (ocons (congrArg (AV.msl 7) (zLen (Int.toNat (a0.length:Int)))) onil)))))) (Tlaws_toSolidS_in_0 n self hself a0 n (0,(List.replicate (Int.toNat (a0.length:Int)) zSol)) r h) 
def Dlaws_toSolid_b(n:Nat)(self:Sol→Option Sol)(a:Sol):Option Sol :=
 match a with
 | a0=>(Dlaws_toPlane a0.pl).bind fun v0=>(Dlaws_toSolidS_in n self a0.kids).bind fun v1=>some (Sol.mk a0.inn v0 v1)
def Dlaws_toSolid(n:Nat)(a0:Sol):Option Sol:=loopN (Dlaws_toSolid_b n) n a0
theorem Tlaws_toSolid_b{Y}(n:Nat):∀(m:Nat) (a:Sol) (r:Sol),loopN (Dlaws_toSolid_b n) m a=some r→∀(_:Unit),Big Tryz.prog H Y (.call 21 [eF a] (lk []) (eS r) (lk [])):=by
 refine loopN_ind (fun self hs a r h=>?_)
 have hself:∀(a:Sol) (r:Sol),self a=some r→Big Tryz.prog H Y (.call 21 [eF a] (lk []) (eS r) (lk [])):=fun a r h=>hs a r h ()
 intro _
 obtain⟨a0,rfl⟩:∃x,x=a:=⟨a,rfl⟩
 unfold Dlaws_toSolid_b at h
 refine x_call (fn:=Tryz.f21) (c:=bodyOf Tryz.f21) (bs0:=[]) Tryz.func21 (by kernel_rfl) (by kernel_rfl) ?_
 obtain⟨v0,y0,h⟩:=bm h
 obtain⟨v1,y1,h⟩:=bm h
 replace h:=sj h;subst h
 exact x_end 37 [(9,.call [] [] (.agg [i64 v0.A,i64 v0.B,i64 v0.C,i64 v0.D]) []),(4,.call [] [] (.sl true 6 v1.length ((eSol true).f v1)) [])] [] (ocons (Tlaws_toPlane (Y:=Y) a0.pl _ y0) (ocons (Tlaws_toSolidS_in (Y:=Y) n self hself a0.kids _ y1) onil)) (ocons (len_row (L:=v1) (eSol true)) onil) 
theorem Tlaws_toSolid{Y}(n:Nat)(a0:Sol)(r:Sol)(h:Dlaws_toSolid n a0=some r):Big Tryz.prog H Y (.call 21 [eF a0] (lk []) (eS r) (lk [])):=Tlaws_toSolid_b n n a0 r h ()
def Dlaws_toSolidA8(n:Nat)(a0:(Sol×Sol×Sol×Sol×Sol×Sol×Sol×Sol)):Option (Sol×Sol×Sol×Sol×Sol×Sol×Sol×Sol) :=
 (Dlaws_toSolid n a0.1).bind fun v0=>(Dlaws_toSolid n a0.2.1).bind fun v1=>(Dlaws_toSolid n a0.2.2.1).bind fun v2=>(Dlaws_toSolid n a0.2.2.2.1).bind fun v3=>(Dlaws_toSolid n a0.2.2.2.2.1).bind fun v4=>(Dlaws_toSolid n a0.2.2.2.2.2.1).bind fun v5=>(Dlaws_toSolid n a0.2.2.2.2.2.2.1).bind fun v6=>(Dlaws_toSolid n a0.2.2.2.2.2.2.2).bind fun v7=>some (v0,v1,v2,v3,v4,v5,v6,v7)
theorem Tlaws_toSolidA8{Y}(n:Nat)(a0:(Sol×Sol×Sol×Sol×Sol×Sol×Sol×Sol))(r:(Sol×Sol×Sol×Sol×Sol×Sol×Sol×Sol))(h:Dlaws_toSolidA8 n a0=some r):Big Tryz.prog H Y (.call 57 [.agg (cT27 a0)] (lk []) (.agg (cT36o r)) (lk [])):=by
 unfold Dlaws_toSolidA8 at h
 refine x_call (fn:=Tryz.f57) (c:=bodyOf Tryz.f57) (bs0:=[]) Tryz.func57 (by kernel_rfl) (by kernel_rfl) ?_
 obtain⟨v0,y0,h⟩:=bm h
 obtain⟨v1,y1,h⟩:=bm h
 obtain⟨v2,y2,h⟩:=bm h
 obtain⟨v3,y3,h⟩:=bm h
 obtain⟨v4,y4,h⟩:=bm h
 obtain⟨v5,y5,h⟩:=bm h
 obtain⟨v6,y6,h⟩:=bm h
 obtain⟨v7,y7,h⟩:=bm h
 replace h:=sj h;subst h
 exact x_end 245 [(10,.call [] [] (eS v0) []),(11,.call [] [] (eS v1) []),(11,.call [] [] (eS v2) []),(11,.call [] [] (eS v3) []),(11,.call [] [] (eS v4) []),(11,.call [] [] (eS v5) []),(11,.call [] [] (eS v6) []),(11,.call [] [] (eS v7) [])] [] (ocons (Tlaws_toSolid (Y:=Y) n a0.1 _ y0) (ocons (Tlaws_toSolid (Y:=Y) n a0.2.1 _ y1) (ocons (Tlaws_toSolid (Y:=Y) n a0.2.2.1 _ y2) (ocons (Tlaws_toSolid (Y:=Y) n a0.2.2.2.1 _ y3) (ocons (Tlaws_toSolid (Y:=Y) n a0.2.2.2.2.1 _ y4) (ocons (Tlaws_toSolid (Y:=Y) n a0.2.2.2.2.2.1 _ y5) (ocons (Tlaws_toSolid (Y:=Y) n a0.2.2.2.2.2.2.1 _ y6) (ocons (Tlaws_toSolid (Y:=Y) n a0.2.2.2.2.2.2.2 _ y7) onil)))))))) onil 
def Dlaws_toBoolA8(_n:Nat)(a0:(Bool×Bool×Bool×Bool×Bool×Bool×Bool×Bool)):Option (Bool×Bool×Bool×Bool×Bool×Bool×Bool×Bool) :=
 some a0
theorem Tlaws_toBoolA8{Y}(n:Nat)(a0:(Bool×Bool×Bool×Bool×Bool×Bool×Bool×Bool))(r:(Bool×Bool×Bool×Bool×Bool×Bool×Bool×Bool))(h:Dlaws_toBoolA8 n a0=some r):Big Tryz.prog H Y (.call 58 [.agg [bl a0.1,bl a0.2.1,bl a0.2.2.1,bl a0.2.2.2.1,bl a0.2.2.2.2.1,bl a0.2.2.2.2.2.1,bl a0.2.2.2.2.2.2.1,bl a0.2.2.2.2.2.2.2]] (lk []) (.agg [bl r.1,bl r.2.1,bl r.2.2.1,bl r.2.2.2.1,bl r.2.2.2.2.1,bl r.2.2.2.2.2.1,bl r.2.2.2.2.2.2.1,bl r.2.2.2.2.2.2.2]) (lk [])):=by
 unfold Dlaws_toBoolA8 at h
 refine x_call (fn:=Tryz.f58) (c:=bodyOf Tryz.f58) (bs0:=[]) Tryz.func58 (by kernel_rfl) (by kernel_rfl) ?_
 replace h:=sj h;subst h
 exact x_end 237 [] [] onil onil 
def Dlaws_toDesk(n:Nat)(a0:Dsk):Option Dsk :=
 (Dlaws_toSolidA8 n a0.1).bind fun v0=>(Dlaws_toBoolA8 n a0.2).bind fun v1=>some (v0,v1)
theorem Tlaws_toDesk{Y}(n:Nat)(a0:Dsk)(r:Dsk)(h:Dlaws_toDesk n a0=some r):Big Tryz.prog H Y (.call 11 [.agg (cT30 a0)] (lk []) (.agg (cT38o r)) (lk [])):=by
 unfold Dlaws_toDesk at h
 refine x_call (fn:=Tryz.f11) (c:=bodyOf Tryz.f11) (bs0:=[]) Tryz.func11 (by kernel_rfl) (by kernel_rfl) ?_
 obtain⟨v0,y0,h⟩:=bm h
 obtain⟨v1,y1,h⟩:=bm h
 replace h:=sj h;subst h
 exact x_end 30 [(5,.call [] [] (.agg (cT36o v0)) []),(4,.call [] [] (.agg [bl v1.1,bl v1.2.1,bl v1.2.2.1,bl v1.2.2.2.1,bl v1.2.2.2.2.1,bl v1.2.2.2.2.2.1,bl v1.2.2.2.2.2.2.1,bl v1.2.2.2.2.2.2.2]) [])] [] (ocons (Tlaws_toSolidA8 (Y:=Y) n a0.1 _ y0) (ocons (Tlaws_toBoolA8 (Y:=Y) n a0.2 _ y1) onil)) onil 
def Dlaws_toPt(a0:Pt):Option Pt :=
 some a0
theorem Tlaws_toPt{Y}(a0:Pt)(r:Pt)(h:Dlaws_toPt a0=some r):Big Tryz.prog H Y (.call 17 [.agg [i64 a0.X,i64 a0.Y,i64 a0.Z]] (lk []) (.agg [i64 r.X,i64 r.Y,i64 r.Z]) (lk [])):=by
 unfold Dlaws_toPt at h
 refine x_call (fn:=Tryz.f17) (c:=bodyOf Tryz.f17) (bs0:=[]) Tryz.func17 (by kernel_rfl) (by kernel_rfl) ?_
 replace h:=sj h;subst h
 exact x_end 35 [] [] onil onil 
def Dspec_l8Leaf(a0:Sol):Option Bool :=
 some ((a0.kids.length:Int)==0)
theorem Tspec_l8Leaf{Y}(a0:Sol)(r:Bool)(h:Dspec_l8Leaf a0=some r):Big Tryz.prog H Y (.call 120 [eF a0] (lk []) (bl r) (lk [])):=by
 unfold Dspec_l8Leaf at h
 refine x_call (fn:=Tryz.f120) (c:=bodyOf Tryz.f120) (bs0:=[]) Tryz.func120 (by kernel_rfl) (by kernel_rfl) ?_
 replace h:=sj h;subst h
 exact x_end 13 [] [] onil onil 
def Dspec_l8Count_1(_n:Nat)(self:(Sol×Int)→Option Int)(t1:Int)(_za:Bool)(_zb _zc _zd _ze:Int)(zf:List Sol)(rec0:(Int×Int)→Option Int)(a:(Int×Int)):Option Int :=
 match a with
 | (t5,t6)=>frk (decide (t6<(zf.length:Int))) ((lget zf t6).bind fun v1=>(self (v1,w64 (t1-t5))).bind fun v2=>rec0 (w64 (t5+v2),w64 (t6+1))) (some t5)
theorem Tspec_l8Count_1{Y}(n:Nat)(self:(Sol×Int)→Option Int)(hself:∀(a:(Sol×Int)) (r:Int),self a=some r→Big Tryz.prog H Y (.call 116 [eF a.1,i64 a.2] (lk []) (i64 r) (lk [])))(t1:Int)(za:Bool)(zb zc zd ze:Int)(zf:List Sol):∀(m:Nat) (a:(Int×Int)) (r:Int),loopN (Dspec_l8Count_1 n self t1 za zb zc zd ze zf) m a=some r→Wk Tryz.prog H Y 116 [.code (cp [1,1,1,0,1,0] (bodyOf Tryz.f116)),.blk 0,.code (cp [1,1,1,1] (bodyOf Tryz.f116))] (FinX Tryz.prog Tryz.f116 [] (i64 r) []) ⟨[(1,i64 t1),(2,.ptr 2 0),(5,i64 a.1),(6,i64 a.2)],[(2,⟨true,0,[bl za,i64 zb,i64 zc,i64 zd,i64 ze,.sl false 6 zf.length ((eSol false).f zf)]⟩)]⟩:=by
 refine loopN_ind (fun _rec0 hrec0 a r h=>?_)
 obtain⟨t5,t6⟩:=a
 unfold Dspec_l8Count_1 at h
 refine x_frk 10 [] onil h (by kernel_rfl) (fun h=>?_) (fun h=>?_)
 ·obtain⟨v1,y1,h⟩:=bm h
  obtain⟨v2,y2,h⟩:=bm h
  exact x_to 24 [(4,.val (.cptr ((eSol false).c v1++(eSol false).f ((zf).drop (Int.toNat t6+1))))),(4,.call [] [] (i64 v2) [])] (ocons (ix (eSol false) y1) (ocons (hself (v1,w64 (t1-t5)) _ y2) onil)) (hrec0 (w64 (t5+v2),w64 (t6+1)) r h) 
 ·replace h:=sj h;subst h
  exact x_end 6 [] [] onil onil 
def Dspec_l8Count_0(n:Nat)(self:(Sol×Int)→Option Int)(t1:Int)(t12 za:Bool)(zb zc zd ze:Int)(zf:List Sol):Option Int :=
 frk t12 (some 0) (loopN (Dspec_l8Count_1 n self t1 za zb zc zd ze zf) n (1,0))
theorem Tspec_l8Count_0{Y}(n:Nat)(self:(Sol×Int)→Option Int)(hself:∀(a:(Sol×Int)) (r:Int),self a=some r→Big Tryz.prog H Y (.call 116 [eF a.1,i64 a.2] (lk []) (i64 r) (lk [])))(t1:Int)(t12 za:Bool)(zb zc zd ze:Int)(zf:List Sol)(r:Int)(h:Dspec_l8Count_0 n self t1 t12 za zb zc zd ze zf=some r):Wk Tryz.prog H Y 116 [.code (cp [1,0,1] (bodyOf Tryz.f116)),.code (cp [1,1] (bodyOf Tryz.f116))] (FinX Tryz.prog Tryz.f116 [] (i64 r) []) ⟨[(1,i64 t1),(2,.ptr 2 0),(12,bl t12)],[(2,⟨true,0,[bl za,i64 zb,i64 zc,i64 zd,i64 ze,.sl false 6 zf.length ((eSol false).f zf)]⟩)]⟩:=by
 unfold Dspec_l8Count_0 at h
 refine x_frk 0 [] onil h (by kernel_rfl) (fun h=>?_) (fun h=>?_)
 ·replace h:=sj h;subst h
  exact x_end 4 [] [] onil onil 
 ·exact x_to 11 [] onil (Tspec_l8Count_1 n self hself t1 za zb zc zd ze zf n (1,0) r h) 
def Dspec_l8Count_b(n:Nat)(self:(Sol×Int)→Option Int)(a:(Sol×Int)):Option Int :=
 match a with
 | (a0,a1)=>(Dspec_l8Leaf a0).bind fun v0=>frk v0 (some 0) (Dspec_l8Count_0 n self a1 (decide (a1≤0)) a0.inn a0.pl.A a0.pl.B a0.pl.C a0.pl.D a0.kids)
def Dspec_l8Count(n:Nat)(a0:Sol)(a1:Int):Option Int:=loopN (Dspec_l8Count_b n) n (a0,a1)
theorem Tspec_l8Count_b{Y}(n:Nat):∀(m:Nat) (a:(Sol×Int)) (r:Int),loopN (Dspec_l8Count_b n) m a=some r→∀(_:Unit),Big Tryz.prog H Y (.call 116 [eF a.1,i64 a.2] (lk []) (i64 r) (lk [])):=by
 refine loopN_ind (fun self hs a r h=>?_)
 have hself:∀(a:(Sol×Int)) (r:Int),self a=some r→Big Tryz.prog H Y (.call 116 [eF a.1,i64 a.2] (lk []) (i64 r) (lk [])):=fun a r h=>hs a r h ()
 intro _
 obtain⟨a0,a1⟩:=a
 unfold Dspec_l8Count_b at h
 refine x_call (fn:=Tryz.f116) (c:=bodyOf Tryz.f116) (bs0:=[]) Tryz.func116 (by kernel_rfl) (by kernel_rfl) ?_
 obtain⟨v0,y0,h⟩:=bm h
 refine x_frk 11 [(3,.call [] [] (bl v0) [])] (ocons (Tspec_l8Leaf (Y:=Y) a0 _ y0) onil) h (by kernel_rfl) (fun h=>?_) (fun h=>?_)
 ·replace h:=sj h;subst h
  exact x_end 9 [] [] onil onil 
 ·exact x_to 4 [] onil (Tspec_l8Count_0 n self hself a1 (decide (a1≤0)) a0.inn a0.pl.A a0.pl.B a0.pl.C a0.pl.D a0.kids r h) 
theorem Tspec_l8Count{Y}(n:Nat)(a0:Sol)(a1 r:Int)(h:Dspec_l8Count n a0 a1=some r):Big Tryz.prog H Y (.call 116 [eF a0,i64 a1] (lk []) (i64 r) (lk [])):=Tspec_l8Count_b n n (a0,a1) r h ()
def Dspec_l1In(a0 a1 a2:Int):Option Bool :=
 frk (decide (a0≥a1)) (some (decide (a0≤a2))) (some false)
theorem Tspec_l1In{Y}(a0 a1 a2:Int)(r:Bool)(h:Dspec_l1In a0 a1 a2=some r):Big Tryz.prog H Y (.call 52 [i64 a0,i64 a1,i64 a2] (lk []) (bl r) (lk [])):=by
 unfold Dspec_l1In at h
 refine x_call (fn:=Tryz.f52) (c:=bodyOf Tryz.f52) (bs0:=[]) Tryz.func52 (by kernel_rfl) (by kernel_rfl) ?_
 refine x_frk 10 [] onil h (by kernel_rfl) (fun h=>?_) (fun h=>?_)
 ·replace h:=sj h;subst h
  exact x_end 6 [] [] onil onil 
 ·replace h:=sj h;subst h
  exact x_end 6 [] [] onil onil 
def Dspec_l3In(a0:Pl):Option Bool :=
 (Dspec_l1In a0.A (-500) 500).bind fun v0=>frk v0 ((Dspec_l1In a0.B (-500) 500).bind fun v1=>frk v1 ((Dspec_l1In a0.C (-500) 500).bind fun v2=>frk v2 ((Dspec_l1In a0.D (-500) 500).bind fun v3=>some v3) (some false)) (some false)) (some false)
theorem Tspec_l3In{Y}(a0:Pl)(r:Bool)(h:Dspec_l3In a0=some r):Big Tryz.prog H Y (.call 240 [.agg [i64 a0.A,i64 a0.B,i64 a0.C,i64 a0.D]] (lk []) (bl r) (lk [])):=by
 unfold Dspec_l3In at h
 refine x_call (fn:=Tryz.f240) (c:=bodyOf Tryz.f240) (bs0:=[]) Tryz.func240 (by kernel_rfl) (by kernel_rfl) ?_
 obtain⟨v0,y0,h⟩:=bm h
 refine x_frk 18 [(8,.call [] [] (bl v0) [])] (ocons (Tspec_l1In (Y:=Y) a0.A (-500) 500 _ y0) onil) h (by kernel_rfl) (fun h=>?_) (fun h=>?_)
 ·obtain⟨v1,y1,h⟩:=bm h
  refine x_frk 8 [(5,.call [] [] (bl v1) [])] (ocons (Tspec_l1In (Y:=Y) a0.B (-500) 500 _ y1) onil) h (by kernel_rfl) (fun h=>?_) (fun h=>?_)
  ·obtain⟨v2,y2,h⟩:=bm h
   refine x_frk 8 [(5,.call [] [] (bl v2) [])] (ocons (Tspec_l1In (Y:=Y) a0.C (-500) 500 _ y2) onil) h (by kernel_rfl) (fun h=>?_) (fun h=>?_)
   ·obtain⟨v3,y3,h⟩:=bm h
    replace h:=sj h;subst h
    exact x_end 9 [(5,.call [] [] (bl v3) [])] [] (ocons (Tspec_l1In (Y:=Y) a0.D (-500) 500 _ y3) onil) onil 
   ·replace h:=sj h;subst h
    exact x_end 9 [] [] onil onil 
  ·replace h:=sj h;subst h
   exact x_end 17 [] [] onil onil 
 ·replace h:=sj h;subst h
  exact x_end 25 [] [] onil onil 
def Dspec_l3Abs(a0:Int):Option Int :=
 frk (decide (a0<0)) (some (w64 (0-a0))) (some a0)
theorem Tspec_l3Abs{Y}(a0 r:Int)(h:Dspec_l3Abs a0=some r):Big Tryz.prog H Y (.call 238 [i64 a0] (lk []) (i64 r) (lk [])):=by
 unfold Dspec_l3Abs at h
 refine x_call (fn:=Tryz.f238) (c:=bodyOf Tryz.f238) (bs0:=[]) Tryz.func238 (by kernel_rfl) (by kernel_rfl) ?_
 refine x_frk 10 [] onil h (by kernel_rfl) (fun h=>?_) (fun h=>?_)
 ·replace h:=sj h;subst h
  exact x_end 6 [] [] onil onil 
 ·replace h:=sj h;subst h
  exact x_end 6 [] [] onil onil 
def Dspec_l3Gcd_0(_n:Nat)(rec0:(Int×Int)→Option Int)(a:(Int×Int)):Option Int :=
 match a with
 | (t0,t1)=>frk (decide (t1>0)) ((rm .i64 t0 t1).bind fun v2=>rec0 (t1,v2)) (some t0)
theorem Tspec_l3Gcd_0{Y}(n:Nat):∀(m:Nat) (a:(Int×Int)) (r:Int),loopN (Dspec_l3Gcd_0 n) m a=some r→Wk Tryz.prog H Y 207 [.code (cp [1,1,1,0,0] (bodyOf Tryz.f207)),.blk 0,.code (cp [1,1,1,1] (bodyOf Tryz.f207))] (FinX Tryz.prog Tryz.f207 [] (i64 r) []) ⟨[(0,i64 a.1),(1,i64 a.2)],[]⟩:=by
 refine loopN_ind (fun _rec0 hrec0 a r h=>?_)
 obtain⟨_t0,t1⟩:=a
 unfold Dspec_l3Gcd_0 at h
 refine x_frk 7 [] onil h (by kernel_rfl) (fun h=>?_) (fun h=>?_)
 ·obtain⟨v2,y2,h⟩:=bm h
  exact x_to 20 [(2,.val (i64 v2))] (ocons (rmOk y2) onil) (hrec0 (t1,v2) r h) 
 ·replace h:=sj h;subst h
  exact x_end 6 [] [] onil onil 
def Dspec_l3Gcd(n:Nat)(a0 a1:Int):Option Int :=
 (Dspec_l3Abs a0).bind fun v0=>(Dspec_l3Abs a1).bind fun v1=>loopN (Dspec_l3Gcd_0 n) n (v0,v1)
theorem Tspec_l3Gcd{Y}(n:Nat)(a0 a1 r:Int)(h:Dspec_l3Gcd n a0 a1=some r):Big Tryz.prog H Y (.call 207 [i64 a0,i64 a1] (lk []) (i64 r) (lk [])):=by
 unfold Dspec_l3Gcd at h
 refine x_call (fn:=Tryz.f207) (c:=bodyOf Tryz.f207) (bs0:=[]) Tryz.func207 (by kernel_rfl) (by kernel_rfl) ?_
 obtain⟨v0,y0,h⟩:=bm h
 obtain⟨v1,y1,h⟩:=bm h
 exact x_to 18 [(2,.call [] [] (i64 v0) []),(2,.call [] [] (i64 v1) [])] (ocons (Tspec_l3Abs (Y:=Y) a0 _ y0) (ocons (Tspec_l3Abs (Y:=Y) a1 _ y1) onil)) (Tspec_l3Gcd_0 n n (v0,v1) r h) 
def Dspec_PlaneOk(n:Nat)(a0:Pl):Option Bool :=
 (Dspec_l3In a0).bind fun v0=>frk v0 (frk (a0.A != 0) ((Dspec_l3Gcd n a0.A a0.B).bind fun v1=>(Dspec_l3Gcd n a0.C a0.D).bind fun v2=>(Dspec_l3Gcd n v1 v2).bind fun v3=>some (v3==1)) (frk (a0.B != 0) ((Dspec_l3Gcd n a0.A a0.B).bind fun v4=>(Dspec_l3Gcd n a0.C a0.D).bind fun v5=>(Dspec_l3Gcd n v4 v5).bind fun v6=>some (v6==1)) (frk (a0.C != 0) ((Dspec_l3Gcd n a0.A a0.B).bind fun v7=>(Dspec_l3Gcd n a0.C a0.D).bind fun v8=>(Dspec_l3Gcd n v7 v8).bind fun v9=>some (v9==1)) (some false)))) (some false)
theorem Tspec_PlaneOk{Y}(n:Nat)(a0:Pl)(r:Bool)(h:Dspec_PlaneOk n a0=some r):Big Tryz.prog H Y (.call 206 [.agg [i64 a0.A,i64 a0.B,i64 a0.C,i64 a0.D]] (lk []) (bl r) (lk [])):=by
 unfold Dspec_PlaneOk at h
 refine x_call (fn:=Tryz.f206) (c:=bodyOf Tryz.f206) (bs0:=[]) Tryz.func206 (by kernel_rfl) (by kernel_rfl) ?_
 obtain⟨v0,y0,h⟩:=bm h
 refine x_frk 10 [(3,.call [] [] (bl v0) [])] (ocons (Tspec_l3In (Y:=Y) a0 _ y0) onil) h (by kernel_rfl) (fun h=>?_) (fun h=>?_)
 ·refine x_frk 4 [] onil h (by kernel_rfl) (fun h=>?_) (fun h=>?_)
  ·obtain⟨v1,y1,h⟩:=bm h
   obtain⟨v2,y2,h⟩:=bm h
   obtain⟨v3,y3,h⟩:=bm h
   replace h:=sj h;subst h
   exact x_end 26 [(15,.call [] [] (i64 v1) []),(4,.call [] [] (i64 v2) []),(0,.call [] [] (i64 v3) [])] [] (ocons (Tspec_l3Gcd (Y:=Y) n a0.A a0.B _ y1) (ocons (Tspec_l3Gcd (Y:=Y) n a0.C a0.D _ y2) (ocons (Tspec_l3Gcd (Y:=Y) n v1 v2 _ y3) onil))) onil 
  ·refine x_frk 5 [] onil h (by kernel_rfl) (fun h=>?_) (fun h=>?_)
   ·obtain⟨v4,y4,h⟩:=bm h
    obtain⟨v5,y5,h⟩:=bm h
    obtain⟨v6,y6,h⟩:=bm h
    replace h:=sj h;subst h
    exact x_end 21 [(10,.call [] [] (i64 v4) []),(4,.call [] [] (i64 v5) []),(0,.call [] [] (i64 v6) [])] [] (ocons (Tspec_l3Gcd (Y:=Y) n a0.A a0.B _ y4) (ocons (Tspec_l3Gcd (Y:=Y) n a0.C a0.D _ y5) (ocons (Tspec_l3Gcd (Y:=Y) n v4 v5 _ y6) onil))) onil 
   ·refine x_frk 6 [] onil h (by kernel_rfl) (fun h=>?_) (fun h=>?_)
    ·obtain⟨v7,y7,h⟩:=bm h
     obtain⟨v8,y8,h⟩:=bm h
     obtain⟨v9,y9,h⟩:=bm h
     replace h:=sj h;subst h
     exact x_end 15 [(4,.call [] [] (i64 v7) []),(4,.call [] [] (i64 v8) []),(0,.call [] [] (i64 v9) [])] [] (ocons (Tspec_l3Gcd (Y:=Y) n a0.A a0.B _ y7) (ocons (Tspec_l3Gcd (Y:=Y) n a0.C a0.D _ y8) (ocons (Tspec_l3Gcd (Y:=Y) n v7 v8 _ y9) onil))) onil 
    ·replace h:=sj h;subst h
     exact x_end 15 [] [] onil onil 
 ·replace h:=sj h;subst h
  exact x_end 30 [] [] onil onil 
def Dspec_l4Cross(a0:Pl)(a1:Pl):Option (Int×Int×Int) :=
 some (w64 ((w64 (a0.B*a1.C))-(w64 (a0.C*a1.B))),w64 ((w64 (a0.C*a1.A))-(w64 (a0.A*a1.C))),w64 ((w64 (a0.A*a1.B))-(w64 (a0.B*a1.A))))
theorem Tspec_l4Cross{Y}(a0:Pl)(a1:Pl)(r:(Int×Int×Int))(h:Dspec_l4Cross a0 a1=some r):Big Tryz.prog H Y (.call 137 [.agg [i64 a0.A,i64 a0.B,i64 a0.C,i64 a0.D],.agg [i64 a1.A,i64 a1.B,i64 a1.C,i64 a1.D]] (lk []) (.agg [i64 r.1,i64 r.2.1,i64 r.2.2]) (lk [])):=by
 unfold Dspec_l4Cross at h
 refine x_call (fn:=Tryz.f137) (c:=bodyOf Tryz.f137) (bs0:=[]) Tryz.func137 (by kernel_rfl) (by kernel_rfl) ?_
 replace h:=sj h;subst h
 exact x_end 44 [] [] onil onil 
def Dspec_l3Sign(a0:Int):Option Int :=
 frk (decide (a0>0)) (some 1) (frk (decide (a0<0)) (some (-1)) (some 0))
theorem Tspec_l3Sign{Y}(a0 r:Int)(h:Dspec_l3Sign a0=some r):Big Tryz.prog H Y (.call 218 [i64 a0] (lk []) (i64 r) (lk [])):=by
 unfold Dspec_l3Sign at h
 refine x_call (fn:=Tryz.f218) (c:=bodyOf Tryz.f218) (bs0:=[]) Tryz.func218 (by kernel_rfl) (by kernel_rfl) ?_
 refine x_frk 12 [] onil h (by kernel_rfl) (fun h=>?_) (fun h=>?_)
 ·replace h:=sj h;subst h
  exact x_end 4 [] [] onil onil 
 ·refine x_frk 6 [] onil h (by kernel_rfl) (fun h=>?_) (fun h=>?_)
  ·replace h:=sj h;subst h
   exact x_end 4 [] [] onil onil 
  ·replace h:=sj h;subst h
   exact x_end 6 [] [] onil onil 
def Dspec_l4Parallel(a0:Pl)(a1:Pl):Option Int :=
 (Dspec_l4Cross a0 a1).bind fun v0=>frk (!(v0.1==0&&(v0.2.1==0&&(v0.2.2==0&&true)))) (some 0) ((Dspec_l3Sign (w64 ((w64 ((w64 (a0.A*a1.A))+(w64 (a0.B*a1.B))))+(w64 (a0.C*a1.C))))).bind fun v1=>some v1)
theorem Tspec_l4Parallel{Y}(a0:Pl)(a1:Pl)(r:Int)(h:Dspec_l4Parallel a0 a1=some r):Big Tryz.prog H Y (.call 237 [.agg [i64 a0.A,i64 a0.B,i64 a0.C,i64 a0.D],.agg [i64 a1.A,i64 a1.B,i64 a1.C,i64 a1.D]] (lk []) (i64 r) (lk [])):=by
 unfold Dspec_l4Parallel at h
 refine x_call (fn:=Tryz.f237) (c:=bodyOf Tryz.f237) (bs0:=[]) Tryz.func237 (by kernel_rfl) (by kernel_rfl) ?_
 obtain⟨v0,y0,h⟩:=bm h
 refine x_frk 15 [(5,.call [] [] (.agg [i64 v0.1,i64 v0.2.1,i64 v0.2.2]) [])] (ocons (Tspec_l4Cross (Y:=Y) a0 a1 _ y0) onil) h (by kernel_rfl) (fun h=>?_) (fun h=>?_)
 ·replace h:=sj h;subst h
  exact x_end 4 [] [] onil onil 
 ·obtain⟨v1,y1,h⟩:=bm h
  replace h:=sj h;subst h
  exact x_end 23 [(17,.call [] [] (i64 v1) [])] [] (ocons (Tspec_l3Sign (Y:=Y) (w64 ((w64 ((w64 (a0.A*a1.A))+(w64 (a0.B*a1.B))))+(w64 (a0.C*a1.C)))) _ y1) onil) onil 
def Dspec_l6Clash2(a0:Pl)(a1:Pl):Option Bool :=
 (Dspec_l4Parallel a0 a1).bind fun v0=>frk (decide (v0≥0)) (some false) ((Dspec_l3Abs a1.A).bind fun v1=>(Dspec_l3Abs a1.B).bind fun v2=>(Dspec_l3Abs a1.C).bind fun v3=>(Dspec_l3Abs a0.A).bind fun v4=>(Dspec_l3Abs a0.B).bind fun v5=>(Dspec_l3Abs a0.C).bind fun v6=>some (decide ((w64 ((w64 ((w64 ((w64 (v1+v2))+v3))*a0.D))+(w64 ((w64 ((w64 (v4+v5))+v6))*a1.D))))≤0)))
theorem Tspec_l6Clash2{Y}(a0:Pl)(a1:Pl)(r:Bool)(h:Dspec_l6Clash2 a0 a1=some r):Big Tryz.prog H Y (.call 203 [.agg [i64 a0.A,i64 a0.B,i64 a0.C,i64 a0.D],.agg [i64 a1.A,i64 a1.B,i64 a1.C,i64 a1.D]] (lk []) (bl r) (lk [])):=by
 unfold Dspec_l6Clash2 at h
 refine x_call (fn:=Tryz.f203) (c:=bodyOf Tryz.f203) (bs0:=[]) Tryz.func203 (by kernel_rfl) (by kernel_rfl) ?_
 obtain⟨v0,y0,h⟩:=bm h
 refine x_frk 14 [(5,.call [] [] (i64 v0) [])] (ocons (Tspec_l4Parallel (Y:=Y) a0 a1 _ y0) onil) h (by kernel_rfl) (fun h=>?_) (fun h=>?_)
 ·replace h:=sj h;subst h
  exact x_end 4 [] [] onil onil 
 ·obtain⟨v1,y1,h⟩:=bm h
  obtain⟨v2,y2,h⟩:=bm h
  obtain⟨v3,y3,h⟩:=bm h
  obtain⟨v4,y4,h⟩:=bm h
  obtain⟨v5,y5,h⟩:=bm h
  obtain⟨v6,y6,h⟩:=bm h
  replace h:=sj h;subst h
  exact x_end 45 [(2,.call [] [] (i64 v1) []),(2,.call [] [] (i64 v2) []),(3,.call [] [] (i64 v3) []),(4,.call [] [] (i64 v4) []),(2,.call [] [] (i64 v5) []),(3,.call [] [] (i64 v6) [])] [] (ocons (Tspec_l3Abs (Y:=Y) a1.A _ y1) (ocons (Tspec_l3Abs (Y:=Y) a1.B _ y2) (ocons (Tspec_l3Abs (Y:=Y) a1.C _ y3) (ocons (Tspec_l3Abs (Y:=Y) a0.A _ y4) (ocons (Tspec_l3Abs (Y:=Y) a0.B _ y5) (ocons (Tspec_l3Abs (Y:=Y) a0.C _ y6) onil)))))) onil 
def Dspec_l4Det3(a0:Pl)(a1:Pl)(a2:Pl):Option Int :=
 (Dspec_l4Cross a1 a2).bind fun v0=>some (w64 ((w64 ((w64 (a0.A*v0.1))+(w64 (a0.B*v0.2.1))))+(w64 (a0.C*v0.2.2))))
theorem Tspec_l4Det3{Y}(a0:Pl)(a1:Pl)(a2:Pl)(r:Int)(h:Dspec_l4Det3 a0 a1 a2=some r):Big Tryz.prog H Y (.call 190 [.agg [i64 a0.A,i64 a0.B,i64 a0.C,i64 a0.D],.agg [i64 a1.A,i64 a1.B,i64 a1.C,i64 a1.D],.agg [i64 a2.A,i64 a2.B,i64 a2.C,i64 a2.D]] (lk []) (i64 r) (lk [])):=by
 unfold Dspec_l4Det3 at h
 refine x_call (fn:=Tryz.f190) (c:=bodyOf Tryz.f190) (bs0:=[]) Tryz.func190 (by kernel_rfl) (by kernel_rfl) ?_
 obtain⟨v0,y0,h⟩:=bm h
 replace h:=sj h;subst h
 exact x_end 36 [(6,.call [] [] (.agg [i64 v0.1,i64 v0.2.1,i64 v0.2.2]) [])] [] (ocons (Tspec_l4Cross (Y:=Y) a1 a2 _ y0) onil) onil 
def Dspec_l6Sum_1(_n:Nat)(rec0:(Bool×Bool×Int×Int)→Option Bool)(t0:List Int)(t1:List Int)(t5 t6:Bool)(t7 t8:Int):Option Bool :=
 (lget t0 t8).bind fun v2=>(Dspec_l3Abs v2).bind fun v3=>(lget t1 t8).bind fun v4=>rec0 (t5,t6,w64 (t7+(w64 (v3*v4))),w64 (t8+1))
theorem Tspec_l6Sum_1{Y}(n:Nat)(rec0:(Bool×Bool×Int×Int)→Option Bool)(t0:List Int)(t1:List Int)(hrec0:∀(a:(Bool×Bool×Int×Int)) (r:Bool),rec0 a=some r→Wk Tryz.prog H Y 239 [.code (cp [1,1,1,1,0,1,0] (bodyOf Tryz.f239)),.blk 0,.code (cp [1,1,1,1,1] (bodyOf Tryz.f239))] (FinX Tryz.prog Tryz.f239 [] (bl r) []) ⟨[(0,.sl false 1 t0.length ((eInt).f t0)),(1,.sl false 1 t1.length ((eInt).f t1)),(5,bl a.1),(6,bl a.2.1),(7,i64 a.2.2.1),(8,i64 a.2.2.2)],[]⟩)(t5 t6:Bool)(t7 t8:Int)(r:Bool)(h:Dspec_l6Sum_1 n rec0 t0 t1 t5 t6 t7 t8=some r):Wk Tryz.prog H Y 239 [.code (cp [1,1,1,1,0,1,0,0,1,0,0,1,1] (bodyOf Tryz.f239)),.blk 1,.code (cp [1,1,1,1,0,1,0,0,1,1] (bodyOf Tryz.f239)),.lp (cp [1,1,1,1,0,1,0] (bodyOf Tryz.f239)),.blk 0,.code (cp [1,1,1,1,1] (bodyOf Tryz.f239))] (FinX Tryz.prog Tryz.f239 [] (bl r) []) ⟨[(0,.sl false 1 t0.length ((eInt).f t0)),(1,.sl false 1 t1.length ((eInt).f t1)),(5,bl t5),(6,bl t6),(7,i64 t7),(8,i64 t8)],[]⟩:=by
 unfold Dspec_l6Sum_1 at h
 obtain⟨v2,y2,h⟩:=bm h
 obtain⟨v3,y3,h⟩:=bm h
 obtain⟨v4,y4,h⟩:=bm h
 exact x_to 22 [(3,.val (.cptr (eInt.c v2++(eInt).f ((t0).drop (Int.toNat t8+1))))),(1,.call [] [] (i64 v3) []),(2,.val (.cptr (eInt.c v4++(eInt).f ((t1).drop (Int.toNat t8+1)))))] (ocons (ix eInt y2) (ocons (Tspec_l3Abs (Y:=Y) v2 _ y3) (ocons (ix eInt y4) onil))) (hrec0 (t5,t6,w64 (t7+(w64 (v3*v4))),w64 (t8+1)) r h) 
def Dspec_l6Sum_0(n:Nat)(rec0:(Bool×Bool×Int×Int)→Option Bool)(t0:List Int)(t1:List Int)(t5 t6:Bool)(t7 t8:Int):Option Bool :=
 frk t6 ((lget t0 t8).bind fun v1=>Dspec_l6Sum_1 n rec0 t0 t1 t5 (decide (v1<0)) t7 t8) (Dspec_l6Sum_1 n rec0 t0 t1 t5 false t7 t8)
theorem Tspec_l6Sum_0{Y}(n:Nat)(rec0:(Bool×Bool×Int×Int)→Option Bool)(t0:List Int)(t1:List Int)(hrec0:∀(a:(Bool×Bool×Int×Int)) (r:Bool),rec0 a=some r→Wk Tryz.prog H Y 239 [.code (cp [1,1,1,1,0,1,0] (bodyOf Tryz.f239)),.blk 0,.code (cp [1,1,1,1,1] (bodyOf Tryz.f239))] (FinX Tryz.prog Tryz.f239 [] (bl r) []) ⟨[(0,.sl false 1 t0.length ((eInt).f t0)),(1,.sl false 1 t1.length ((eInt).f t1)),(5,bl a.1),(6,bl a.2.1),(7,i64 a.2.2.1),(8,i64 a.2.2.2)],[]⟩)(t5 t6:Bool)(t7 t8:Int)(r:Bool)(h:Dspec_l6Sum_0 n rec0 t0 t1 t5 t6 t7 t8=some r):Wk Tryz.prog H Y 239 [.code (cp [1,1,1,1,0,1,0,0,1,0,0,1,0] (bodyOf Tryz.f239)),.code (cp [1,1,1,1,0,1,0,0,1,0,0,1,1] (bodyOf Tryz.f239)),.blk 1,.code (cp [1,1,1,1,0,1,0,0,1,1] (bodyOf Tryz.f239)),.lp (cp [1,1,1,1,0,1,0] (bodyOf Tryz.f239)),.blk 0,.code (cp [1,1,1,1,1] (bodyOf Tryz.f239))] (FinX Tryz.prog Tryz.f239 [] (bl r) []) ⟨[(0,.sl false 1 t0.length ((eInt).f t0)),(1,.sl false 1 t1.length ((eInt).f t1)),(5,bl t5),(6,bl t6),(7,i64 t7),(8,i64 t8)],[]⟩:=by
 unfold Dspec_l6Sum_0 at h
 refine x_frk 3 [] onil h (by kernel_rfl) (fun h=>?_) (fun h=>?_)
 ·obtain⟨v1,y1,h⟩:=bm h
  exact x_to 8 [(2,.val (.cptr (eInt.c v1++(eInt).f ((t0).drop (Int.toNat t8+1)))))] (ocons (ix eInt y1) onil) (Tspec_l6Sum_1 n rec0 t0 t1 hrec0 t5 (decide (v1<0)) t7 t8 r h) 
 ·exact x_to 8 [] onil (Tspec_l6Sum_1 n rec0 t0 t1 hrec0 t5 false t7 t8 r h) 
def Dspec_l6Sum_2(_n:Nat)(t5 t6:Bool)(t7:Int):Option Bool :=
 frk t5 (some (decide (t7≤0))) (frk t6 (some (decide (t7≤0))) (some false))
theorem Tspec_l6Sum_2{Y}(n:Nat)(t5 t6:Bool)(t7:Int)(r:Bool)(h:Dspec_l6Sum_2 n t5 t6 t7=some r):Wk Tryz.prog H Y 239 [.code (cp [1,1,1,1,1,0] (bodyOf Tryz.f239)),.code (cp [1,1,1,1,1,1] (bodyOf Tryz.f239))] (FinX Tryz.prog Tryz.f239 [] (bl r) []) ⟨[(5,bl t5),(6,bl t6),(7,i64 t7)],[]⟩:=by
 unfold Dspec_l6Sum_2 at h
 refine x_frk 3 [] onil h (by kernel_rfl) (fun h=>?_) (fun h=>?_)
 ·replace h:=sj h;subst h
  exact x_end 8 [] [] onil onil 
 ·refine x_frk 3 [] onil h (by kernel_rfl) (fun h=>?_) (fun h=>?_)
  ·replace h:=sj h;subst h
   exact x_end 5 [] [] onil onil 
  ·replace h:=sj h;subst h
   exact x_end 5 [] [] onil onil 
def Dspec_l6Sum_3(n:Nat)(t0:List Int)(t1:List Int)(rec0:(Bool×Bool×Int×Int)→Option Bool)(a:(Bool×Bool×Int×Int)):Option Bool :=
 match a with
 | (t5,t6,t7,t8)=>frk (decide (t8<(t0.length:Int))) (frk t5 ((lget t0 t8).bind fun v0=>Dspec_l6Sum_0 n rec0 t0 t1 (decide (v0>0)) t6 t7 t8) (Dspec_l6Sum_0 n rec0 t0 t1 false t6 t7 t8)) (Dspec_l6Sum_2 n t5 t6 t7)
theorem Tspec_l6Sum_3{Y}(n:Nat)(t0:List Int)(t1:List Int):∀(m:Nat) (a:(Bool×Bool×Int×Int)) (r:Bool),loopN (Dspec_l6Sum_3 n t0 t1) m a=some r→Wk Tryz.prog H Y 239 [.code (cp [1,1,1,1,0,1,0] (bodyOf Tryz.f239)),.blk 0,.code (cp [1,1,1,1,1] (bodyOf Tryz.f239))] (FinX Tryz.prog Tryz.f239 [] (bl r) []) ⟨[(0,.sl false 1 t0.length ((eInt).f t0)),(1,.sl false 1 t1.length ((eInt).f t1)),(5,bl a.1),(6,bl a.2.1),(7,i64 a.2.2.1),(8,i64 a.2.2.2)],[]⟩:=by
 refine loopN_ind (fun rec0 hrec0 a r h=>?_)
 obtain⟨t5,t6,t7,t8⟩:=a
 unfold Dspec_l6Sum_3 at h
 refine x_frk 9 [] onil h (by kernel_rfl) (fun h=>?_) (fun h=>?_)
 ·refine x_frk 7 [] onil h (by kernel_rfl) (fun h=>?_) (fun h=>?_)
  ·obtain⟨v0,y0,h⟩:=bm h
   exact x_to 9 [(2,.val (.cptr (eInt.c v0++(eInt).f ((t0).drop (Int.toNat t8+1)))))] (ocons (ix eInt y0) onil) (Tspec_l6Sum_0 n rec0 t0 t1 hrec0 (decide (v0>0)) t6 t7 t8 r h) 
  ·exact x_to 9 [] onil (Tspec_l6Sum_0 n rec0 t0 t1 hrec0 false t6 t7 t8 r h) 
 ·exact x_to 2 [] onil (Tspec_l6Sum_2 n t5 t6 t7 r h) 
def Dspec_l6Sum(n:Nat)(a0:(List Int))(a1:(List Int)):Option Bool :=
 loopN (Dspec_l6Sum_3 n a0 a1) n (true,true,0,0)
theorem Tspec_l6Sum{Y}(n:Nat)(a0:(List Int))(a1:(List Int))(r:Bool)(h:Dspec_l6Sum n a0 a1=some r):Big Tryz.prog H Y (.call 239 [.sl false 1 a0.length ((eInt).f a0),.sl false 1 a1.length ((eInt).f a1)] (lk []) (bl r) (lk [])):=by
 unfold Dspec_l6Sum at h
 refine x_call (fn:=Tryz.f239) (c:=bodyOf Tryz.f239) (bs0:=[]) Tryz.func239 (by kernel_rfl) (by kernel_rfl) ?_
 exact x_to 22 [] onil (Tspec_l6Sum_3 n a0 a1 n (true,true,0,0) r h) 
def Dspec_l6Clash3_0(n:Nat)(_zg _zh _zi zj _zk _zl _zm zn _zo _zp _zq zr zs _zt _zu zv _zw _zx zy _zz _zaa:Int):Option Bool :=
 (Dspec_l6Sum n [zs,zv,zy] [zj,zn,zr]).bind fun v4=>some v4
theorem Tspec_l6Clash3_0{Y}(n:Nat)(zg zh zi zj zk zl zm zn zo zp zq zr zs zt zu zv zw zx zy zz zaa:Int)(r:Bool)(h:Dspec_l6Clash3_0 n zg zh zi zj zk zl zm zn zo zp zq zr zs zt zu zv zw zx zy zz zaa=some r):Wk Tryz.prog H Y 204 [.code (cp [1,1,1,1,1,0,1,0,0,1,0,0,1,0,0] (bodyOf Tryz.f204)),.code (cp [1,1,1,1,1,0,1,0,0,1,0,0,1,0,1] (bodyOf Tryz.f204)),.blk 1,.code (cp [1,1,1,1,1,0,1,0,0,1,1] (bodyOf Tryz.f204)),.lp (cp [1,1,1,1,1,0,1,0] (bodyOf Tryz.f204)),.blk 0,.code (cp [1,1,1,1,1,1] (bodyOf Tryz.f204))] (FinX Tryz.prog Tryz.f204 [] (bl r) []) ⟨[(3,.ptr 3 0),(4,.ptr 4 0),(5,.ptr 5 0),(7,.ptr 7 0),(8,.ptr 8 0),(9,.ptr 9 0),(10,i64 0)],[(3,⟨true,0,[i64 zg,i64 zh,i64 zi,i64 zj]⟩),(4,⟨true,0,[i64 zk,i64 zl,i64 zm,i64 zn]⟩),(5,⟨true,0,[i64 zo,i64 zp,i64 zq,i64 zr]⟩),(7,⟨true,0,[i64 zs,i64 zt,i64 zu]⟩),(8,⟨true,0,[i64 zv,i64 zw,i64 zx]⟩),(9,⟨true,0,[i64 zy,i64 zz,i64 zaa]⟩)]⟩:=by
 unfold Dspec_l6Clash3_0 at h
 obtain⟨v4,y4,h⟩:=bm h
 replace h:=sj h;subst h
 exact x_end 21 [(17,.call [] [(eInt).f [zj,zn,zr],(eInt).f [zs,zv,zy]] (bl v4) [])] [] (ocons (Tspec_l6Sum (Y:=Y) n [zs,zv,zy] [zj,zn,zr] _ y4) (ocons (len_row (L:=[zs,zv,zy]) eInt) (ocons (Enc.share eInt eInt sInt [zs,zv,zy]) (ocons (len_row (L:=[zj,zn,zr]) eInt) (ocons (Enc.share eInt eInt sInt [zj,zn,zr]) onil))))) onil 
def Dspec_l6Clash3_2(n:Nat)(_zg _zh _zi zj _zk _zl _zm zn _zo _zp _zq zr _zs zt _zu _zv zw _zx _zy zz _zaa:Int):Option Bool :=
 (Dspec_l6Sum n [zt,zw,zz] [zj,zn,zr]).bind fun v6=>some v6
theorem Tspec_l6Clash3_2{Y}(n:Nat)(zg zh zi zj zk zl zm zn zo zp zq zr zs zt zu zv zw zx zy zz zaa:Int)(r:Bool)(h:Dspec_l6Clash3_2 n zg zh zi zj zk zl zm zn zo zp zq zr zs zt zu zv zw zx zy zz zaa=some r):Wk Tryz.prog H Y 204 [.code (cp [1,1,1,1,1,0,1,0,0,1,0,0,1,0,0] (bodyOf Tryz.f204)),.code (cp [1,1,1,1,1,0,1,0,0,1,0,0,1,0,1] (bodyOf Tryz.f204)),.blk 1,.code (cp [1,1,1,1,1,0,1,0,0,1,1] (bodyOf Tryz.f204)),.lp (cp [1,1,1,1,1,0,1,0] (bodyOf Tryz.f204)),.blk 0,.code (cp [1,1,1,1,1,1] (bodyOf Tryz.f204))] (FinX Tryz.prog Tryz.f204 [] (bl r) []) ⟨[(3,.ptr 3 0),(4,.ptr 4 0),(5,.ptr 5 0),(7,.ptr 7 0),(8,.ptr 8 0),(9,.ptr 9 0),(10,i64 1)],[(3,⟨true,0,[i64 zg,i64 zh,i64 zi,i64 zj]⟩),(4,⟨true,0,[i64 zk,i64 zl,i64 zm,i64 zn]⟩),(5,⟨true,0,[i64 zo,i64 zp,i64 zq,i64 zr]⟩),(7,⟨true,0,[i64 zs,i64 zt,i64 zu]⟩),(8,⟨true,0,[i64 zv,i64 zw,i64 zx]⟩),(9,⟨true,0,[i64 zy,i64 zz,i64 zaa]⟩)]⟩:=by
 unfold Dspec_l6Clash3_2 at h
 obtain⟨v6,y6,h⟩:=bm h
 replace h:=sj h;subst h
 exact x_end 21 [(17,.call [] [(eInt).f [zj,zn,zr],(eInt).f [zt,zw,zz]] (bl v6) [])] [] (ocons (Tspec_l6Sum (Y:=Y) n [zt,zw,zz] [zj,zn,zr] _ y6) (ocons (len_row (L:=[zt,zw,zz]) eInt) (ocons (Enc.share eInt eInt sInt [zt,zw,zz]) (ocons (len_row (L:=[zj,zn,zr]) eInt) (ocons (Enc.share eInt eInt sInt [zj,zn,zr]) onil))))) onil 
def Dspec_l6Clash3_4(n:Nat)(_zg _zh _zi zj _zk _zl _zm zn _zo _zp _zq zr _zs _zt zu _zv _zw zx _zy _zz zaa:Int):Option Bool :=
 (Dspec_l6Sum n [zu,zx,zaa] [zj,zn,zr]).bind fun v8=>some v8
theorem Tspec_l6Clash3_4{Y}(n:Nat)(zg zh zi zj zk zl zm zn zo zp zq zr zs zt zu zv zw zx zy zz zaa:Int)(r:Bool)(h:Dspec_l6Clash3_4 n zg zh zi zj zk zl zm zn zo zp zq zr zs zt zu zv zw zx zy zz zaa=some r):Wk Tryz.prog H Y 204 [.code (cp [1,1,1,1,1,0,1,0,0,1,0,0,1,0,0] (bodyOf Tryz.f204)),.code (cp [1,1,1,1,1,0,1,0,0,1,0,0,1,0,1] (bodyOf Tryz.f204)),.blk 1,.code (cp [1,1,1,1,1,0,1,0,0,1,1] (bodyOf Tryz.f204)),.lp (cp [1,1,1,1,1,0,1,0] (bodyOf Tryz.f204)),.blk 0,.code (cp [1,1,1,1,1,1] (bodyOf Tryz.f204))] (FinX Tryz.prog Tryz.f204 [] (bl r) []) ⟨[(3,.ptr 3 0),(4,.ptr 4 0),(5,.ptr 5 0),(7,.ptr 7 0),(8,.ptr 8 0),(9,.ptr 9 0),(10,i64 2)],[(3,⟨true,0,[i64 zg,i64 zh,i64 zi,i64 zj]⟩),(4,⟨true,0,[i64 zk,i64 zl,i64 zm,i64 zn]⟩),(5,⟨true,0,[i64 zo,i64 zp,i64 zq,i64 zr]⟩),(7,⟨true,0,[i64 zs,i64 zt,i64 zu]⟩),(8,⟨true,0,[i64 zv,i64 zw,i64 zx]⟩),(9,⟨true,0,[i64 zy,i64 zz,i64 zaa]⟩)]⟩:=by
 unfold Dspec_l6Clash3_4 at h
 obtain⟨v8,y8,h⟩:=bm h
 replace h:=sj h;subst h
 exact x_end 21 [(17,.call [] [(eInt).f [zj,zn,zr],(eInt).f [zu,zx,zaa]] (bl v8) [])] [] (ocons (Tspec_l6Sum (Y:=Y) n [zu,zx,zaa] [zj,zn,zr] _ y8) (ocons (len_row (L:=[zu,zx,zaa]) eInt) (ocons (Enc.share eInt eInt sInt [zu,zx,zaa]) (ocons (len_row (L:=[zj,zn,zr]) eInt) (ocons (Enc.share eInt eInt sInt [zj,zn,zr]) onil))))) onil 
def Dspec_l6Clash3_5(n:Nat)(t44:Bool)(_zg _zh _zi zj _zk _zl _zm zn _zo _zp _zq zr _zs _zt zu _zv _zw zx _zy _zz zaa:Int):Option Bool :=
 frk t44 ((Dspec_l6Sum n [zu,zx,zaa] [zj,zn,zr]).bind fun v9=>some v9) (some false)
theorem Tspec_l6Clash3_5{Y}(n:Nat)(t44:Bool)(zg zh zi zj zk zl zm zn zo zp zq zr zs zt zu zv zw zx zy zz zaa:Int)(r:Bool)(h:Dspec_l6Clash3_5 n t44 zg zh zi zj zk zl zm zn zo zp zq zr zs zt zu zv zw zx zy zz zaa=some r):Wk Tryz.prog H Y 204 [.code (cp [1,1,1,1,1,0,1,0,0,1,0,0,1] (bodyOf Tryz.f204)),.blk 1,.code (cp [1,1,1,1,1,0,1,0,0,1,1] (bodyOf Tryz.f204)),.lp (cp [1,1,1,1,1,0,1,0] (bodyOf Tryz.f204)),.blk 0,.code (cp [1,1,1,1,1,1] (bodyOf Tryz.f204))] (FinX Tryz.prog Tryz.f204 [] (bl r) []) ⟨[(3,.ptr 3 0),(4,.ptr 4 0),(5,.ptr 5 0),(7,.ptr 7 0),(8,.ptr 8 0),(9,.ptr 9 0),(10,i64 2),(44,bl t44)],[(3,⟨true,0,[i64 zg,i64 zh,i64 zi,i64 zj]⟩),(4,⟨true,0,[i64 zk,i64 zl,i64 zm,i64 zn]⟩),(5,⟨true,0,[i64 zo,i64 zp,i64 zq,i64 zr]⟩),(7,⟨true,0,[i64 zs,i64 zt,i64 zu]⟩),(8,⟨true,0,[i64 zv,i64 zw,i64 zx]⟩),(9,⟨true,0,[i64 zy,i64 zz,i64 zaa]⟩)]⟩:=by
 unfold Dspec_l6Clash3_5 at h
 refine x_frk 0 [] onil h (by kernel_rfl) (fun h=>?_) (fun h=>?_)
 ·obtain⟨v9,y9,h⟩:=bm h
  replace h:=sj h;subst h
  exact x_end 22 [(17,.call [] [(eInt).f [zj,zn,zr],(eInt).f [zu,zx,zaa]] (bl v9) [])] [] (ocons (Tspec_l6Sum (Y:=Y) n [zu,zx,zaa] [zj,zn,zr] _ y9) (ocons (len_row (L:=[zu,zx,zaa]) eInt) (ocons (Enc.share eInt eInt sInt [zu,zx,zaa]) (ocons (len_row (L:=[zj,zn,zr]) eInt) (ocons (Enc.share eInt eInt sInt [zj,zn,zr]) onil))))) onil 
 ·replace h:=sj h;subst h
  exact x_end 21 [] [] onil onil 
def Dspec_l6Clash3_3(n:Nat)(t44:Bool)(zg zh zi zj zk zl zm zn zo zp zq zr zs zt zu zv zw zx zy zz zaa:Int):Option Bool :=
 frk t44 ((Dspec_l6Sum n [zt,zw,zz] [zj,zn,zr]).bind fun v7=>some v7) (frk (zu != 0) (Dspec_l6Clash3_4 n zg zh zi zj zk zl zm zn zo zp zq zr zs zt zu zv zw zx zy zz zaa) (frk (zx != 0) (Dspec_l6Clash3_4 n zg zh zi zj zk zl zm zn zo zp zq zr zs zt zu zv zw zx zy zz zaa) (Dspec_l6Clash3_5 n (zaa != 0) zg zh zi zj zk zl zm zn zo zp zq zr zs zt zu zv zw zx zy zz zaa)))
theorem Tspec_l6Clash3_3{Y}(n:Nat)(t44:Bool)(zg zh zi zj zk zl zm zn zo zp zq zr zs zt zu zv zw zx zy zz zaa:Int)(r:Bool)(h:Dspec_l6Clash3_3 n t44 zg zh zi zj zk zl zm zn zo zp zq zr zs zt zu zv zw zx zy zz zaa=some r):Wk Tryz.prog H Y 204 [.code (cp [1,1,1,1,1,0,1,0,0,1,0,0,1] (bodyOf Tryz.f204)),.blk 1,.code (cp [1,1,1,1,1,0,1,0,0,1,1] (bodyOf Tryz.f204)),.lp (cp [1,1,1,1,1,0,1,0] (bodyOf Tryz.f204)),.blk 0,.code (cp [1,1,1,1,1,1] (bodyOf Tryz.f204))] (FinX Tryz.prog Tryz.f204 [] (bl r) []) ⟨[(3,.ptr 3 0),(4,.ptr 4 0),(5,.ptr 5 0),(7,.ptr 7 0),(8,.ptr 8 0),(9,.ptr 9 0),(10,i64 1),(44,bl t44)],[(3,⟨true,0,[i64 zg,i64 zh,i64 zi,i64 zj]⟩),(4,⟨true,0,[i64 zk,i64 zl,i64 zm,i64 zn]⟩),(5,⟨true,0,[i64 zo,i64 zp,i64 zq,i64 zr]⟩),(7,⟨true,0,[i64 zs,i64 zt,i64 zu]⟩),(8,⟨true,0,[i64 zv,i64 zw,i64 zx]⟩),(9,⟨true,0,[i64 zy,i64 zz,i64 zaa]⟩)]⟩:=by
 unfold Dspec_l6Clash3_3 at h
 refine x_frk 0 [] onil h (by kernel_rfl) (fun h=>?_) (fun h=>?_)
 ·obtain⟨v7,y7,h⟩:=bm h
  replace h:=sj h;subst h
  exact x_end 22 [(17,.call [] [(eInt).f [zj,zn,zr],(eInt).f [zt,zw,zz]] (bl v7) [])] [] (ocons (Tspec_l6Sum (Y:=Y) n [zt,zw,zz] [zj,zn,zr] _ y7) (ocons (len_row (L:=[zt,zw,zz]) eInt) (ocons (Enc.share eInt eInt sInt [zt,zw,zz]) (ocons (len_row (L:=[zj,zn,zr]) eInt) (ocons (Enc.share eInt eInt sInt [zj,zn,zr]) onil))))) onil 
 ·refine x_frk 26 [] onil h (by kernel_rfl) (fun h=>?_) (fun h=>?_)
  ·exact x_to 14 [] onil (Tspec_l6Clash3_4 n zg zh zi zj zk zl zm zn zo zp zq zr zs zt zu zv zw zx zy zz zaa r h) 
  ·refine x_frk 6 [] onil h (by kernel_rfl) (fun h=>?_) (fun h=>?_)
   ·exact x_to 8 [] onil (Tspec_l6Clash3_4 n zg zh zi zj zk zl zm zn zo zp zq zr zs zt zu zv zw zx zy zz zaa r h) 
   ·exact x_to 6 [] onil (Tspec_l6Clash3_5 n (zaa != 0) zg zh zi zj zk zl zm zn zo zp zq zr zs zt zu zv zw zx zy zz zaa r h) 
def Dspec_l6Clash3_1(n:Nat)(t44:Bool)(zg zh zi zj zk zl zm zn zo zp zq zr zs zt zu zv zw zx zy zz zaa:Int):Option Bool :=
 frk t44 ((Dspec_l6Sum n [zs,zv,zy] [zj,zn,zr]).bind fun v5=>some v5) (frk (zt != 0) (Dspec_l6Clash3_2 n zg zh zi zj zk zl zm zn zo zp zq zr zs zt zu zv zw zx zy zz zaa) (frk (zw != 0) (Dspec_l6Clash3_2 n zg zh zi zj zk zl zm zn zo zp zq zr zs zt zu zv zw zx zy zz zaa) (Dspec_l6Clash3_3 n (zz != 0) zg zh zi zj zk zl zm zn zo zp zq zr zs zt zu zv zw zx zy zz zaa)))
theorem Tspec_l6Clash3_1{Y}(n:Nat)(t44:Bool)(zg zh zi zj zk zl zm zn zo zp zq zr zs zt zu zv zw zx zy zz zaa:Int)(r:Bool)(h:Dspec_l6Clash3_1 n t44 zg zh zi zj zk zl zm zn zo zp zq zr zs zt zu zv zw zx zy zz zaa=some r):Wk Tryz.prog H Y 204 [.code (cp [1,1,1,1,1,0,1,0,0,1,0,0,1] (bodyOf Tryz.f204)),.blk 1,.code (cp [1,1,1,1,1,0,1,0,0,1,1] (bodyOf Tryz.f204)),.lp (cp [1,1,1,1,1,0,1,0] (bodyOf Tryz.f204)),.blk 0,.code (cp [1,1,1,1,1,1] (bodyOf Tryz.f204))] (FinX Tryz.prog Tryz.f204 [] (bl r) []) ⟨[(3,.ptr 3 0),(4,.ptr 4 0),(5,.ptr 5 0),(7,.ptr 7 0),(8,.ptr 8 0),(9,.ptr 9 0),(10,i64 0),(44,bl t44)],[(3,⟨true,0,[i64 zg,i64 zh,i64 zi,i64 zj]⟩),(4,⟨true,0,[i64 zk,i64 zl,i64 zm,i64 zn]⟩),(5,⟨true,0,[i64 zo,i64 zp,i64 zq,i64 zr]⟩),(7,⟨true,0,[i64 zs,i64 zt,i64 zu]⟩),(8,⟨true,0,[i64 zv,i64 zw,i64 zx]⟩),(9,⟨true,0,[i64 zy,i64 zz,i64 zaa]⟩)]⟩:=by
 unfold Dspec_l6Clash3_1 at h
 refine x_frk 0 [] onil h (by kernel_rfl) (fun h=>?_) (fun h=>?_)
 ·obtain⟨v5,y5,h⟩:=bm h
  replace h:=sj h;subst h
  exact x_end 22 [(17,.call [] [(eInt).f [zj,zn,zr],(eInt).f [zs,zv,zy]] (bl v5) [])] [] (ocons (Tspec_l6Sum (Y:=Y) n [zs,zv,zy] [zj,zn,zr] _ y5) (ocons (len_row (L:=[zs,zv,zy]) eInt) (ocons (Enc.share eInt eInt sInt [zs,zv,zy]) (ocons (len_row (L:=[zj,zn,zr]) eInt) (ocons (Enc.share eInt eInt sInt [zj,zn,zr]) onil))))) onil 
 ·refine x_frk 26 [] onil h (by kernel_rfl) (fun h=>?_) (fun h=>?_)
  ·exact x_to 14 [] onil (Tspec_l6Clash3_2 n zg zh zi zj zk zl zm zn zo zp zq zr zs zt zu zv zw zx zy zz zaa r h) 
  ·refine x_frk 6 [] onil h (by kernel_rfl) (fun h=>?_) (fun h=>?_)
   ·exact x_to 8 [] onil (Tspec_l6Clash3_2 n zg zh zi zj zk zl zm zn zo zp zq zr zs zt zu zv zw zx zy zz zaa r h) 
   ·exact x_to 6 [] onil (Tspec_l6Clash3_3 n (zz != 0) zg zh zi zj zk zl zm zn zo zp zq zr zs zt zu zv zw zx zy zz zaa r h) 
def Dspec_l6Clash3(n:Nat)(a0:Pl)(a1:Pl)(a2:Pl):Option Bool :=
 (Dspec_l4Det3 a0 a1 a2).bind fun v0=>frk (v0 != 0) (some false) ((Dspec_l4Cross a1 a2).bind fun v1=>(Dspec_l4Cross a2 a0).bind fun v2=>(Dspec_l4Cross a0 a1).bind fun v3=>frk (v1.1 != 0) (Dspec_l6Clash3_0 n a0.A a0.B a0.C a0.D a1.A a1.B a1.C a1.D a2.A a2.B a2.C a2.D v1.1 v1.2.1 v1.2.2 v2.1 v2.2.1 v2.2.2 v3.1 v3.2.1 v3.2.2) (frk (v2.1 != 0) (Dspec_l6Clash3_0 n a0.A a0.B a0.C a0.D a1.A a1.B a1.C a1.D a2.A a2.B a2.C a2.D v1.1 v1.2.1 v1.2.2 v2.1 v2.2.1 v2.2.2 v3.1 v3.2.1 v3.2.2) (Dspec_l6Clash3_1 n (v3.1 != 0) a0.A a0.B a0.C a0.D a1.A a1.B a1.C a1.D a2.A a2.B a2.C a2.D v1.1 v1.2.1 v1.2.2 v2.1 v2.2.1 v2.2.2 v3.1 v3.2.1 v3.2.2)))
theorem Tspec_l6Clash3{Y}(n:Nat)(a0:Pl)(a1:Pl)(a2:Pl)(r:Bool)(h:Dspec_l6Clash3 n a0 a1 a2=some r):Big Tryz.prog H Y (.call 204 [.agg [i64 a0.A,i64 a0.B,i64 a0.C,i64 a0.D],.agg [i64 a1.A,i64 a1.B,i64 a1.C,i64 a1.D],.agg [i64 a2.A,i64 a2.B,i64 a2.C,i64 a2.D]] (lk []) (bl r) (lk [])):=by
 unfold Dspec_l6Clash3 at h
 refine x_call (fn:=Tryz.f204) (c:=bodyOf Tryz.f204) (bs0:=[]) Tryz.func204 (by kernel_rfl) (by kernel_rfl) ?_
 obtain⟨v0,y0,h⟩:=bm h
 refine x_frk 16 [(7,.call [] [] (i64 v0) [])] (ocons (Tspec_l4Det3 (Y:=Y) a0 a1 a2 _ y0) onil) h (by kernel_rfl) (fun h=>?_) (fun h=>?_)
 ·replace h:=sj h;subst h
  exact x_end 4 [] [] onil onil 
 ·obtain⟨v1,y1,h⟩:=bm h
  obtain⟨v2,y2,h⟩:=bm h
  obtain⟨v3,y3,h⟩:=bm h
  refine x_frk 49 [(2,.call [] [] (.agg [i64 v1.1,i64 v1.2.1,i64 v1.2.2]) []),(4,.call [] [] (.agg [i64 v2.1,i64 v2.2.1,i64 v2.2.2]) []),(4,.call [] [] (.agg [i64 v3.1,i64 v3.2.1,i64 v3.2.2]) [])] (ocons (Tspec_l4Cross (Y:=Y) a1 a2 _ y1) (ocons (Tspec_l4Cross (Y:=Y) a2 a0 _ y2) (ocons (Tspec_l4Cross (Y:=Y) a0 a1 _ y3) onil))) h (by kernel_rfl) (fun h=>?_) (fun h=>?_)
  ·exact x_to 14 [] onil (Tspec_l6Clash3_0 n a0.A a0.B a0.C a0.D a1.A a1.B a1.C a1.D a2.A a2.B a2.C a2.D v1.1 v1.2.1 v1.2.2 v2.1 v2.2.1 v2.2.2 v3.1 v3.2.1 v3.2.2 r h) 
  ·refine x_frk 6 [] onil h (by kernel_rfl) (fun h=>?_) (fun h=>?_)
   ·exact x_to 8 [] onil (Tspec_l6Clash3_0 n a0.A a0.B a0.C a0.D a1.A a1.B a1.C a1.D a2.A a2.B a2.C a2.D v1.1 v1.2.1 v1.2.2 v2.1 v2.2.1 v2.2.2 v3.1 v3.2.1 v3.2.2 r h) 
   ·exact x_to 6 [] onil (Tspec_l6Clash3_1 n (v3.1 != 0) a0.A a0.B a0.C a0.D a1.A a1.B a1.C a1.D a2.A a2.B a2.C a2.D v1.1 v1.2.1 v1.2.2 v2.1 v2.2.1 v2.2.2 v3.1 v3.2.1 v3.2.2 r h) 
def Dspec_l6Clash4(n:Nat)(a0:Pl)(a1:Pl)(a2:Pl)(a3:Pl):Option Bool :=
 (Dspec_l4Det3 a1 a2 a3).bind fun v0=>(Dspec_l4Det3 a0 a2 a3).bind fun v1=>(Dspec_l4Det3 a0 a1 a3).bind fun v2=>(Dspec_l4Det3 a0 a1 a2).bind fun v3=>(Dspec_l6Sum n [v0,w64 (0-v1),v2,w64 (0-v3)] [a0.D,a1.D,a2.D,a3.D]).bind fun v4=>some v4
theorem Tspec_l6Clash4{Y}(n:Nat)(a0:Pl)(a1:Pl)(a2:Pl)(a3:Pl)(r:Bool)(h:Dspec_l6Clash4 n a0 a1 a2 a3=some r):Big Tryz.prog H Y (.call 205 [.agg [i64 a0.A,i64 a0.B,i64 a0.C,i64 a0.D],.agg [i64 a1.A,i64 a1.B,i64 a1.C,i64 a1.D],.agg [i64 a2.A,i64 a2.B,i64 a2.C,i64 a2.D],.agg [i64 a3.A,i64 a3.B,i64 a3.C,i64 a3.D]] (lk []) (bl r) (lk [])):=by
 unfold Dspec_l6Clash4 at h
 refine x_call (fn:=Tryz.f205) (c:=bodyOf Tryz.f205) (bs0:=[]) Tryz.func205 (by kernel_rfl) (by kernel_rfl) ?_
 obtain⟨v0,y0,h⟩:=bm h
 obtain⟨v1,y1,h⟩:=bm h
 obtain⟨v2,y2,h⟩:=bm h
 obtain⟨v3,y3,h⟩:=bm h
 obtain⟨v4,y4,h⟩:=bm h
 replace h:=sj h;subst h
 exact x_end 46 [(8,.call [] [] (i64 v0) []),(3,.call [] [] (i64 v1) []),(4,.call [] [] (i64 v2) []),(3,.call [] [] (i64 v3) []),(13,.call [] [(eInt).f [a0.D,a1.D,a2.D,a3.D],(eInt).f [v0,w64 (0-v1),v2,w64 (0-v3)]] (bl v4) [])] [] (ocons (Tspec_l4Det3 (Y:=Y) a1 a2 a3 _ y0) (ocons (Tspec_l4Det3 (Y:=Y) a0 a2 a3 _ y1) (ocons (Tspec_l4Det3 (Y:=Y) a0 a1 a3 _ y2) (ocons (Tspec_l4Det3 (Y:=Y) a0 a1 a2 _ y3) (ocons (Tspec_l6Sum (Y:=Y) n [v0,w64 (0-v1),v2,w64 (0-v3)] [a0.D,a1.D,a2.D,a3.D] _ y4) (ocons (len_row (L:=[v0,w64 (0-v1),v2,w64 (0-v3)]) eInt) (ocons (Enc.share eInt eInt sInt [v0,w64 (0-v1),v2,w64 (0-v3)]) (ocons (len_row (L:=[a0.D,a1.D,a2.D,a3.D]) eInt) (ocons (Enc.share eInt eInt sInt [a0.D,a1.D,a2.D,a3.D]) onil))))))))) onil 
def Dspec_l6With_0(n:Nat)(rec1:Int→Option Bool)(_rec0:Int→Option Bool)(t6:Int)(t0:List Pl)(t5 zg zh zi zj t7:Int)(rec2:Int→Option Bool)(a:Int):Option Bool :=
 match a with
 | t8=>frk (decide (t8<t5)) ((lget t0 t6).bind fun v5=>(lget t0 t7).bind fun v6=>(lget t0 t8).bind fun v7=>(Dspec_l6Clash4 n v5 v6 v7 (Pl.mk zg zh zi zj)).bind fun v8=>frk v8 (some true) (rec2 (w64 (t8+1)))) (rec1 (w64 (t7+1)))
theorem Tspec_l6With_0{Y}(n:Nat)(rec1:Int→Option Bool)(rec0:Int→Option Bool)(t6:Int)(t0:List Pl)(t5 zg zh zi zj:Int)(hrec1:∀(a:Int) (r:Bool),rec1 a=some r→Wk Tryz.prog H Y 152 [.code (cp [1,1,0,1,0,0,1,0,0,1,1,0] (bodyOf Tryz.f152)),.blk 2,.blk 1,.code (cp [1,1,0,1,0,0,1,1] (bodyOf Tryz.f152)),.lp (cp [1,1,0,1,0] (bodyOf Tryz.f152)),.blk 0,.code (cp [1,1,1] (bodyOf Tryz.f152))] (FinX Tryz.prog Tryz.f152 [] (bl r) []) ⟨[(0,.sl false 4 t0.length ((ePl).f t0)),(3,.ptr 3 0),(5,i64 t5),(6,i64 t6),(7,i64 a)],[(3,⟨true,0,[i64 zg,i64 zh,i64 zi,i64 zj]⟩)]⟩)(_hrec0:∀(a:Int) (r:Bool),rec0 a=some r→Wk Tryz.prog H Y 152 [.code (cp [1,1,0,1,0] (bodyOf Tryz.f152)),.blk 0,.code (cp [1,1,1] (bodyOf Tryz.f152))] (FinX Tryz.prog Tryz.f152 [] (bl r) []) ⟨[(0,.sl false 4 t0.length ((ePl).f t0)),(3,.ptr 3 0),(5,i64 t5),(6,i64 a)],[(3,⟨true,0,[i64 zg,i64 zh,i64 zi,i64 zj]⟩)]⟩)(t7:Int):∀(m:Nat) (a:Int) (r:Bool),loopN (Dspec_l6With_0 n rec1 rec0 t6 t0 t5 zg zh zi zj t7) m a=some r→Wk Tryz.prog H Y 152 [.code (cp [1,1,0,1,0,0,1,0,0,1,1,0,0,1,0,0,1,1,0] (bodyOf Tryz.f152)),.blk 4,.blk 3,.code (cp [1,1,0,1,0,0,1,0,0,1,1,0,0,1,1] (bodyOf Tryz.f152)),.lp (cp [1,1,0,1,0,0,1,0,0,1,1,0] (bodyOf Tryz.f152)),.blk 2,.blk 1,.code (cp [1,1,0,1,0,0,1,1] (bodyOf Tryz.f152)),.lp (cp [1,1,0,1,0] (bodyOf Tryz.f152)),.blk 0,.code (cp [1,1,1] (bodyOf Tryz.f152))] (FinX Tryz.prog Tryz.f152 [] (bl r) []) ⟨[(0,.sl false 4 t0.length ((ePl).f t0)),(3,.ptr 3 0),(5,i64 t5),(6,i64 t6),(7,i64 t7),(8,i64 a)],[(3,⟨true,0,[i64 zg,i64 zh,i64 zi,i64 zj]⟩)]⟩:=by
 refine loopN_ind (fun _rec2 hrec2 a r h=>?_)
 obtain⟨t8,rfl⟩:∃x,x=a:=⟨a,rfl⟩
 unfold Dspec_l6With_0 at h
 refine x_frk 8 [] onil h (by kernel_rfl) (fun h=>?_) (fun h=>?_)
 ·obtain⟨v5,y5,h⟩:=bm h
  obtain⟨v6,y6,h⟩:=bm h
  obtain⟨v7,y7,h⟩:=bm h
  obtain⟨v8,y8,h⟩:=bm h
  refine x_frk 20 [(2,.val (.cptr (ePl.c v5++(ePl).f ((t0).drop (Int.toNat t6+1))))),(3,.val (.cptr (ePl.c v6++(ePl).f ((t0).drop (Int.toNat t7+1))))),(3,.val (.cptr (ePl.c v7++(ePl).f ((t0).drop (Int.toNat t8+1))))),(2,.call [] [] (bl v8) [])] (ocons (ix ePl y5) (ocons (ix ePl y6) (ocons (ix ePl y7) (ocons (Tspec_l6Clash4 (Y:=Y) n v5 v6 v7 (Pl.mk zg zh zi zj) _ y8) onil)))) h (by kernel_rfl) (fun h=>?_) (fun h=>?_)
  ·replace h:=sj h;subst h
   exact x_end 4 [] [] onil onil 
  ·exact x_to 8 [] onil (hrec2 (w64 (t8+1)) r h) 
 ·exact x_to 8 [] onil (hrec1 (w64 (t7+1)) r h) 
def Dspec_l6With_1(n:Nat)(rec0:Int→Option Bool)(t0:List Pl)(t5 zg zh zi zj t6:Int)(rec1:Int→Option Bool)(a:Int):Option Bool :=
 match a with
 | t7=>frk (decide (t7<t5)) ((lget t0 t6).bind fun v2=>(lget t0 t7).bind fun v3=>(Dspec_l6Clash3 n v2 v3 (Pl.mk zg zh zi zj)).bind fun v4=>frk v4 (some true) (loopN (Dspec_l6With_0 n rec1 rec0 t6 t0 t5 zg zh zi zj t7) n (w64 (t7+1)))) (rec0 (w64 (t6+1)))
theorem Tspec_l6With_1{Y}(n:Nat)(rec0:Int→Option Bool)(t0:List Pl)(t5 zg zh zi zj:Int)(hrec0:∀(a:Int) (r:Bool),rec0 a=some r→Wk Tryz.prog H Y 152 [.code (cp [1,1,0,1,0] (bodyOf Tryz.f152)),.blk 0,.code (cp [1,1,1] (bodyOf Tryz.f152))] (FinX Tryz.prog Tryz.f152 [] (bl r) []) ⟨[(0,.sl false 4 t0.length ((ePl).f t0)),(3,.ptr 3 0),(5,i64 t5),(6,i64 a)],[(3,⟨true,0,[i64 zg,i64 zh,i64 zi,i64 zj]⟩)]⟩)(t6:Int):∀(m:Nat) (a:Int) (r:Bool),loopN (Dspec_l6With_1 n rec0 t0 t5 zg zh zi zj t6) m a=some r→Wk Tryz.prog H Y 152 [.code (cp [1,1,0,1,0,0,1,0,0,1,1,0] (bodyOf Tryz.f152)),.blk 2,.blk 1,.code (cp [1,1,0,1,0,0,1,1] (bodyOf Tryz.f152)),.lp (cp [1,1,0,1,0] (bodyOf Tryz.f152)),.blk 0,.code (cp [1,1,1] (bodyOf Tryz.f152))] (FinX Tryz.prog Tryz.f152 [] (bl r) []) ⟨[(0,.sl false 4 t0.length ((ePl).f t0)),(3,.ptr 3 0),(5,i64 t5),(6,i64 t6),(7,i64 a)],[(3,⟨true,0,[i64 zg,i64 zh,i64 zi,i64 zj]⟩)]⟩:=by
 refine loopN_ind (fun rec1 hrec1 a r h=>?_)
 obtain⟨t7,rfl⟩:∃x,x=a:=⟨a,rfl⟩
 unfold Dspec_l6With_1 at h
 refine x_frk 8 [] onil h (by kernel_rfl) (fun h=>?_) (fun h=>?_)
 ·obtain⟨v2,y2,h⟩:=bm h
  obtain⟨v3,y3,h⟩:=bm h
  obtain⟨v4,y4,h⟩:=bm h
  refine x_frk 17 [(2,.val (.cptr (ePl.c v2++(ePl).f ((t0).drop (Int.toNat t6+1))))),(3,.val (.cptr (ePl.c v3++(ePl).f ((t0).drop (Int.toNat t7+1))))),(2,.call [] [] (bl v4) [])] (ocons (ix ePl y2) (ocons (ix ePl y3) (ocons (Tspec_l6Clash3 (Y:=Y) n v2 v3 (Pl.mk zg zh zi zj) _ y4) onil))) h (by kernel_rfl) (fun h=>?_) (fun h=>?_)
  ·replace h:=sj h;subst h
   exact x_end 4 [] [] onil onil 
  ·exact x_to 8 [] onil (Tspec_l6With_0 n rec1 rec0 t6 t0 t5 zg zh zi zj hrec1 hrec0 t7 n (w64 (t7+1)) r h) 
 ·exact x_to 8 [] onil (hrec0 (w64 (t6+1)) r h) 
def Dspec_l6With_2(n:Nat)(t0:List Pl)(t5 zg zh zi zj:Int)(rec0:Int→Option Bool)(a:Int):Option Bool :=
 match a with
 | t6=>frk (decide (t6<t5)) ((lget t0 t6).bind fun v0=>(Dspec_l6Clash2 v0 (Pl.mk zg zh zi zj)).bind fun v1=>frk v1 (some true) (loopN (Dspec_l6With_1 n rec0 t0 t5 zg zh zi zj t6) n (w64 (t6+1)))) (some false)
theorem Tspec_l6With_2{Y}(n:Nat)(t0:List Pl)(t5 zg zh zi zj:Int):∀(m:Nat) (a:Int) (r:Bool),loopN (Dspec_l6With_2 n t0 t5 zg zh zi zj) m a=some r→Wk Tryz.prog H Y 152 [.code (cp [1,1,0,1,0] (bodyOf Tryz.f152)),.blk 0,.code (cp [1,1,1] (bodyOf Tryz.f152))] (FinX Tryz.prog Tryz.f152 [] (bl r) []) ⟨[(0,.sl false 4 t0.length ((ePl).f t0)),(3,.ptr 3 0),(5,i64 t5),(6,i64 a)],[(3,⟨true,0,[i64 zg,i64 zh,i64 zi,i64 zj]⟩)]⟩:=by
 refine loopN_ind (fun rec0 hrec0 a r h=>?_)
 obtain⟨t6,rfl⟩:∃x,x=a:=⟨a,rfl⟩
 unfold Dspec_l6With_2 at h
 refine x_frk 8 [] onil h (by kernel_rfl) (fun h=>?_) (fun h=>?_)
 ·obtain⟨v0,y0,h⟩:=bm h
  obtain⟨v1,y1,h⟩:=bm h
  refine x_frk 13 [(2,.val (.cptr (ePl.c v0++(ePl).f ((t0).drop (Int.toNat t6+1))))),(2,.call [] [] (bl v1) [])] (ocons (ix ePl y0) (ocons (Tspec_l6Clash2 (Y:=Y) v0 (Pl.mk zg zh zi zj) _ y1) onil)) h (by kernel_rfl) (fun h=>?_) (fun h=>?_)
  ·replace h:=sj h;subst h
   exact x_end 4 [] [] onil onil 
  ·exact x_to 8 [] onil (Tspec_l6With_1 n rec0 t0 t5 zg zh zi zj hrec0 t6 n (w64 (t6+1)) r h) 
 ·replace h:=sj h;subst h
  exact x_end 5 [] [] onil onil 
def Dspec_l6With(n:Nat)(a0:(List Pl))(a1:Pl):Option Bool :=
 loopN (Dspec_l6With_2 n a0 (a0.length:Int) a1.A a1.B a1.C a1.D) n 0
theorem Tspec_l6With{Y}(n:Nat)(a0:(List Pl))(a1:Pl)(r:Bool)(h:Dspec_l6With n a0 a1=some r):Big Tryz.prog H Y (.call 152 [.sl false 4 a0.length ((ePl).f a0),.agg [i64 a1.A,i64 a1.B,i64 a1.C,i64 a1.D]] (lk []) (bl r) (lk [])):=by
 unfold Dspec_l6With at h
 refine x_call (fn:=Tryz.f152) (c:=bodyOf Tryz.f152) (bs0:=[]) Tryz.func152 (by kernel_rfl) (by kernel_rfl) ?_
 exact x_to 17 [] onil (Tspec_l6With_2 n a0 (a0.length:Int) a1.A a1.B a1.C a1.D n 0 r h) 
def Dspec_l3Flip(a0:Pl):Option Pl :=
 some (Pl.mk (w64 (0-a0.A)) (w64 (0-a0.B)) (w64 (0-a0.C)) (w64 (0-a0.D)))
theorem Tspec_l3Flip{Y}(a0:Pl)(r:Pl)(h:Dspec_l3Flip a0=some r):Big Tryz.prog H Y (.call 153 [.agg [i64 a0.A,i64 a0.B,i64 a0.C,i64 a0.D]] (lk []) (.agg [i64 r.A,i64 r.B,i64 r.C,i64 r.D]) (lk [])):=by
 unfold Dspec_l3Flip at h
 refine x_call (fn:=Tryz.f153) (c:=bodyOf Tryz.f153) (bs0:=[]) Tryz.func153 (by kernel_rfl) (by kernel_rfl) ?_
 replace h:=sj h;subst h
 exact x_end 22 [] [] onil onil 
def Dspec_l8Path(a0:(List Pl))(a1:Pl):Option (List Pl) :=
 chk (apB 32 (0+a0.length)) (chk (apB 32 (([]++a0).length+1)) (some (([]++a0)++[a1])))
theorem Tspec_l8Path{Y}(a0:(List Pl))(a1:Pl)(r:(List Pl))(h:Dspec_l8Path a0 a1=some r):Big Tryz.prog H Y (.call 154 [.sl false 4 a0.length ((ePl).f a0),.agg [i64 a1.A,i64 a1.B,i64 a1.C,i64 a1.D]] (lk []) (.sl true 4 r.length ((ePl).f r)) (lk [])):=by
 unfold Dspec_l8Path at h
 refine x_call (fn:=Tryz.f154) (c:=bodyOf Tryz.f154) (bs0:=[]) Tryz.func154 (by kernel_rfl) (by kernel_rfl) ?_
 obtain⟨c0,h⟩:=chk_some h
 obtain⟨c1,h⟩:=chk_some h
 replace h:=sj h;subst h
 exact x_end 15 [(4,.app false (List.length ([]++a0)) ((ePl).f ([]++a0))),(2,.app false (List.length (([]++a0)++[a1])) ((ePl).f (([]++a0)++[a1])))] [] (ocons (len_row' (L:=[]) ePl) (ocons (app_one (L:=[]) (M:=a0) ePl c0) (ocons (app_new (L:=[]) (M:=a0) ePl) (ocons (app_m (L:=[]) (M:=a0) ePl rfl) (ocons (len_row' (L:=a0) ePl) (ocons (len_row' (L:=([]++a0)) ePl) (ocons (app_one (L:=([]++a0)) (M:=[a1]) ePl c1) (ocons (app_new (L:=([]++a0)) (M:=[a1]) ePl) (ocons (app_m (L:=([]++a0)) (M:=[a1]) ePl rfl) (ocons (len_row' (L:=[a1]) ePl) (ocons (Enc.noOwn ePl (fun _=>rfl) [a1]) onil))))))))))) (ocons (len_row (L:=(([]++a0)++[a1])) ePl) onil) 
def Dspec_l8Look_0(_n:Nat)(self:(Sol×(List Pl))→Option Bool)(t1:List Pl)(t42 _za:Bool)(zb zc zd ze:Int)(zf:List Sol):Option Bool :=
 frk t42 (some false) ((lget zf 0).bind fun v5=>(Dspec_l8Path t1 (Pl.mk zb zc zd ze)).bind fun v6=>(self (v5,v6)).bind fun v7=>frk v7 ((lget zf 1).bind fun v8=>(Dspec_l3Flip (Pl.mk zb zc zd ze)).bind fun v9=>(Dspec_l8Path t1 v9).bind fun v10=>(self (v8,v10)).bind fun v11=>some v11) (some false))
theorem Tspec_l8Look_0{Y}(n:Nat)(self:(Sol×(List Pl))→Option Bool)(hself:∀(a:(Sol×(List Pl))) (r:Bool),self a=some r→Big Tryz.prog H Y (.call 173 [eF a.1,.sl false 4 a.2.length ((ePl).f a.2)] (lk []) (bl r) (lk [])))(t1:List Pl)(t42 za:Bool)(zb zc zd ze:Int)(zf:List Sol)(r:Bool)(h:Dspec_l8Look_0 n self t1 t42 za zb zc zd ze zf=some r):Wk Tryz.prog H Y 173 [.code (cp [1,1,0,1] (bodyOf Tryz.f173)),.code (cp [1,1,1] (bodyOf Tryz.f173))] (FinX Tryz.prog Tryz.f173 [] (bl r) []) ⟨[(1,.sl false 4 t1.length ((ePl).f t1)),(2,.ptr 2 0),(42,bl t42)],[(2,⟨true,0,[bl za,i64 zb,i64 zc,i64 zd,i64 ze,.sl false 6 zf.length ((eSol false).f zf)]⟩)]⟩:=by
 unfold Dspec_l8Look_0 at h
 refine x_frk 0 [] onil h (by kernel_rfl) (fun h=>?_) (fun h=>?_)
 ·replace h:=sj h;subst h
  exact x_end 4 [] [] onil onil 
 ·obtain⟨v5,y5,h⟩:=bm h
  obtain⟨v6,y6,h⟩:=bm h
  obtain⟨v7,y7,h⟩:=bm h
  refine x_frk 13 [(2,.val (.cptr ((eSol false).c v5++(eSol false).f ((zf).drop (Int.toNat 0+1))))),(4,.call [] [] (.sl false 4 v6.length ((ePl).f v6)) []),(0,.call [] [] (bl v7) [])] (ocons (ix (eSol false) y5) (ocons (shSl (L:=v6) ePl ePl sPl (Tspec_l8Path (Y:=Y) t1 (Pl.mk zb zc zd ze) _ y6)) (ocons (hself (v5,v6) _ y7) onil))) h (by kernel_rfl) (fun h=>?_) (fun h=>?_)
  ·obtain⟨v8,y8,h⟩:=bm h
   obtain⟨v9,y9,h⟩:=bm h
   obtain⟨v10,y10,h⟩:=bm h
   obtain⟨v11,y11,h⟩:=bm h
   replace h:=sj h;subst h
   exact x_end 13 [(2,.val (.cptr ((eSol false).c v8++(eSol false).f ((zf).drop (Int.toNat 1+1))))),(4,.call [] [] (.agg [i64 v9.A,i64 v9.B,i64 v9.C,i64 v9.D]) []),(0,.call [] [] (.sl false 4 v10.length ((ePl).f v10)) []),(0,.call [] [] (bl v11) [])] [] (ocons (ix (eSol false) y8) (ocons (Tspec_l3Flip (Y:=Y) (Pl.mk zb zc zd ze) _ y9) (ocons (shSl (L:=v10) ePl ePl sPl (Tspec_l8Path (Y:=Y) t1 v9 _ y10)) (ocons (hself (v8,v10) _ y11) onil)))) onil 
  ·replace h:=sj h;subst h
   exact x_end 13 [] [] onil onil 
def Dspec_l8Look_b(n:Nat)(self:(Sol×(List Pl))→Option Bool)(a:(Sol×(List Pl))):Option Bool :=
 match a with
 | (a0,a1)=>(Dspec_l8Leaf a0).bind fun v0=>frk v0 (some (a0.pl.A==0&&(a0.pl.B==0&&(a0.pl.C==0&&(a0.pl.D==0&&true))))) (frk ((a0.kids.length:Int) != 2) (some false) (frk a0.inn (some false) ((Dspec_PlaneOk n a0.pl).bind fun v1=>frk (!v1) (some false) (frk ((a1.length:Int)==24) (some false) ((Dspec_l6With n a1 a0.pl).bind fun v2=>frk v2 (some false) ((Dspec_l3Flip a0.pl).bind fun v3=>(Dspec_l6With n a1 v3).bind fun v4=>Dspec_l8Look_0 n self a1 v4 a0.inn a0.pl.A a0.pl.B a0.pl.C a0.pl.D a0.kids))))))
def Dspec_l8Look(n:Nat)(a0:Sol)(a1:(List Pl)):Option Bool:=loopN (Dspec_l8Look_b n) n (a0,a1)
theorem Tspec_l8Look_b{Y}(n:Nat):∀(m:Nat) (a:(Sol×(List Pl))) (r:Bool),loopN (Dspec_l8Look_b n) m a=some r→∀(_:Unit),Big Tryz.prog H Y (.call 173 [eF a.1,.sl false 4 a.2.length ((ePl).f a.2)] (lk []) (bl r) (lk [])):=by
 refine loopN_ind (fun self hs a r h=>?_)
 have hself:∀(a:(Sol×(List Pl))) (r:Bool),self a=some r→Big Tryz.prog H Y (.call 173 [eF a.1,.sl false 4 a.2.length ((ePl).f a.2)] (lk []) (bl r) (lk [])):=fun a r h=>hs a r h ()
 intro _
 obtain⟨a0,a1⟩:=a
 unfold Dspec_l8Look_b at h
 refine x_call (fn:=Tryz.f173) (c:=bodyOf Tryz.f173) (bs0:=[]) Tryz.func173 (by kernel_rfl) (by kernel_rfl) ?_
 obtain⟨v0,y0,h⟩:=bm h
 refine x_frk 11 [(3,.call [] [] (bl v0) [])] (ocons (Tspec_l8Leaf (Y:=Y) a0 _ y0) onil) h (by kernel_rfl) (fun h=>?_) (fun h=>?_)
 ·replace h:=sj h;subst h
  exact x_end 8 [] [] onil onil 
 ·refine x_frk 9 [] onil h (by kernel_rfl) (fun h=>?_) (fun h=>?_)
  ·replace h:=sj h;subst h
   exact x_end 33 [] [] onil onil 
  ·refine x_frk 4 [] onil h (by kernel_rfl) (fun h=>?_) (fun h=>?_)
   ·replace h:=sj h;subst h
    exact x_end 29 [] [] onil onil 
   ·obtain⟨v1,y1,h⟩:=bm h
    refine x_frk 6 [(2,.call [] [] (bl v1) [])] (ocons (Tspec_PlaneOk (Y:=Y) n a0.pl _ y1) onil) h (by kernel_rfl) (fun h=>?_) (fun h=>?_)
    ·replace h:=sj h;subst h
     exact x_end 23 [] [] onil onil 
    ·refine x_frk 5 [] onil h (by kernel_rfl) (fun h=>?_) (fun h=>?_)
     ·replace h:=sj h;subst h
      exact x_end 18 [] [] onil onil 
     ·obtain⟨v2,y2,h⟩:=bm h
      refine x_frk 6 [(3,.call [] [] (bl v2) [])] (ocons (Tspec_l6With (Y:=Y) n a1 a0.pl _ y2) onil) h (by kernel_rfl) (fun h=>?_) (fun h=>?_)
      ·replace h:=sj h;subst h
       exact x_end 12 [] [] onil onil 
      ·obtain⟨v3,y3,h⟩:=bm h
       obtain⟨v4,y4,h⟩:=bm h
       exact x_to 7 [(3,.call [] [] (.agg [i64 v3.A,i64 v3.B,i64 v3.C,i64 v3.D]) []),(0,.call [] [] (bl v4) [])] (ocons (Tspec_l3Flip (Y:=Y) a0.pl _ y3) (ocons (Tspec_l6With (Y:=Y) n a1 v3 _ y4) onil)) (Tspec_l8Look_0 n self hself a1 v4 a0.inn a0.pl.A a0.pl.B a0.pl.C a0.pl.D a0.kids r h) 
theorem Tspec_l8Look{Y}(n:Nat)(a0:Sol)(a1:(List Pl))(r:Bool)(h:Dspec_l8Look n a0 a1=some r):Big Tryz.prog H Y (.call 173 [eF a0,.sl false 4 a1.length ((ePl).f a1)] (lk []) (bl r) (lk [])):=Tspec_l8Look_b n n (a0,a1) r h ()
def Dspec_SolidOk(n:Nat)(a0:Sol):Option Bool :=
 (Dspec_l8Count n a0 301).bind fun v0=>frk (decide (v0≤300)) ((Dspec_l8Look n a0 []).bind fun v1=>some v1) (some false)
theorem Tspec_SolidOk{Y}(n:Nat)(a0:Sol)(r:Bool)(h:Dspec_SolidOk n a0=some r):Big Tryz.prog H Y (.call 104 [eF a0] (lk []) (bl r) (lk [])):=by
 unfold Dspec_SolidOk at h
 refine x_call (fn:=Tryz.f104) (c:=bodyOf Tryz.f104) (bs0:=[]) Tryz.func104 (by kernel_rfl) (by kernel_rfl) ?_
 obtain⟨v0,y0,h⟩:=bm h
 refine x_frk 11 [(3,.call [] [] (i64 v0) [])] (ocons (Tspec_l8Count (Y:=Y) n a0 301 _ y0) onil) h (by kernel_rfl) (fun h=>?_) (fun h=>?_)
 ·obtain⟨v1,y1,h⟩:=bm h
  replace h:=sj h;subst h
  exact x_end 6 [(2,.call [] [(ePl).f []] (bl v1) [])] [] (ocons (Tspec_l8Look (Y:=Y) n a0 [] _ y1) (ocons (len_row (L:=[]) ePl) (ocons (Enc.share ePl ePl sPl []) onil))) onil 
 ·replace h:=sj h;subst h
  exact x_end 6 [] [] onil onil 
def Dspec_l20None(a0:Sol):Option Bool :=
 frk (!a0.inn) (frk (a0.pl.A==0&&(a0.pl.B==0&&(a0.pl.C==0&&(a0.pl.D==0&&true)))) (some ((a0.kids.length:Int)==0)) (some false)) (some false)
theorem Tspec_l20None{Y}(a0:Sol)(r:Bool)(h:Dspec_l20None a0=some r):Big Tryz.prog H Y (.call 115 [eF a0] (lk []) (bl r) (lk [])):=by
 unfold Dspec_l20None at h
 refine x_call (fn:=Tryz.f115) (c:=bodyOf Tryz.f115) (bs0:=[]) Tryz.func115 (by kernel_rfl) (by kernel_rfl) ?_
 refine x_frk 11 [] onil h (by kernel_rfl) (fun h=>?_) (fun h=>?_)
 ·refine x_frk 6 [] onil h (by kernel_rfl) (fun h=>?_) (fun h=>?_)
  ·replace h:=sj h;subst h
   exact x_end 7 [] [] onil onil 
  ·replace h:=sj h;subst h
   exact x_end 7 [] [] onil onil 
 ·replace h:=sj h;subst h
  exact x_end 13 [] [] onil onil 
def Dspec_DeskOk_7(n:Nat)(t3:Int)(t35:Bool)(a0:Dsk):Option Bool :=
 frk t35 (some false) ((Dspec_l8Count n a0.1.2.2.2.2.2.2.2 301).bind fun v23=>some (decide ((w64 (t3+v23))≤900)))
theorem Tspec_DeskOk_7{Y}(n:Nat)(t3:Int)(t35:Bool)(a0:Dsk)(r:Bool)(h:Dspec_DeskOk_7 n t3 t35 a0=some r):Wk Tryz.prog H Y 50 [.code (cp [1,1,0,1,0,0,1,0,0,0,1] (bodyOf Tryz.f50)),.code (cp [1,1,0,1,0,0,1,0,0,1] (bodyOf Tryz.f50)),.blk 1,.code (cp [1,1,0,1,0,0,1,1] (bodyOf Tryz.f50)),.lp (cp [1,1,0,1,0] (bodyOf Tryz.f50)),.blk 0,.code (cp [1,1,1] (bodyOf Tryz.f50))] (FinX Tryz.prog Tryz.f50 [] (bl r) []) ⟨[(1,.ptr 1 0),(3,i64 t3),(4,i64 7),(35,bl t35)],[(1,⟨true,0,(cT38 a0)⟩)]⟩:=by
 unfold Dspec_DeskOk_7 at h
 refine x_frk 0 [] onil h (by kernel_rfl) (fun h=>?_) (fun h=>?_)
 ·replace h:=sj h;subst h
  exact x_end 4 [] [] onil onil 
 ·obtain⟨v23,y23,h⟩:=bm h
  replace h:=sj h;subst h
  exact x_end 33 [(5,.call [] [] (i64 v23) [])] [] (ocons (Tspec_l8Count (Y:=Y) n a0.1.2.2.2.2.2.2.2 301 _ y23) onil) onil 
def Dspec_DeskOk_8(n:Nat)(t3:Int)(a0:Dsk):Option Bool :=
 (Dspec_l8Count n a0.1.2.2.2.2.2.2.2 301).bind fun v24=>some (decide ((w64 (t3+v24))≤900))
theorem Tspec_DeskOk_8{Y}(n:Nat)(t3:Int)(a0:Dsk)(r:Bool)(h:Dspec_DeskOk_8 n t3 a0=some r):Wk Tryz.prog H Y 50 [.code (cp [1,1,0,1,0,0,1,0,0,1] (bodyOf Tryz.f50)),.blk 1,.code (cp [1,1,0,1,0,0,1,1] (bodyOf Tryz.f50)),.lp (cp [1,1,0,1,0] (bodyOf Tryz.f50)),.blk 0,.code (cp [1,1,1] (bodyOf Tryz.f50))] (FinX Tryz.prog Tryz.f50 [] (bl r) []) ⟨[(1,.ptr 1 0),(3,i64 t3),(4,i64 7)],[(1,⟨true,0,(cT38 a0)⟩)]⟩:=by
 unfold Dspec_DeskOk_8 at h
 obtain⟨v24,y24,h⟩:=bm h
 replace h:=sj h;subst h
 exact x_end 32 [(5,.call [] [] (i64 v24) [])] [] (ocons (Tspec_l8Count (Y:=Y) n a0.1.2.2.2.2.2.2.2 301 _ y24) onil) onil 
def Dspec_DeskOk_6(n:Nat)(t3:Int)(t35:Bool)(a0:Dsk):Option Bool :=
 frk t35 (some false) ((Dspec_l8Count n a0.1.2.2.2.2.2.2.1 301).bind fun v20=>frk a0.2.2.2.2.2.2.2.2 ((Dspec_SolidOk n a0.1.2.2.2.2.2.2.2).bind fun v21=>frk (!v21) (some false) (frk (!a0.2.2.2.2.2.2.2.2) ((Dspec_l20None a0.1.2.2.2.2.2.2.2).bind fun v22=>Dspec_DeskOk_7 n (w64 (t3+v20)) (!v22) a0) (Dspec_DeskOk_8 n (w64 (t3+v20)) a0))) (frk (!a0.2.2.2.2.2.2.2.2) ((Dspec_l20None a0.1.2.2.2.2.2.2.2).bind fun v25=>Dspec_DeskOk_7 n (w64 (t3+v20)) (!v25) a0) (Dspec_DeskOk_8 n (w64 (t3+v20)) a0)))
theorem Tspec_DeskOk_6{Y}(n:Nat)(t3:Int)(t35:Bool)(a0:Dsk)(r:Bool)(h:Dspec_DeskOk_6 n t3 t35 a0=some r):Wk Tryz.prog H Y 50 [.code (cp [1,1,0,1,0,0,1,0,0,0,1] (bodyOf Tryz.f50)),.code (cp [1,1,0,1,0,0,1,0,0,1] (bodyOf Tryz.f50)),.blk 1,.code (cp [1,1,0,1,0,0,1,1] (bodyOf Tryz.f50)),.lp (cp [1,1,0,1,0] (bodyOf Tryz.f50)),.blk 0,.code (cp [1,1,1] (bodyOf Tryz.f50))] (FinX Tryz.prog Tryz.f50 [] (bl r) []) ⟨[(1,.ptr 1 0),(3,i64 t3),(4,i64 6),(35,bl t35)],[(1,⟨true,0,(cT38 a0)⟩)]⟩:=by
 unfold Dspec_DeskOk_6 at h
 refine x_frk 0 [] onil h (by kernel_rfl) (fun h=>?_) (fun h=>?_)
 ·replace h:=sj h;subst h
  exact x_end 4 [] [] onil onil 
 ·obtain⟨v20,y20,h⟩:=bm h
  refine x_frk 37 [(5,.call [] [] (i64 v20) [])] (ocons (Tspec_l8Count (Y:=Y) n a0.1.2.2.2.2.2.2.1 301 _ y20) onil) h (by kernel_rfl) (fun h=>?_) (fun h=>?_)
  ·obtain⟨v21,y21,h⟩:=bm h
   refine x_frk 8 [(4,.call [] [] (bl v21) [])] (ocons (Tspec_SolidOk (Y:=Y) n a0.1.2.2.2.2.2.2.2 _ y21) onil) h (by kernel_rfl) (fun h=>?_) (fun h=>?_)
   ·replace h:=sj h;subst h
    exact x_end 20 [] [] onil onil 
   ·refine x_frk 6 [] onil h (by kernel_rfl) (fun h=>?_) (fun h=>?_)
    ·obtain⟨v22,y22,h⟩:=bm h
     exact x_to 9 [(4,.call [] [] (bl v22) [])] (ocons (Tspec_l20None (Y:=Y) a0.1.2.2.2.2.2.2.2 _ y22) onil) (Tspec_DeskOk_7 n (w64 (t3+v20)) (!v22) a0 r h) 
    ·exact x_to 11 [] onil (Tspec_DeskOk_8 n (w64 (t3+v20)) a0 r h) 
  ·refine x_frk 14 [] onil h (by kernel_rfl) (fun h=>?_) (fun h=>?_)
   ·obtain⟨v25,y25,h⟩:=bm h
    exact x_to 9 [(4,.call [] [] (bl v25) [])] (ocons (Tspec_l20None (Y:=Y) a0.1.2.2.2.2.2.2.2 _ y25) onil) (Tspec_DeskOk_7 n (w64 (t3+v20)) (!v25) a0 r h) 
   ·exact x_to 11 [] onil (Tspec_DeskOk_8 n (w64 (t3+v20)) a0 r h) 
def Dspec_DeskOk_9(n:Nat)(t3:Int)(a0:Dsk):Option Bool :=
 (Dspec_l8Count n a0.1.2.2.2.2.2.2.1 301).bind fun v26=>frk a0.2.2.2.2.2.2.2.2 ((Dspec_SolidOk n a0.1.2.2.2.2.2.2.2).bind fun v27=>frk (!v27) (some false) (frk (!a0.2.2.2.2.2.2.2.2) ((Dspec_l20None a0.1.2.2.2.2.2.2.2).bind fun v28=>Dspec_DeskOk_7 n (w64 (t3+v26)) (!v28) a0) (Dspec_DeskOk_8 n (w64 (t3+v26)) a0))) (frk (!a0.2.2.2.2.2.2.2.2) ((Dspec_l20None a0.1.2.2.2.2.2.2.2).bind fun v29=>Dspec_DeskOk_7 n (w64 (t3+v26)) (!v29) a0) (Dspec_DeskOk_8 n (w64 (t3+v26)) a0))
theorem Tspec_DeskOk_9{Y}(n:Nat)(t3:Int)(a0:Dsk)(r:Bool)(h:Dspec_DeskOk_9 n t3 a0=some r):Wk Tryz.prog H Y 50 [.code (cp [1,1,0,1,0,0,1,0,0,1] (bodyOf Tryz.f50)),.blk 1,.code (cp [1,1,0,1,0,0,1,1] (bodyOf Tryz.f50)),.lp (cp [1,1,0,1,0] (bodyOf Tryz.f50)),.blk 0,.code (cp [1,1,1] (bodyOf Tryz.f50))] (FinX Tryz.prog Tryz.f50 [] (bl r) []) ⟨[(1,.ptr 1 0),(3,i64 t3),(4,i64 6)],[(1,⟨true,0,(cT38 a0)⟩)]⟩:=by
 unfold Dspec_DeskOk_9 at h
 obtain⟨v26,y26,h⟩:=bm h
 refine x_frk 36 [(5,.call [] [] (i64 v26) [])] (ocons (Tspec_l8Count (Y:=Y) n a0.1.2.2.2.2.2.2.1 301 _ y26) onil) h (by kernel_rfl) (fun h=>?_) (fun h=>?_)
 ·obtain⟨v27,y27,h⟩:=bm h
  refine x_frk 8 [(4,.call [] [] (bl v27) [])] (ocons (Tspec_SolidOk (Y:=Y) n a0.1.2.2.2.2.2.2.2 _ y27) onil) h (by kernel_rfl) (fun h=>?_) (fun h=>?_)
  ·replace h:=sj h;subst h
   exact x_end 20 [] [] onil onil 
  ·refine x_frk 6 [] onil h (by kernel_rfl) (fun h=>?_) (fun h=>?_)
   ·obtain⟨v28,y28,h⟩:=bm h
    exact x_to 9 [(4,.call [] [] (bl v28) [])] (ocons (Tspec_l20None (Y:=Y) a0.1.2.2.2.2.2.2.2 _ y28) onil) (Tspec_DeskOk_7 n (w64 (t3+v26)) (!v28) a0 r h) 
   ·exact x_to 11 [] onil (Tspec_DeskOk_8 n (w64 (t3+v26)) a0 r h) 
 ·refine x_frk 14 [] onil h (by kernel_rfl) (fun h=>?_) (fun h=>?_)
  ·obtain⟨v29,y29,h⟩:=bm h
   exact x_to 9 [(4,.call [] [] (bl v29) [])] (ocons (Tspec_l20None (Y:=Y) a0.1.2.2.2.2.2.2.2 _ y29) onil) (Tspec_DeskOk_7 n (w64 (t3+v26)) (!v29) a0 r h) 
  ·exact x_to 11 [] onil (Tspec_DeskOk_8 n (w64 (t3+v26)) a0 r h) 
def Dspec_DeskOk_5(n:Nat)(t3:Int)(t35:Bool)(a0:Dsk):Option Bool :=
 frk t35 (some false) ((Dspec_l8Count n a0.1.2.2.2.2.2.1 301).bind fun v17=>frk a0.2.2.2.2.2.2.2.1 ((Dspec_SolidOk n a0.1.2.2.2.2.2.2.1).bind fun v18=>frk (!v18) (some false) (frk (!a0.2.2.2.2.2.2.2.1) ((Dspec_l20None a0.1.2.2.2.2.2.2.1).bind fun v19=>Dspec_DeskOk_6 n (w64 (t3+v17)) (!v19) a0) (Dspec_DeskOk_9 n (w64 (t3+v17)) a0))) (frk (!a0.2.2.2.2.2.2.2.1) ((Dspec_l20None a0.1.2.2.2.2.2.2.1).bind fun v30=>Dspec_DeskOk_6 n (w64 (t3+v17)) (!v30) a0) (Dspec_DeskOk_9 n (w64 (t3+v17)) a0)))
theorem Tspec_DeskOk_5{Y}(n:Nat)(t3:Int)(t35:Bool)(a0:Dsk)(r:Bool)(h:Dspec_DeskOk_5 n t3 t35 a0=some r):Wk Tryz.prog H Y 50 [.code (cp [1,1,0,1,0,0,1,0,0,0,1] (bodyOf Tryz.f50)),.code (cp [1,1,0,1,0,0,1,0,0,1] (bodyOf Tryz.f50)),.blk 1,.code (cp [1,1,0,1,0,0,1,1] (bodyOf Tryz.f50)),.lp (cp [1,1,0,1,0] (bodyOf Tryz.f50)),.blk 0,.code (cp [1,1,1] (bodyOf Tryz.f50))] (FinX Tryz.prog Tryz.f50 [] (bl r) []) ⟨[(1,.ptr 1 0),(3,i64 t3),(4,i64 5),(35,bl t35)],[(1,⟨true,0,(cT38 a0)⟩)]⟩:=by
 unfold Dspec_DeskOk_5 at h
 refine x_frk 0 [] onil h (by kernel_rfl) (fun h=>?_) (fun h=>?_)
 ·replace h:=sj h;subst h
  exact x_end 4 [] [] onil onil 
 ·obtain⟨v17,y17,h⟩:=bm h
  refine x_frk 37 [(5,.call [] [] (i64 v17) [])] (ocons (Tspec_l8Count (Y:=Y) n a0.1.2.2.2.2.2.1 301 _ y17) onil) h (by kernel_rfl) (fun h=>?_) (fun h=>?_)
  ·obtain⟨v18,y18,h⟩:=bm h
   refine x_frk 8 [(4,.call [] [] (bl v18) [])] (ocons (Tspec_SolidOk (Y:=Y) n a0.1.2.2.2.2.2.2.1 _ y18) onil) h (by kernel_rfl) (fun h=>?_) (fun h=>?_)
   ·replace h:=sj h;subst h
    exact x_end 20 [] [] onil onil 
   ·refine x_frk 6 [] onil h (by kernel_rfl) (fun h=>?_) (fun h=>?_)
    ·obtain⟨v19,y19,h⟩:=bm h
     exact x_to 9 [(4,.call [] [] (bl v19) [])] (ocons (Tspec_l20None (Y:=Y) a0.1.2.2.2.2.2.2.1 _ y19) onil) (Tspec_DeskOk_6 n (w64 (t3+v17)) (!v19) a0 r h) 
    ·exact x_to 11 [] onil (Tspec_DeskOk_9 n (w64 (t3+v17)) a0 r h) 
  ·refine x_frk 14 [] onil h (by kernel_rfl) (fun h=>?_) (fun h=>?_)
   ·obtain⟨v30,y30,h⟩:=bm h
    exact x_to 9 [(4,.call [] [] (bl v30) [])] (ocons (Tspec_l20None (Y:=Y) a0.1.2.2.2.2.2.2.1 _ y30) onil) (Tspec_DeskOk_6 n (w64 (t3+v17)) (!v30) a0 r h) 
   ·exact x_to 11 [] onil (Tspec_DeskOk_9 n (w64 (t3+v17)) a0 r h) 
def Dspec_DeskOk_10(n:Nat)(t3:Int)(a0:Dsk):Option Bool :=
 (Dspec_l8Count n a0.1.2.2.2.2.2.1 301).bind fun v31=>frk a0.2.2.2.2.2.2.2.1 ((Dspec_SolidOk n a0.1.2.2.2.2.2.2.1).bind fun v32=>frk (!v32) (some false) (frk (!a0.2.2.2.2.2.2.2.1) ((Dspec_l20None a0.1.2.2.2.2.2.2.1).bind fun v33=>Dspec_DeskOk_6 n (w64 (t3+v31)) (!v33) a0) (Dspec_DeskOk_9 n (w64 (t3+v31)) a0))) (frk (!a0.2.2.2.2.2.2.2.1) ((Dspec_l20None a0.1.2.2.2.2.2.2.1).bind fun v34=>Dspec_DeskOk_6 n (w64 (t3+v31)) (!v34) a0) (Dspec_DeskOk_9 n (w64 (t3+v31)) a0))
theorem Tspec_DeskOk_10{Y}(n:Nat)(t3:Int)(a0:Dsk)(r:Bool)(h:Dspec_DeskOk_10 n t3 a0=some r):Wk Tryz.prog H Y 50 [.code (cp [1,1,0,1,0,0,1,0,0,1] (bodyOf Tryz.f50)),.blk 1,.code (cp [1,1,0,1,0,0,1,1] (bodyOf Tryz.f50)),.lp (cp [1,1,0,1,0] (bodyOf Tryz.f50)),.blk 0,.code (cp [1,1,1] (bodyOf Tryz.f50))] (FinX Tryz.prog Tryz.f50 [] (bl r) []) ⟨[(1,.ptr 1 0),(3,i64 t3),(4,i64 5)],[(1,⟨true,0,(cT38 a0)⟩)]⟩:=by
 unfold Dspec_DeskOk_10 at h
 obtain⟨v31,y31,h⟩:=bm h
 refine x_frk 36 [(5,.call [] [] (i64 v31) [])] (ocons (Tspec_l8Count (Y:=Y) n a0.1.2.2.2.2.2.1 301 _ y31) onil) h (by kernel_rfl) (fun h=>?_) (fun h=>?_)
 ·obtain⟨v32,y32,h⟩:=bm h
  refine x_frk 8 [(4,.call [] [] (bl v32) [])] (ocons (Tspec_SolidOk (Y:=Y) n a0.1.2.2.2.2.2.2.1 _ y32) onil) h (by kernel_rfl) (fun h=>?_) (fun h=>?_)
  ·replace h:=sj h;subst h
   exact x_end 20 [] [] onil onil 
  ·refine x_frk 6 [] onil h (by kernel_rfl) (fun h=>?_) (fun h=>?_)
   ·obtain⟨v33,y33,h⟩:=bm h
    exact x_to 9 [(4,.call [] [] (bl v33) [])] (ocons (Tspec_l20None (Y:=Y) a0.1.2.2.2.2.2.2.1 _ y33) onil) (Tspec_DeskOk_6 n (w64 (t3+v31)) (!v33) a0 r h) 
   ·exact x_to 11 [] onil (Tspec_DeskOk_9 n (w64 (t3+v31)) a0 r h) 
 ·refine x_frk 14 [] onil h (by kernel_rfl) (fun h=>?_) (fun h=>?_)
  ·obtain⟨v34,y34,h⟩:=bm h
   exact x_to 9 [(4,.call [] [] (bl v34) [])] (ocons (Tspec_l20None (Y:=Y) a0.1.2.2.2.2.2.2.1 _ y34) onil) (Tspec_DeskOk_6 n (w64 (t3+v31)) (!v34) a0 r h) 
  ·exact x_to 11 [] onil (Tspec_DeskOk_9 n (w64 (t3+v31)) a0 r h) 
def Dspec_DeskOk_4(n:Nat)(t3:Int)(t35:Bool)(a0:Dsk):Option Bool :=
 frk t35 (some false) ((Dspec_l8Count n a0.1.2.2.2.2.1 301).bind fun v14=>frk a0.2.2.2.2.2.2.1 ((Dspec_SolidOk n a0.1.2.2.2.2.2.1).bind fun v15=>frk (!v15) (some false) (frk (!a0.2.2.2.2.2.2.1) ((Dspec_l20None a0.1.2.2.2.2.2.1).bind fun v16=>Dspec_DeskOk_5 n (w64 (t3+v14)) (!v16) a0) (Dspec_DeskOk_10 n (w64 (t3+v14)) a0))) (frk (!a0.2.2.2.2.2.2.1) ((Dspec_l20None a0.1.2.2.2.2.2.1).bind fun v35=>Dspec_DeskOk_5 n (w64 (t3+v14)) (!v35) a0) (Dspec_DeskOk_10 n (w64 (t3+v14)) a0)))
theorem Tspec_DeskOk_4{Y}(n:Nat)(t3:Int)(t35:Bool)(a0:Dsk)(r:Bool)(h:Dspec_DeskOk_4 n t3 t35 a0=some r):Wk Tryz.prog H Y 50 [.code (cp [1,1,0,1,0,0,1,0,0,0,1] (bodyOf Tryz.f50)),.code (cp [1,1,0,1,0,0,1,0,0,1] (bodyOf Tryz.f50)),.blk 1,.code (cp [1,1,0,1,0,0,1,1] (bodyOf Tryz.f50)),.lp (cp [1,1,0,1,0] (bodyOf Tryz.f50)),.blk 0,.code (cp [1,1,1] (bodyOf Tryz.f50))] (FinX Tryz.prog Tryz.f50 [] (bl r) []) ⟨[(1,.ptr 1 0),(3,i64 t3),(4,i64 4),(35,bl t35)],[(1,⟨true,0,(cT38 a0)⟩)]⟩:=by
 unfold Dspec_DeskOk_4 at h
 refine x_frk 0 [] onil h (by kernel_rfl) (fun h=>?_) (fun h=>?_)
 ·replace h:=sj h;subst h
  exact x_end 4 [] [] onil onil 
 ·obtain⟨v14,y14,h⟩:=bm h
  refine x_frk 37 [(5,.call [] [] (i64 v14) [])] (ocons (Tspec_l8Count (Y:=Y) n a0.1.2.2.2.2.1 301 _ y14) onil) h (by kernel_rfl) (fun h=>?_) (fun h=>?_)
  ·obtain⟨v15,y15,h⟩:=bm h
   refine x_frk 8 [(4,.call [] [] (bl v15) [])] (ocons (Tspec_SolidOk (Y:=Y) n a0.1.2.2.2.2.2.1 _ y15) onil) h (by kernel_rfl) (fun h=>?_) (fun h=>?_)
   ·replace h:=sj h;subst h
    exact x_end 20 [] [] onil onil 
   ·refine x_frk 6 [] onil h (by kernel_rfl) (fun h=>?_) (fun h=>?_)
    ·obtain⟨v16,y16,h⟩:=bm h
     exact x_to 9 [(4,.call [] [] (bl v16) [])] (ocons (Tspec_l20None (Y:=Y) a0.1.2.2.2.2.2.1 _ y16) onil) (Tspec_DeskOk_5 n (w64 (t3+v14)) (!v16) a0 r h) 
    ·exact x_to 11 [] onil (Tspec_DeskOk_10 n (w64 (t3+v14)) a0 r h) 
  ·refine x_frk 14 [] onil h (by kernel_rfl) (fun h=>?_) (fun h=>?_)
   ·obtain⟨v35,y35,h⟩:=bm h
    exact x_to 9 [(4,.call [] [] (bl v35) [])] (ocons (Tspec_l20None (Y:=Y) a0.1.2.2.2.2.2.1 _ y35) onil) (Tspec_DeskOk_5 n (w64 (t3+v14)) (!v35) a0 r h) 
   ·exact x_to 11 [] onil (Tspec_DeskOk_10 n (w64 (t3+v14)) a0 r h) 
def Dspec_DeskOk_11(n:Nat)(t3:Int)(a0:Dsk):Option Bool :=
 (Dspec_l8Count n a0.1.2.2.2.2.1 301).bind fun v36=>frk a0.2.2.2.2.2.2.1 ((Dspec_SolidOk n a0.1.2.2.2.2.2.1).bind fun v37=>frk (!v37) (some false) (frk (!a0.2.2.2.2.2.2.1) ((Dspec_l20None a0.1.2.2.2.2.2.1).bind fun v38=>Dspec_DeskOk_5 n (w64 (t3+v36)) (!v38) a0) (Dspec_DeskOk_10 n (w64 (t3+v36)) a0))) (frk (!a0.2.2.2.2.2.2.1) ((Dspec_l20None a0.1.2.2.2.2.2.1).bind fun v39=>Dspec_DeskOk_5 n (w64 (t3+v36)) (!v39) a0) (Dspec_DeskOk_10 n (w64 (t3+v36)) a0))
theorem Tspec_DeskOk_11{Y}(n:Nat)(t3:Int)(a0:Dsk)(r:Bool)(h:Dspec_DeskOk_11 n t3 a0=some r):Wk Tryz.prog H Y 50 [.code (cp [1,1,0,1,0,0,1,0,0,1] (bodyOf Tryz.f50)),.blk 1,.code (cp [1,1,0,1,0,0,1,1] (bodyOf Tryz.f50)),.lp (cp [1,1,0,1,0] (bodyOf Tryz.f50)),.blk 0,.code (cp [1,1,1] (bodyOf Tryz.f50))] (FinX Tryz.prog Tryz.f50 [] (bl r) []) ⟨[(1,.ptr 1 0),(3,i64 t3),(4,i64 4)],[(1,⟨true,0,(cT38 a0)⟩)]⟩:=by
 unfold Dspec_DeskOk_11 at h
 obtain⟨v36,y36,h⟩:=bm h
 refine x_frk 36 [(5,.call [] [] (i64 v36) [])] (ocons (Tspec_l8Count (Y:=Y) n a0.1.2.2.2.2.1 301 _ y36) onil) h (by kernel_rfl) (fun h=>?_) (fun h=>?_)
 ·obtain⟨v37,y37,h⟩:=bm h
  refine x_frk 8 [(4,.call [] [] (bl v37) [])] (ocons (Tspec_SolidOk (Y:=Y) n a0.1.2.2.2.2.2.1 _ y37) onil) h (by kernel_rfl) (fun h=>?_) (fun h=>?_)
  ·replace h:=sj h;subst h
   exact x_end 20 [] [] onil onil 
  ·refine x_frk 6 [] onil h (by kernel_rfl) (fun h=>?_) (fun h=>?_)
   ·obtain⟨v38,y38,h⟩:=bm h
    exact x_to 9 [(4,.call [] [] (bl v38) [])] (ocons (Tspec_l20None (Y:=Y) a0.1.2.2.2.2.2.1 _ y38) onil) (Tspec_DeskOk_5 n (w64 (t3+v36)) (!v38) a0 r h) 
   ·exact x_to 11 [] onil (Tspec_DeskOk_10 n (w64 (t3+v36)) a0 r h) 
 ·refine x_frk 14 [] onil h (by kernel_rfl) (fun h=>?_) (fun h=>?_)
  ·obtain⟨v39,y39,h⟩:=bm h
   exact x_to 9 [(4,.call [] [] (bl v39) [])] (ocons (Tspec_l20None (Y:=Y) a0.1.2.2.2.2.2.1 _ y39) onil) (Tspec_DeskOk_5 n (w64 (t3+v36)) (!v39) a0 r h) 
  ·exact x_to 11 [] onil (Tspec_DeskOk_10 n (w64 (t3+v36)) a0 r h) 
def Dspec_DeskOk_3(n:Nat)(t3:Int)(t35:Bool)(a0:Dsk):Option Bool :=
 frk t35 (some false) ((Dspec_l8Count n a0.1.2.2.2.1 301).bind fun v11=>frk a0.2.2.2.2.2.1 ((Dspec_SolidOk n a0.1.2.2.2.2.1).bind fun v12=>frk (!v12) (some false) (frk (!a0.2.2.2.2.2.1) ((Dspec_l20None a0.1.2.2.2.2.1).bind fun v13=>Dspec_DeskOk_4 n (w64 (t3+v11)) (!v13) a0) (Dspec_DeskOk_11 n (w64 (t3+v11)) a0))) (frk (!a0.2.2.2.2.2.1) ((Dspec_l20None a0.1.2.2.2.2.1).bind fun v40=>Dspec_DeskOk_4 n (w64 (t3+v11)) (!v40) a0) (Dspec_DeskOk_11 n (w64 (t3+v11)) a0)))
theorem Tspec_DeskOk_3{Y}(n:Nat)(t3:Int)(t35:Bool)(a0:Dsk)(r:Bool)(h:Dspec_DeskOk_3 n t3 t35 a0=some r):Wk Tryz.prog H Y 50 [.code (cp [1,1,0,1,0,0,1,0,0,0,1] (bodyOf Tryz.f50)),.code (cp [1,1,0,1,0,0,1,0,0,1] (bodyOf Tryz.f50)),.blk 1,.code (cp [1,1,0,1,0,0,1,1] (bodyOf Tryz.f50)),.lp (cp [1,1,0,1,0] (bodyOf Tryz.f50)),.blk 0,.code (cp [1,1,1] (bodyOf Tryz.f50))] (FinX Tryz.prog Tryz.f50 [] (bl r) []) ⟨[(1,.ptr 1 0),(3,i64 t3),(4,i64 3),(35,bl t35)],[(1,⟨true,0,(cT38 a0)⟩)]⟩:=by
 unfold Dspec_DeskOk_3 at h
 refine x_frk 0 [] onil h (by kernel_rfl) (fun h=>?_) (fun h=>?_)
 ·replace h:=sj h;subst h
  exact x_end 4 [] [] onil onil 
 ·obtain⟨v11,y11,h⟩:=bm h
  refine x_frk 37 [(5,.call [] [] (i64 v11) [])] (ocons (Tspec_l8Count (Y:=Y) n a0.1.2.2.2.1 301 _ y11) onil) h (by kernel_rfl) (fun h=>?_) (fun h=>?_)
  ·obtain⟨v12,y12,h⟩:=bm h
   refine x_frk 8 [(4,.call [] [] (bl v12) [])] (ocons (Tspec_SolidOk (Y:=Y) n a0.1.2.2.2.2.1 _ y12) onil) h (by kernel_rfl) (fun h=>?_) (fun h=>?_)
   ·replace h:=sj h;subst h
    exact x_end 20 [] [] onil onil 
   ·refine x_frk 6 [] onil h (by kernel_rfl) (fun h=>?_) (fun h=>?_)
    ·obtain⟨v13,y13,h⟩:=bm h
     exact x_to 9 [(4,.call [] [] (bl v13) [])] (ocons (Tspec_l20None (Y:=Y) a0.1.2.2.2.2.1 _ y13) onil) (Tspec_DeskOk_4 n (w64 (t3+v11)) (!v13) a0 r h) 
    ·exact x_to 11 [] onil (Tspec_DeskOk_11 n (w64 (t3+v11)) a0 r h) 
  ·refine x_frk 14 [] onil h (by kernel_rfl) (fun h=>?_) (fun h=>?_)
   ·obtain⟨v40,y40,h⟩:=bm h
    exact x_to 9 [(4,.call [] [] (bl v40) [])] (ocons (Tspec_l20None (Y:=Y) a0.1.2.2.2.2.1 _ y40) onil) (Tspec_DeskOk_4 n (w64 (t3+v11)) (!v40) a0 r h) 
   ·exact x_to 11 [] onil (Tspec_DeskOk_11 n (w64 (t3+v11)) a0 r h) 
def Dspec_DeskOk_12(n:Nat)(t3:Int)(a0:Dsk):Option Bool :=
 (Dspec_l8Count n a0.1.2.2.2.1 301).bind fun v41=>frk a0.2.2.2.2.2.1 ((Dspec_SolidOk n a0.1.2.2.2.2.1).bind fun v42=>frk (!v42) (some false) (frk (!a0.2.2.2.2.2.1) ((Dspec_l20None a0.1.2.2.2.2.1).bind fun v43=>Dspec_DeskOk_4 n (w64 (t3+v41)) (!v43) a0) (Dspec_DeskOk_11 n (w64 (t3+v41)) a0))) (frk (!a0.2.2.2.2.2.1) ((Dspec_l20None a0.1.2.2.2.2.1).bind fun v44=>Dspec_DeskOk_4 n (w64 (t3+v41)) (!v44) a0) (Dspec_DeskOk_11 n (w64 (t3+v41)) a0))
theorem Tspec_DeskOk_12{Y}(n:Nat)(t3:Int)(a0:Dsk)(r:Bool)(h:Dspec_DeskOk_12 n t3 a0=some r):Wk Tryz.prog H Y 50 [.code (cp [1,1,0,1,0,0,1,0,0,1] (bodyOf Tryz.f50)),.blk 1,.code (cp [1,1,0,1,0,0,1,1] (bodyOf Tryz.f50)),.lp (cp [1,1,0,1,0] (bodyOf Tryz.f50)),.blk 0,.code (cp [1,1,1] (bodyOf Tryz.f50))] (FinX Tryz.prog Tryz.f50 [] (bl r) []) ⟨[(1,.ptr 1 0),(3,i64 t3),(4,i64 3)],[(1,⟨true,0,(cT38 a0)⟩)]⟩:=by
 unfold Dspec_DeskOk_12 at h
 obtain⟨v41,y41,h⟩:=bm h
 refine x_frk 36 [(5,.call [] [] (i64 v41) [])] (ocons (Tspec_l8Count (Y:=Y) n a0.1.2.2.2.1 301 _ y41) onil) h (by kernel_rfl) (fun h=>?_) (fun h=>?_)
 ·obtain⟨v42,y42,h⟩:=bm h
  refine x_frk 8 [(4,.call [] [] (bl v42) [])] (ocons (Tspec_SolidOk (Y:=Y) n a0.1.2.2.2.2.1 _ y42) onil) h (by kernel_rfl) (fun h=>?_) (fun h=>?_)
  ·replace h:=sj h;subst h
   exact x_end 20 [] [] onil onil 
  ·refine x_frk 6 [] onil h (by kernel_rfl) (fun h=>?_) (fun h=>?_)
   ·obtain⟨v43,y43,h⟩:=bm h
    exact x_to 9 [(4,.call [] [] (bl v43) [])] (ocons (Tspec_l20None (Y:=Y) a0.1.2.2.2.2.1 _ y43) onil) (Tspec_DeskOk_4 n (w64 (t3+v41)) (!v43) a0 r h) 
   ·exact x_to 11 [] onil (Tspec_DeskOk_11 n (w64 (t3+v41)) a0 r h) 
 ·refine x_frk 14 [] onil h (by kernel_rfl) (fun h=>?_) (fun h=>?_)
  ·obtain⟨v44,y44,h⟩:=bm h
   exact x_to 9 [(4,.call [] [] (bl v44) [])] (ocons (Tspec_l20None (Y:=Y) a0.1.2.2.2.2.1 _ y44) onil) (Tspec_DeskOk_4 n (w64 (t3+v41)) (!v44) a0 r h) 
  ·exact x_to 11 [] onil (Tspec_DeskOk_11 n (w64 (t3+v41)) a0 r h) 
def Dspec_DeskOk_2(n:Nat)(t3:Int)(t35:Bool)(a0:Dsk):Option Bool :=
 frk t35 (some false) ((Dspec_l8Count n a0.1.2.2.1 301).bind fun v8=>frk a0.2.2.2.2.1 ((Dspec_SolidOk n a0.1.2.2.2.1).bind fun v9=>frk (!v9) (some false) (frk (!a0.2.2.2.2.1) ((Dspec_l20None a0.1.2.2.2.1).bind fun v10=>Dspec_DeskOk_3 n (w64 (t3+v8)) (!v10) a0) (Dspec_DeskOk_12 n (w64 (t3+v8)) a0))) (frk (!a0.2.2.2.2.1) ((Dspec_l20None a0.1.2.2.2.1).bind fun v45=>Dspec_DeskOk_3 n (w64 (t3+v8)) (!v45) a0) (Dspec_DeskOk_12 n (w64 (t3+v8)) a0)))
theorem Tspec_DeskOk_2{Y}(n:Nat)(t3:Int)(t35:Bool)(a0:Dsk)(r:Bool)(h:Dspec_DeskOk_2 n t3 t35 a0=some r):Wk Tryz.prog H Y 50 [.code (cp [1,1,0,1,0,0,1,0,0,0,1] (bodyOf Tryz.f50)),.code (cp [1,1,0,1,0,0,1,0,0,1] (bodyOf Tryz.f50)),.blk 1,.code (cp [1,1,0,1,0,0,1,1] (bodyOf Tryz.f50)),.lp (cp [1,1,0,1,0] (bodyOf Tryz.f50)),.blk 0,.code (cp [1,1,1] (bodyOf Tryz.f50))] (FinX Tryz.prog Tryz.f50 [] (bl r) []) ⟨[(1,.ptr 1 0),(3,i64 t3),(4,i64 2),(35,bl t35)],[(1,⟨true,0,(cT38 a0)⟩)]⟩:=by
 unfold Dspec_DeskOk_2 at h
 refine x_frk 0 [] onil h (by kernel_rfl) (fun h=>?_) (fun h=>?_)
 ·replace h:=sj h;subst h
  exact x_end 4 [] [] onil onil 
 ·obtain⟨v8,y8,h⟩:=bm h
  refine x_frk 37 [(5,.call [] [] (i64 v8) [])] (ocons (Tspec_l8Count (Y:=Y) n a0.1.2.2.1 301 _ y8) onil) h (by kernel_rfl) (fun h=>?_) (fun h=>?_)
  ·obtain⟨v9,y9,h⟩:=bm h
   refine x_frk 8 [(4,.call [] [] (bl v9) [])] (ocons (Tspec_SolidOk (Y:=Y) n a0.1.2.2.2.1 _ y9) onil) h (by kernel_rfl) (fun h=>?_) (fun h=>?_)
   ·replace h:=sj h;subst h
    exact x_end 20 [] [] onil onil 
   ·refine x_frk 6 [] onil h (by kernel_rfl) (fun h=>?_) (fun h=>?_)
    ·obtain⟨v10,y10,h⟩:=bm h
     exact x_to 9 [(4,.call [] [] (bl v10) [])] (ocons (Tspec_l20None (Y:=Y) a0.1.2.2.2.1 _ y10) onil) (Tspec_DeskOk_3 n (w64 (t3+v8)) (!v10) a0 r h) 
    ·exact x_to 11 [] onil (Tspec_DeskOk_12 n (w64 (t3+v8)) a0 r h) 
  ·refine x_frk 14 [] onil h (by kernel_rfl) (fun h=>?_) (fun h=>?_)
   ·obtain⟨v45,y45,h⟩:=bm h
    exact x_to 9 [(4,.call [] [] (bl v45) [])] (ocons (Tspec_l20None (Y:=Y) a0.1.2.2.2.1 _ y45) onil) (Tspec_DeskOk_3 n (w64 (t3+v8)) (!v45) a0 r h) 
   ·exact x_to 11 [] onil (Tspec_DeskOk_12 n (w64 (t3+v8)) a0 r h) 
def Dspec_DeskOk_13(n:Nat)(t3:Int)(a0:Dsk):Option Bool :=
 (Dspec_l8Count n a0.1.2.2.1 301).bind fun v46=>frk a0.2.2.2.2.1 ((Dspec_SolidOk n a0.1.2.2.2.1).bind fun v47=>frk (!v47) (some false) (frk (!a0.2.2.2.2.1) ((Dspec_l20None a0.1.2.2.2.1).bind fun v48=>Dspec_DeskOk_3 n (w64 (t3+v46)) (!v48) a0) (Dspec_DeskOk_12 n (w64 (t3+v46)) a0))) (frk (!a0.2.2.2.2.1) ((Dspec_l20None a0.1.2.2.2.1).bind fun v49=>Dspec_DeskOk_3 n (w64 (t3+v46)) (!v49) a0) (Dspec_DeskOk_12 n (w64 (t3+v46)) a0))
theorem Tspec_DeskOk_13{Y}(n:Nat)(t3:Int)(a0:Dsk)(r:Bool)(h:Dspec_DeskOk_13 n t3 a0=some r):Wk Tryz.prog H Y 50 [.code (cp [1,1,0,1,0,0,1,0,0,1] (bodyOf Tryz.f50)),.blk 1,.code (cp [1,1,0,1,0,0,1,1] (bodyOf Tryz.f50)),.lp (cp [1,1,0,1,0] (bodyOf Tryz.f50)),.blk 0,.code (cp [1,1,1] (bodyOf Tryz.f50))] (FinX Tryz.prog Tryz.f50 [] (bl r) []) ⟨[(1,.ptr 1 0),(3,i64 t3),(4,i64 2)],[(1,⟨true,0,(cT38 a0)⟩)]⟩:=by
 unfold Dspec_DeskOk_13 at h
 obtain⟨v46,y46,h⟩:=bm h
 refine x_frk 36 [(5,.call [] [] (i64 v46) [])] (ocons (Tspec_l8Count (Y:=Y) n a0.1.2.2.1 301 _ y46) onil) h (by kernel_rfl) (fun h=>?_) (fun h=>?_)
 ·obtain⟨v47,y47,h⟩:=bm h
  refine x_frk 8 [(4,.call [] [] (bl v47) [])] (ocons (Tspec_SolidOk (Y:=Y) n a0.1.2.2.2.1 _ y47) onil) h (by kernel_rfl) (fun h=>?_) (fun h=>?_)
  ·replace h:=sj h;subst h
   exact x_end 20 [] [] onil onil 
  ·refine x_frk 6 [] onil h (by kernel_rfl) (fun h=>?_) (fun h=>?_)
   ·obtain⟨v48,y48,h⟩:=bm h
    exact x_to 9 [(4,.call [] [] (bl v48) [])] (ocons (Tspec_l20None (Y:=Y) a0.1.2.2.2.1 _ y48) onil) (Tspec_DeskOk_3 n (w64 (t3+v46)) (!v48) a0 r h) 
   ·exact x_to 11 [] onil (Tspec_DeskOk_12 n (w64 (t3+v46)) a0 r h) 
 ·refine x_frk 14 [] onil h (by kernel_rfl) (fun h=>?_) (fun h=>?_)
  ·obtain⟨v49,y49,h⟩:=bm h
   exact x_to 9 [(4,.call [] [] (bl v49) [])] (ocons (Tspec_l20None (Y:=Y) a0.1.2.2.2.1 _ y49) onil) (Tspec_DeskOk_3 n (w64 (t3+v46)) (!v49) a0 r h) 
  ·exact x_to 11 [] onil (Tspec_DeskOk_12 n (w64 (t3+v46)) a0 r h) 
def Dspec_DeskOk_1(n:Nat)(t3:Int)(t35:Bool)(a0:Dsk):Option Bool :=
 frk t35 (some false) ((Dspec_l8Count n a0.1.2.1 301).bind fun v5=>frk a0.2.2.2.1 ((Dspec_SolidOk n a0.1.2.2.1).bind fun v6=>frk (!v6) (some false) (frk (!a0.2.2.2.1) ((Dspec_l20None a0.1.2.2.1).bind fun v7=>Dspec_DeskOk_2 n (w64 (t3+v5)) (!v7) a0) (Dspec_DeskOk_13 n (w64 (t3+v5)) a0))) (frk (!a0.2.2.2.1) ((Dspec_l20None a0.1.2.2.1).bind fun v50=>Dspec_DeskOk_2 n (w64 (t3+v5)) (!v50) a0) (Dspec_DeskOk_13 n (w64 (t3+v5)) a0)))
theorem Tspec_DeskOk_1{Y}(n:Nat)(t3:Int)(t35:Bool)(a0:Dsk)(r:Bool)(h:Dspec_DeskOk_1 n t3 t35 a0=some r):Wk Tryz.prog H Y 50 [.code (cp [1,1,0,1,0,0,1,0,0,0,1] (bodyOf Tryz.f50)),.code (cp [1,1,0,1,0,0,1,0,0,1] (bodyOf Tryz.f50)),.blk 1,.code (cp [1,1,0,1,0,0,1,1] (bodyOf Tryz.f50)),.lp (cp [1,1,0,1,0] (bodyOf Tryz.f50)),.blk 0,.code (cp [1,1,1] (bodyOf Tryz.f50))] (FinX Tryz.prog Tryz.f50 [] (bl r) []) ⟨[(1,.ptr 1 0),(3,i64 t3),(4,i64 1),(35,bl t35)],[(1,⟨true,0,(cT38 a0)⟩)]⟩:=by
 unfold Dspec_DeskOk_1 at h
 refine x_frk 0 [] onil h (by kernel_rfl) (fun h=>?_) (fun h=>?_)
 ·replace h:=sj h;subst h
  exact x_end 4 [] [] onil onil 
 ·obtain⟨v5,y5,h⟩:=bm h
  refine x_frk 37 [(5,.call [] [] (i64 v5) [])] (ocons (Tspec_l8Count (Y:=Y) n a0.1.2.1 301 _ y5) onil) h (by kernel_rfl) (fun h=>?_) (fun h=>?_)
  ·obtain⟨v6,y6,h⟩:=bm h
   refine x_frk 8 [(4,.call [] [] (bl v6) [])] (ocons (Tspec_SolidOk (Y:=Y) n a0.1.2.2.1 _ y6) onil) h (by kernel_rfl) (fun h=>?_) (fun h=>?_)
   ·replace h:=sj h;subst h
    exact x_end 20 [] [] onil onil 
   ·refine x_frk 6 [] onil h (by kernel_rfl) (fun h=>?_) (fun h=>?_)
    ·obtain⟨v7,y7,h⟩:=bm h
     exact x_to 9 [(4,.call [] [] (bl v7) [])] (ocons (Tspec_l20None (Y:=Y) a0.1.2.2.1 _ y7) onil) (Tspec_DeskOk_2 n (w64 (t3+v5)) (!v7) a0 r h) 
    ·exact x_to 11 [] onil (Tspec_DeskOk_13 n (w64 (t3+v5)) a0 r h) 
  ·refine x_frk 14 [] onil h (by kernel_rfl) (fun h=>?_) (fun h=>?_)
   ·obtain⟨v50,y50,h⟩:=bm h
    exact x_to 9 [(4,.call [] [] (bl v50) [])] (ocons (Tspec_l20None (Y:=Y) a0.1.2.2.1 _ y50) onil) (Tspec_DeskOk_2 n (w64 (t3+v5)) (!v50) a0 r h) 
   ·exact x_to 11 [] onil (Tspec_DeskOk_13 n (w64 (t3+v5)) a0 r h) 
def Dspec_DeskOk_14(n:Nat)(t3:Int)(a0:Dsk):Option Bool :=
 (Dspec_l8Count n a0.1.2.1 301).bind fun v51=>frk a0.2.2.2.1 ((Dspec_SolidOk n a0.1.2.2.1).bind fun v52=>frk (!v52) (some false) (frk (!a0.2.2.2.1) ((Dspec_l20None a0.1.2.2.1).bind fun v53=>Dspec_DeskOk_2 n (w64 (t3+v51)) (!v53) a0) (Dspec_DeskOk_13 n (w64 (t3+v51)) a0))) (frk (!a0.2.2.2.1) ((Dspec_l20None a0.1.2.2.1).bind fun v54=>Dspec_DeskOk_2 n (w64 (t3+v51)) (!v54) a0) (Dspec_DeskOk_13 n (w64 (t3+v51)) a0))
theorem Tspec_DeskOk_14{Y}(n:Nat)(t3:Int)(a0:Dsk)(r:Bool)(h:Dspec_DeskOk_14 n t3 a0=some r):Wk Tryz.prog H Y 50 [.code (cp [1,1,0,1,0,0,1,0,0,1] (bodyOf Tryz.f50)),.blk 1,.code (cp [1,1,0,1,0,0,1,1] (bodyOf Tryz.f50)),.lp (cp [1,1,0,1,0] (bodyOf Tryz.f50)),.blk 0,.code (cp [1,1,1] (bodyOf Tryz.f50))] (FinX Tryz.prog Tryz.f50 [] (bl r) []) ⟨[(1,.ptr 1 0),(3,i64 t3),(4,i64 1)],[(1,⟨true,0,(cT38 a0)⟩)]⟩:=by
 unfold Dspec_DeskOk_14 at h
 obtain⟨v51,y51,h⟩:=bm h
 refine x_frk 36 [(5,.call [] [] (i64 v51) [])] (ocons (Tspec_l8Count (Y:=Y) n a0.1.2.1 301 _ y51) onil) h (by kernel_rfl) (fun h=>?_) (fun h=>?_)
 ·obtain⟨v52,y52,h⟩:=bm h
  refine x_frk 8 [(4,.call [] [] (bl v52) [])] (ocons (Tspec_SolidOk (Y:=Y) n a0.1.2.2.1 _ y52) onil) h (by kernel_rfl) (fun h=>?_) (fun h=>?_)
  ·replace h:=sj h;subst h
   exact x_end 20 [] [] onil onil 
  ·refine x_frk 6 [] onil h (by kernel_rfl) (fun h=>?_) (fun h=>?_)
   ·obtain⟨v53,y53,h⟩:=bm h
    exact x_to 9 [(4,.call [] [] (bl v53) [])] (ocons (Tspec_l20None (Y:=Y) a0.1.2.2.1 _ y53) onil) (Tspec_DeskOk_2 n (w64 (t3+v51)) (!v53) a0 r h) 
   ·exact x_to 11 [] onil (Tspec_DeskOk_13 n (w64 (t3+v51)) a0 r h) 
 ·refine x_frk 14 [] onil h (by kernel_rfl) (fun h=>?_) (fun h=>?_)
  ·obtain⟨v54,y54,h⟩:=bm h
   exact x_to 9 [(4,.call [] [] (bl v54) [])] (ocons (Tspec_l20None (Y:=Y) a0.1.2.2.1 _ y54) onil) (Tspec_DeskOk_2 n (w64 (t3+v51)) (!v54) a0 r h) 
  ·exact x_to 11 [] onil (Tspec_DeskOk_13 n (w64 (t3+v51)) a0 r h) 
def Dspec_DeskOk_0(n:Nat)(t35:Bool)(a0:Dsk):Option Bool :=
 frk t35 (some false) ((Dspec_l8Count n a0.1.1 301).bind fun v2=>frk a0.2.2.1 ((Dspec_SolidOk n a0.1.2.1).bind fun v3=>frk (!v3) (some false) (frk (!a0.2.2.1) ((Dspec_l20None a0.1.2.1).bind fun v4=>Dspec_DeskOk_1 n (w64 (0+v2)) (!v4) a0) (Dspec_DeskOk_14 n (w64 (0+v2)) a0))) (frk (!a0.2.2.1) ((Dspec_l20None a0.1.2.1).bind fun v55=>Dspec_DeskOk_1 n (w64 (0+v2)) (!v55) a0) (Dspec_DeskOk_14 n (w64 (0+v2)) a0)))
theorem Tspec_DeskOk_0{Y}(n:Nat)(t35:Bool)(a0:Dsk)(r:Bool)(h:Dspec_DeskOk_0 n t35 a0=some r):Wk Tryz.prog H Y 50 [.code (cp [1,1,0,1,0,0,1,0,0,0,1] (bodyOf Tryz.f50)),.code (cp [1,1,0,1,0,0,1,0,0,1] (bodyOf Tryz.f50)),.blk 1,.code (cp [1,1,0,1,0,0,1,1] (bodyOf Tryz.f50)),.lp (cp [1,1,0,1,0] (bodyOf Tryz.f50)),.blk 0,.code (cp [1,1,1] (bodyOf Tryz.f50))] (FinX Tryz.prog Tryz.f50 [] (bl r) []) ⟨[(1,.ptr 1 0),(3,i64 0),(4,i64 0),(35,bl t35)],[(1,⟨true,0,(cT38 a0)⟩)]⟩:=by
 unfold Dspec_DeskOk_0 at h
 refine x_frk 0 [] onil h (by kernel_rfl) (fun h=>?_) (fun h=>?_)
 ·replace h:=sj h;subst h
  exact x_end 4 [] [] onil onil 
 ·obtain⟨v2,y2,h⟩:=bm h
  refine x_frk 37 [(5,.call [] [] (i64 v2) [])] (ocons (Tspec_l8Count (Y:=Y) n a0.1.1 301 _ y2) onil) h (by kernel_rfl) (fun h=>?_) (fun h=>?_)
  ·obtain⟨v3,y3,h⟩:=bm h
   refine x_frk 8 [(4,.call [] [] (bl v3) [])] (ocons (Tspec_SolidOk (Y:=Y) n a0.1.2.1 _ y3) onil) h (by kernel_rfl) (fun h=>?_) (fun h=>?_)
   ·replace h:=sj h;subst h
    exact x_end 20 [] [] onil onil 
   ·refine x_frk 6 [] onil h (by kernel_rfl) (fun h=>?_) (fun h=>?_)
    ·obtain⟨v4,y4,h⟩:=bm h
     exact x_to 9 [(4,.call [] [] (bl v4) [])] (ocons (Tspec_l20None (Y:=Y) a0.1.2.1 _ y4) onil) (Tspec_DeskOk_1 n (w64 (0+v2)) (!v4) a0 r h) 
    ·exact x_to 11 [] onil (Tspec_DeskOk_14 n (w64 (0+v2)) a0 r h) 
  ·refine x_frk 14 [] onil h (by kernel_rfl) (fun h=>?_) (fun h=>?_)
   ·obtain⟨v55,y55,h⟩:=bm h
    exact x_to 9 [(4,.call [] [] (bl v55) [])] (ocons (Tspec_l20None (Y:=Y) a0.1.2.1 _ y55) onil) (Tspec_DeskOk_1 n (w64 (0+v2)) (!v55) a0 r h) 
   ·exact x_to 11 [] onil (Tspec_DeskOk_14 n (w64 (0+v2)) a0 r h) 
def Dspec_DeskOk_15(n:Nat)(a0:Dsk):Option Bool :=
 (Dspec_l8Count n a0.1.1 301).bind fun v56=>frk a0.2.2.1 ((Dspec_SolidOk n a0.1.2.1).bind fun v57=>frk (!v57) (some false) (frk (!a0.2.2.1) ((Dspec_l20None a0.1.2.1).bind fun v58=>Dspec_DeskOk_1 n (w64 (0+v56)) (!v58) a0) (Dspec_DeskOk_14 n (w64 (0+v56)) a0))) (frk (!a0.2.2.1) ((Dspec_l20None a0.1.2.1).bind fun v59=>Dspec_DeskOk_1 n (w64 (0+v56)) (!v59) a0) (Dspec_DeskOk_14 n (w64 (0+v56)) a0))
theorem Tspec_DeskOk_15{Y}(n:Nat)(a0:Dsk)(r:Bool)(h:Dspec_DeskOk_15 n a0=some r):Wk Tryz.prog H Y 50 [.code (cp [1,1,0,1,0,0,1,0,0,1] (bodyOf Tryz.f50)),.blk 1,.code (cp [1,1,0,1,0,0,1,1] (bodyOf Tryz.f50)),.lp (cp [1,1,0,1,0] (bodyOf Tryz.f50)),.blk 0,.code (cp [1,1,1] (bodyOf Tryz.f50))] (FinX Tryz.prog Tryz.f50 [] (bl r) []) ⟨[(1,.ptr 1 0),(3,i64 0),(4,i64 0)],[(1,⟨true,0,(cT38 a0)⟩)]⟩:=by
 unfold Dspec_DeskOk_15 at h
 obtain⟨v56,y56,h⟩:=bm h
 refine x_frk 36 [(5,.call [] [] (i64 v56) [])] (ocons (Tspec_l8Count (Y:=Y) n a0.1.1 301 _ y56) onil) h (by kernel_rfl) (fun h=>?_) (fun h=>?_)
 ·obtain⟨v57,y57,h⟩:=bm h
  refine x_frk 8 [(4,.call [] [] (bl v57) [])] (ocons (Tspec_SolidOk (Y:=Y) n a0.1.2.1 _ y57) onil) h (by kernel_rfl) (fun h=>?_) (fun h=>?_)
  ·replace h:=sj h;subst h
   exact x_end 20 [] [] onil onil 
  ·refine x_frk 6 [] onil h (by kernel_rfl) (fun h=>?_) (fun h=>?_)
   ·obtain⟨v58,y58,h⟩:=bm h
    exact x_to 9 [(4,.call [] [] (bl v58) [])] (ocons (Tspec_l20None (Y:=Y) a0.1.2.1 _ y58) onil) (Tspec_DeskOk_1 n (w64 (0+v56)) (!v58) a0 r h) 
   ·exact x_to 11 [] onil (Tspec_DeskOk_14 n (w64 (0+v56)) a0 r h) 
 ·refine x_frk 14 [] onil h (by kernel_rfl) (fun h=>?_) (fun h=>?_)
  ·obtain⟨v59,y59,h⟩:=bm h
   exact x_to 9 [(4,.call [] [] (bl v59) [])] (ocons (Tspec_l20None (Y:=Y) a0.1.2.1 _ y59) onil) (Tspec_DeskOk_1 n (w64 (0+v56)) (!v59) a0 r h) 
  ·exact x_to 11 [] onil (Tspec_DeskOk_14 n (w64 (0+v56)) a0 r h) 
def Dspec_DeskOk(n:Nat)(a0:Dsk):Option Bool :=
 frk a0.2.1 ((Dspec_SolidOk n a0.1.1).bind fun v0=>frk (!v0) (some false) (frk (!a0.2.1) ((Dspec_l20None a0.1.1).bind fun v1=>Dspec_DeskOk_0 n (!v1) a0) (Dspec_DeskOk_15 n a0))) (frk (!a0.2.1) ((Dspec_l20None a0.1.1).bind fun v60=>Dspec_DeskOk_0 n (!v60) a0) (Dspec_DeskOk_15 n a0))
theorem Tspec_DeskOk{Y}(n:Nat)(a0:Dsk)(r:Bool)(h:Dspec_DeskOk n a0=some r):Big Tryz.prog H Y (.call 50 [.agg (cT38 a0)] (lk []) (bl r) (lk [])):=by
 unfold Dspec_DeskOk at h
 refine x_call (fn:=Tryz.f50) (c:=bodyOf Tryz.f50) (bs0:=[]) Tryz.func50 (by kernel_rfl) (by kernel_rfl) ?_
 refine x_frk 34 [] onil h (by kernel_rfl) (fun h=>?_) (fun h=>?_)
 ·obtain⟨v0,y0,h⟩:=bm h
  refine x_frk 8 [(4,.call [] [] (bl v0) [])] (ocons (Tspec_SolidOk (Y:=Y) n a0.1.1 _ y0) onil) h (by kernel_rfl) (fun h=>?_) (fun h=>?_)
  ·replace h:=sj h;subst h
   exact x_end 20 [] [] onil onil 
  ·refine x_frk 6 [] onil h (by kernel_rfl) (fun h=>?_) (fun h=>?_)
   ·obtain⟨v1,y1,h⟩:=bm h
    exact x_to 9 [(4,.call [] [] (bl v1) [])] (ocons (Tspec_l20None (Y:=Y) a0.1.1 _ y1) onil) (Tspec_DeskOk_0 n (!v1) a0 r h) 
   ·exact x_to 11 [] onil (Tspec_DeskOk_15 n a0 r h) 
 ·refine x_frk 14 [] onil h (by kernel_rfl) (fun h=>?_) (fun h=>?_)
  ·obtain⟨v60,y60,h⟩:=bm h
   exact x_to 9 [(4,.call [] [] (bl v60) [])] (ocons (Tspec_l20None (Y:=Y) a0.1.1 _ y60) onil) (Tspec_DeskOk_0 n (!v60) a0 r h) 
  ·exact x_to 11 [] onil (Tspec_DeskOk_15 n a0 r h) 
def Dspec_l8Copy_0(_n:Nat)(self:Sol→Option Sol)(_zab:Bool)(_zac _zad _zae _zaf:Int)(zag:List Sol)(_za:Bool)(_zb _zc _zd _ze:Int)(zg:Bool)(zh zi zj zah:Int)(rec0:(Int×List Sol)→Option Sol)(a:(Int×List Sol)):Option Sol :=
 match a with
 | (t4,l635)=>frk (decide (t4<(zag.length:Int))) ((lget zag t4).bind fun v0=>(self v0).bind fun v1=>chk (apB 64 (l635.length+1)) (rec0 (w64 (t4+1),(l635++[v1])))) (some (Sol.mk zg (Pl.mk zh zi zj zah) l635))
theorem Tspec_l8Copy_0{Y}(n:Nat)(self:Sol→Option Sol)(hself:∀(a:Sol) (r:Sol),self a=some r→Big Tryz.prog H Y (.call 117 [eF a] (lk []) (eS r) (lk [])))(zab:Bool)(zac zad zae zaf:Int)(zag:List Sol)(za:Bool)(zb zc zd ze:Int)(zg:Bool)(zh zi zj zah:Int):∀(m:Nat) (a:(Int×List Sol)) (r:Sol),loopN (Dspec_l8Copy_0 n self zab zac zad zae zaf zag za zb zc zd ze zg zh zi zj zah) m a=some r→Wk Tryz.prog H Y 117 [.code (cp [1,1,0,1,0] (bodyOf Tryz.f117)),.blk 0,.code (cp [1,1,1] (bodyOf Tryz.f117))] (FinX Tryz.prog Tryz.f117 [] (eS r) []) ⟨[(1,.ptr 1 0),(2,.ptr 2 0),(3,.ptr 3 0),(4,i64 a.1)],[(1,⟨true,0,[bl zab,i64 zac,i64 zad,i64 zae,i64 zaf,.sl false 6 zag.length ((eSol false).f zag)]⟩),(2,⟨true,0,[bl za,i64 zb,i64 zc,i64 zd,i64 ze,.nil]⟩),(3,⟨true,0,[bl zg,i64 zh,i64 zi,i64 zj,i64 zah,.msl 635 a.2.length]⟩),(635,⟨true,6,(eSol true).f a.2⟩)]⟩:=by
 refine loopN_ind (fun _rec0 hrec0 a r h=>?_)
 obtain⟨t4,l635⟩:=a
 unfold Dspec_l8Copy_0 at h
 refine x_frk 10 [] onil h (by kernel_rfl) (fun h=>?_) (fun h=>?_)
 ·obtain⟨v0,y0,h⟩:=bm h
  obtain⟨v1,y1,h⟩:=bm h
  obtain⟨c2,h⟩:=chk_some h
  exact x_to 26 [(5,.val (.cptr ((eSol false).c v0++(eSol false).f ((zag).drop (Int.toNat t4+1))))),(1,.call [] [] (eS v1) []),(1,.fixb 25 ⟨true,6,(eSol true).f [v1]⟩),(0,.app true (List.length (l635++[v1])) ((eSol true).f (l635++[v1]))),(5,.ren 26 635)] (ocons (ix (eSol false) y0) (ocons (hself v0 _ y1) (ocons (boxSol true true [v1]) (ocons (len_row' (L:=l635) (eSol true)) (ocons (app_one (L:=l635) (M:=[v1]) (eSol true) c2) (ocons (app_new (L:=l635) (M:=[v1]) (eSol true)) (ocons (app_m (L:=l635) (M:=[v1]) (eSol true) rfl) (ocons (len_row' (L:=[v1]) (eSol true)) (ocons (show 26<1000∧635<1000 by decide) onil))))))))) (hrec0 (w64 (t4+1),(l635++[v1])) r h) 
 ·replace h:=sj h;subst h
  exact x_end 6 [] [] onil (ocons (len_row (L:=l635) (eSol true)) onil) 
def Dspec_l8Copy_b(n:Nat)(self:Sol→Option Sol)(a:Sol):Option Sol :=
 match a with
 | a0=>loopN (Dspec_l8Copy_0 n self a0.inn a0.pl.A a0.pl.B a0.pl.C a0.pl.D a0.kids false 0 0 0 0 a0.inn a0.pl.A a0.pl.B a0.pl.C a0.pl.D) n (0,[])
def Dspec_l8Copy(n:Nat)(a0:Sol):Option Sol:=loopN (Dspec_l8Copy_b n) n a0
theorem Tspec_l8Copy_b{Y}(n:Nat):∀(m:Nat) (a:Sol) (r:Sol),loopN (Dspec_l8Copy_b n) m a=some r→∀(_:Unit),Big Tryz.prog H Y (.call 117 [eF a] (lk []) (eS r) (lk [])):=by
 refine loopN_ind (fun self hs a r h=>?_)
 have hself:∀(a:Sol) (r:Sol),self a=some r→Big Tryz.prog H Y (.call 117 [eF a] (lk []) (eS r) (lk [])):=fun a r h=>hs a r h ()
 intro _
 obtain⟨a0,rfl⟩:∃x,x=a:=⟨a,rfl⟩
 unfold Dspec_l8Copy_b at h
 refine x_call (fn:=Tryz.f117) (c:=bodyOf Tryz.f117) (bs0:=[]) Tryz.func117 (by kernel_rfl) (by kernel_rfl) ?_
 exact x_to 22 [(9,.virtc 3 ⟨true,0,[bl a0.inn,i64 a0.pl.A,i64 a0.pl.B,i64 a0.pl.C,i64 a0.pl.D,.nil]⟩ 5 635 6)] (ocons (rflB ⟨true,0,[bl a0.inn,i64 a0.pl.A,i64 a0.pl.B,i64 a0.pl.C,i64 a0.pl.D,.nil]⟩) (ocons (⟨rfl,rfl,by decide,by decide,by decide⟩:(⟨true,0,[bl a0.inn,i64 a0.pl.A,i64 a0.pl.B,i64 a0.pl.C,i64 a0.pl.D,.nil]⟩:Box).cs[5]?=some .nil∧(⟨true,0,[bl a0.inn,i64 a0.pl.A,i64 a0.pl.B,i64 a0.pl.C,i64 a0.pl.D,.nil]⟩:Box).sz=0∧3≠635∧635<1000∧6≠0) onil)) (Tspec_l8Copy_0 n self hself a0.inn a0.pl.A a0.pl.B a0.pl.C a0.pl.D a0.kids false 0 0 0 0 a0.inn a0.pl.A a0.pl.B a0.pl.C a0.pl.D n (0,[]) r h) 
theorem Tspec_l8Copy{Y}(n:Nat)(a0:Sol)(r:Sol)(h:Dspec_l8Copy n a0=some r):Big Tryz.prog H Y (.call 117 [eF a0] (lk []) (eS r) (lk [])):=Tspec_l8Copy_b n n a0 r h ()
def Dspec_l20Copy(n:Nat)(a0:Dsk):Option Dsk :=
 (Dspec_l8Copy n a0.1.1).bind fun v0=>(Dspec_l8Copy n a0.1.2.1).bind fun v1=>(Dspec_l8Copy n a0.1.2.2.1).bind fun v2=>(Dspec_l8Copy n a0.1.2.2.2.1).bind fun v3=>(Dspec_l8Copy n a0.1.2.2.2.2.1).bind fun v4=>(Dspec_l8Copy n a0.1.2.2.2.2.2.1).bind fun v5=>(Dspec_l8Copy n a0.1.2.2.2.2.2.2.1).bind fun v6=>(Dspec_l8Copy n a0.1.2.2.2.2.2.2.2).bind fun v7=>some ((v0,v1,v2,v3,v4,v5,v6,v7),a0.2)
theorem Tspec_l20Copy{Y}(n:Nat)(a0:Dsk)(r:Dsk)(h:Dspec_l20Copy n a0=some r):Big Tryz.prog H Y (.call 53 [.agg (cT38 a0)] (lk []) (.agg (cT38o r)) (lk [])):=by
 unfold Dspec_l20Copy at h
 refine x_call (fn:=Tryz.f53) (c:=bodyOf Tryz.f53) (bs0:=[]) Tryz.func53 (by kernel_rfl) (by kernel_rfl) ?_
 obtain⟨v0,y0,h⟩:=bm h
 obtain⟨v1,y1,h⟩:=bm h
 obtain⟨v2,y2,h⟩:=bm h
 obtain⟨v3,y3,h⟩:=bm h
 obtain⟨v4,y4,h⟩:=bm h
 obtain⟨v5,y5,h⟩:=bm h
 obtain⟨v6,y6,h⟩:=bm h
 obtain⟨v7,y7,h⟩:=bm h
 replace h:=sj h;subst h
 exact x_end 263 [(13,.call [] [] (eS v0) []),(13,.call [] [] (eS v1) []),(13,.call [] [] (eS v2) []),(13,.call [] [] (eS v3) []),(13,.call [] [] (eS v4) []),(13,.call [] [] (eS v5) []),(13,.call [] [] (eS v6) []),(13,.call [] [] (eS v7) [])] [] (ocons (Tspec_l8Copy (Y:=Y) n a0.1.1 _ y0) (ocons (Tspec_l8Copy (Y:=Y) n a0.1.2.1 _ y1) (ocons (Tspec_l8Copy (Y:=Y) n a0.1.2.2.1 _ y2) (ocons (Tspec_l8Copy (Y:=Y) n a0.1.2.2.2.1 _ y3) (ocons (Tspec_l8Copy (Y:=Y) n a0.1.2.2.2.2.1 _ y4) (ocons (Tspec_l8Copy (Y:=Y) n a0.1.2.2.2.2.2.1 _ y5) (ocons (Tspec_l8Copy (Y:=Y) n a0.1.2.2.2.2.2.2.1 _ y6) (ocons (Tspec_l8Copy (Y:=Y) n a0.1.2.2.2.2.2.2.2 _ y7) onil)))))))) onil 
def Dspec_l20At(a0:Int):Option Bool :=
 (Dspec_l1In a0 0 7).bind fun v0=>some v0
theorem Tspec_l20At{Y}(a0:Int)(r:Bool)(h:Dspec_l20At a0=some r):Big Tryz.prog H Y (.call 51 [i64 a0] (lk []) (bl r) (lk [])):=by
 unfold Dspec_l20At at h
 refine x_call (fn:=Tryz.f51) (c:=bodyOf Tryz.f51) (bs0:=[]) Tryz.func51 (by kernel_rfl) (by kernel_rfl) ?_
 obtain⟨v0,y0,h⟩:=bm h
 replace h:=sj h;subst h
 exact x_end 10 [(2,.call [] [] (bl v0) [])] [] (ocons (Tspec_l1In (Y:=Y) a0 0 7 _ y0) onil) onil 
def Dspec_PtOk(a0:Pt):Option Bool :=
 (Dspec_l1In a0.X (-1000000) 1000000).bind fun v0=>frk v0 ((Dspec_l1In a0.Y (-1000000) 1000000).bind fun v1=>frk v1 ((Dspec_l1In a0.Z (-1000000) 1000000).bind fun v2=>some v2) (some false)) (some false)
theorem Tspec_PtOk{Y}(a0:Pt)(r:Bool)(h:Dspec_PtOk a0=some r):Big Tryz.prog H Y (.call 69 [.agg [i64 a0.X,i64 a0.Y,i64 a0.Z]] (lk []) (bl r) (lk [])):=by
 unfold Dspec_PtOk at h
 refine x_call (fn:=Tryz.f69) (c:=bodyOf Tryz.f69) (bs0:=[]) Tryz.func69 (by kernel_rfl) (by kernel_rfl) ?_
 obtain⟨v0,y0,h⟩:=bm h
 refine x_frk 11 [(4,.call [] [] (bl v0) [])] (ocons (Tspec_l1In (Y:=Y) a0.X (-1000000) 1000000 _ y0) onil) h (by kernel_rfl) (fun h=>?_) (fun h=>?_)
 ·obtain⟨v1,y1,h⟩:=bm h
  refine x_frk 5 [(2,.call [] [] (bl v1) [])] (ocons (Tspec_l1In (Y:=Y) a0.Y (-1000000) 1000000 _ y1) onil) h (by kernel_rfl) (fun h=>?_) (fun h=>?_)
  ·obtain⟨v2,y2,h⟩:=bm h
   replace h:=sj h;subst h
   exact x_end 6 [(2,.call [] [] (bl v2) [])] [] (ocons (Tspec_l1In (Y:=Y) a0.Z (-1000000) 1000000 _ y2) onil) onil 
  ·replace h:=sj h;subst h
   exact x_end 6 [] [] onil onil 
 ·replace h:=sj h;subst h
  exact x_end 11 [] [] onil onil 
def Dspec_Leaf(a0:Bool):Option Sol :=
 some (Sol.mk a0 (Pl.mk 0 0 0 0) [])
theorem Tspec_Leaf{Y}(a0:Bool)(r:Sol)(h:Dspec_Leaf a0=some r):Big Tryz.prog H Y (.call 118 [bl a0] (lk []) (eS r) (lk [])):=by
 unfold Dspec_Leaf at h
 refine x_call (fn:=Tryz.f118) (c:=bodyOf Tryz.f118) (bs0:=[]) Tryz.func118 (by kernel_rfl) (by kernel_rfl) ?_
 replace h:=sj h;subst h
 exact x_end 10 [] [(true,6)] onil onil 
def Dspec_l1Num_1(_n:Nat)(t0:Bool)(t1:List Int)(t5:Int)(_zk:Bool):Option Num :=
 frk t0 ((lsl t1 0 t5).bind fun v1=>chk (apB 8 (0+v1.length)) (some (Num.mk (decide (t5>0)) ([]++v1)))) ((lsl t1 0 t5).bind fun v3=>chk (apB 8 (0+v3.length)) (some (Num.mk false ([]++v3))))
theorem Tspec_l1Num_1{Y}(n:Nat)(t0:Bool)(t1:List Int)(t5:Int)(zk:Bool)(r:Num)(h:Dspec_l1Num_1 n t0 t1 t5 zk=some r):Wk Tryz.prog H Y 236 [.code (cp [1,1,1,0] (bodyOf Tryz.f236)),.code (cp [1,1,1,1] (bodyOf Tryz.f236))] (FinX Tryz.prog Tryz.f236 [] (.agg [bl r.Neg,.sl true 1 r.D.length ((eInt).f r.D)]) []) ⟨[(0,bl t0),(1,.sl false 1 t1.length ((eInt).f t1)),(4,.ptr 4 0),(5,i64 t5)],[(4,⟨true,0,[bl zk,.nil]⟩)]⟩:=by
 unfold Dspec_l1Num_1 at h
 refine x_frk 3 [] onil h (by kernel_rfl) (fun h=>?_) (fun h=>?_)
 ·obtain⟨v1,y1,h⟩:=bm h
  obtain⟨c2,h⟩:=chk_some h
  replace h:=sj h;subst h
  exact x_end 11 [(6,.val (.sl false 1 v1.length ((eInt).f v1))),(0,.app false (List.length ([]++v1)) ((eInt).f ([]++v1)))] [] (ocons (slF eInt y1) (ocons (len_row' (L:=[]) eInt) (ocons (app_one (L:=[]) (M:=v1) eInt c2) (ocons (app_new (L:=[]) (M:=v1) eInt) (ocons (app_m (L:=[]) (M:=v1) eInt rfl) (ocons (len_row' (L:=v1) eInt) onil)))))) (ocons (len_row (L:=([]++v1)) eInt) onil) 
 ·obtain⟨v3,y3,h⟩:=bm h
  obtain⟨c4,h⟩:=chk_some h
  replace h:=sj h;subst h
  exact x_end 11 [(6,.val (.sl false 1 v3.length ((eInt).f v3))),(0,.app false (List.length ([]++v3)) ((eInt).f ([]++v3)))] [] (ocons (slF eInt y3) (ocons (len_row' (L:=[]) eInt) (ocons (app_one (L:=[]) (M:=v3) eInt c4) (ocons (app_new (L:=[]) (M:=v3) eInt) (ocons (app_m (L:=[]) (M:=v3) eInt rfl) (ocons (len_row' (L:=v3) eInt) onil)))))) (ocons (len_row (L:=([]++v3)) eInt) onil) 
def Dspec_l1Num_0(n:Nat)(rec0:Int→Option Num)(t0:Bool)(t1:List Int)(zk:Bool)(t5:Int)(t17:Bool):Option Num :=
 frk t17 (rec0 (w64 (t5-1))) (Dspec_l1Num_1 n t0 t1 t5 zk)
theorem Tspec_l1Num_0{Y}(n:Nat)(rec0:Int→Option Num)(t0:Bool)(t1:List Int)(zk:Bool)(hrec0:∀(a:Int) (r:Num),rec0 a=some r→Wk Tryz.prog H Y 236 [.code (cp [1,1,0,0] (bodyOf Tryz.f236)),.blk 0,.code (cp [1,1,1] (bodyOf Tryz.f236))] (FinX Tryz.prog Tryz.f236 [] (.agg [bl r.Neg,.sl true 1 r.D.length ((eInt).f r.D)]) []) ⟨[(0,bl t0),(1,.sl false 1 t1.length ((eInt).f t1)),(4,.ptr 4 0),(5,i64 a)],[(4,⟨true,0,[bl zk,.nil]⟩)]⟩)(t5:Int)(t17:Bool)(r:Num)(h:Dspec_l1Num_0 n rec0 t0 t1 zk t5 t17=some r):Wk Tryz.prog H Y 236 [.code (cp [1,1,0,0,0,0,1] (bodyOf Tryz.f236)),.code (cp [1,1,0,0,0,1] (bodyOf Tryz.f236)),.lp (cp [1,1,0,0] (bodyOf Tryz.f236)),.blk 0,.code (cp [1,1,1] (bodyOf Tryz.f236))] (FinX Tryz.prog Tryz.f236 [] (.agg [bl r.Neg,.sl true 1 r.D.length ((eInt).f r.D)]) []) ⟨[(0,bl t0),(1,.sl false 1 t1.length ((eInt).f t1)),(4,.ptr 4 0),(5,i64 t5),(17,bl t17)],[(4,⟨true,0,[bl zk,.nil]⟩)]⟩:=by
 unfold Dspec_l1Num_0 at h
 refine x_frk 0 [] onil h (by kernel_rfl) (fun h=>?_) (fun h=>?_)
 ·exact x_to 9 [] onil (hrec0 (w64 (t5-1)) r h) 
 ·exact x_to 2 [] onil (Tspec_l1Num_1 n t0 t1 t5 zk r h) 
def Dspec_l1Num_2(n:Nat)(t0:Bool)(t1:List Int)(zk:Bool)(rec0:Int→Option Num)(a:Int):Option Num :=
 match a with
 | t5=>frk (decide (t5>0)) ((lget t1 (w64 (t5-1))).bind fun v0=>Dspec_l1Num_0 n rec0 t0 t1 zk t5 (v0==0)) (Dspec_l1Num_1 n t0 t1 t5 zk)
theorem Tspec_l1Num_2{Y}(n:Nat)(t0:Bool)(t1:List Int)(zk:Bool):∀(m:Nat) (a:Int) (r:Num),loopN (Dspec_l1Num_2 n t0 t1 zk) m a=some r→Wk Tryz.prog H Y 236 [.code (cp [1,1,0,0] (bodyOf Tryz.f236)),.blk 0,.code (cp [1,1,1] (bodyOf Tryz.f236))] (FinX Tryz.prog Tryz.f236 [] (.agg [bl r.Neg,.sl true 1 r.D.length ((eInt).f r.D)]) []) ⟨[(0,bl t0),(1,.sl false 1 t1.length ((eInt).f t1)),(4,.ptr 4 0),(5,i64 a)],[(4,⟨true,0,[bl zk,.nil]⟩)]⟩:=by
 refine loopN_ind (fun rec0 hrec0 a r h=>?_)
 obtain⟨t5,rfl⟩:∃x,x=a:=⟨a,rfl⟩
 unfold Dspec_l1Num_2 at h
 refine x_frk 7 [] onil h (by kernel_rfl) (fun h=>?_) (fun h=>?_)
 ·obtain⟨v0,y0,h⟩:=bm h
  exact x_to 8 [(3,.val (.cptr (eInt.c v0++(eInt).f ((t1).drop (Int.toNat (w64 (t5-1))+1)))))] (ocons (ix eInt y0) onil) (Tspec_l1Num_0 n rec0 t0 t1 zk hrec0 t5 (v0==0) r h) 
 ·exact x_to 11 [] onil (Tspec_l1Num_1 n t0 t1 t5 zk r h) 
def Dspec_l1Num(n:Nat)(a0:Bool)(a1:(List Int)):Option Num :=
 loopN (Dspec_l1Num_2 n a0 a1 false) n (a1.length:Int)
theorem Tspec_l1Num{Y}(n:Nat)(a0:Bool)(a1:(List Int))(r:Num)(h:Dspec_l1Num n a0 a1=some r):Big Tryz.prog H Y (.call 236 [bl a0,.sl false 1 a1.length ((eInt).f a1)] (lk []) (.agg [bl r.Neg,.sl true 1 r.D.length ((eInt).f r.D)]) (lk [])):=by
 unfold Dspec_l1Num at h
 refine x_call (fn:=Tryz.f236) (c:=bodyOf Tryz.f236) (bs0:=[]) Tryz.func236 (by kernel_rfl) (by kernel_rfl) ?_
 exact x_to 12 [] onil (Tspec_l1Num_2 n a0 a1 false n (a1.length:Int) r h) 
def Dspec_Of_1(n:Nat)(t0:Int)(_za:Bool)(l14:List Int):Option Num :=
 (Dspec_l1Num n (decide (t0<0)) l14).bind fun v1=>some v1
theorem Tspec_Of_1{Y}(n:Nat)(t0:Int)(za:Bool)(l14:List Int)(r:Num)(h:Dspec_Of_1 n t0 za l14=some r):Wk Tryz.prog H Y 232 [.code (cp [1,1,1,1,1,0] (bodyOf Tryz.f232)),.code (cp [1,1,1,1,1,1] (bodyOf Tryz.f232))] (FinX Tryz.prog Tryz.f232 [] (.agg [bl r.Neg,.sl true 1 r.D.length ((eInt).f r.D)]) []) ⟨[(0,i64 t0),(2,.ptr 2 0),(4,.msl 14 l14.length)],[(2,⟨true,0,[bl za,.nil]⟩),(14,⟨true,1,(eInt).f l14⟩)]⟩:=by
 unfold Dspec_Of_1 at h
 obtain⟨v1,y1,h⟩:=bm h
 replace h:=sj h;subst h
 exact x_end 7 [(3,.call [] [(eInt).f l14] (.agg [bl v1.Neg,.sl true 1 v1.D.length ((eInt).f v1.D)]) [])] [] (ocons (Tspec_l1Num (Y:=Y) n (decide (t0<0)) l14 _ y1) (ocons (len_row (L:=l14) eInt) (ocons (Enc.share eInt eInt sInt l14) (ocons (show hasSh (.agg [bl v1.Neg,.sl true 1 v1.D.length ((eInt).f v1.D)])=false by simp[hasSh,hasShL,nSh,nShI,nShB,nShP,nShT,nShN,nShPs]) onil)))) onil 
def Dspec_Of_2(n:Nat)(t0:Int)(za:Bool)(rec0:(Int×List Int)→Option Num)(a:(Int×List Int)):Option Num :=
 match a with
 | (t3,l14)=>frk (decide (t3>0)) (chk (apB 8 (l14.length+1)) (rec0 (IntKind.u64.wrap (Int.tdiv t3 10000),(l14++[w64 (Int.tmod t3 10000)])))) (Dspec_Of_1 n t0 za l14)
theorem Tspec_Of_2{Y}(n:Nat)(t0:Int)(za:Bool):∀(m:Nat) (a:(Int×List Int)) (r:Num),loopN (Dspec_Of_2 n t0 za) m a=some r→Wk Tryz.prog H Y 232 [.code (cp [1,1,1,1,0,0] (bodyOf Tryz.f232)),.blk 0,.code (cp [1,1,1,1,1] (bodyOf Tryz.f232))] (FinX Tryz.prog Tryz.f232 [] (.agg [bl r.Neg,.sl true 1 r.D.length ((eInt).f r.D)]) []) ⟨[(0,i64 t0),(2,.ptr 2 0),(3,.lit (.int .u64 a.1)),(4,.msl 14 a.2.length)],[(2,⟨true,0,[bl za,.nil]⟩),(14,⟨true,1,(eInt).f a.2⟩)]⟩:=by
 refine loopN_ind (fun _rec0 hrec0 a r h=>?_)
 obtain⟨t3,l14⟩:=a
 unfold Dspec_Of_2 at h
 refine x_frk 7 [] onil h (by kernel_rfl) (fun h=>?_) (fun h=>?_)
 ·obtain⟨c0,h⟩:=chk_some h
  exact x_to 20 [(5,.app false (List.length (l14++[w64 (Int.tmod t3 10000)])) ((eInt).f (l14++[w64 (Int.tmod t3 10000)]))),(4,.ren 22 14)] (ocons (len_row' (L:=l14) eInt) (ocons (app_one (L:=l14) (M:=[w64 (Int.tmod t3 10000)]) eInt c0) (ocons (app_new (L:=l14) (M:=[w64 (Int.tmod t3 10000)]) eInt) (ocons (app_m (L:=l14) (M:=[w64 (Int.tmod t3 10000)]) eInt rfl) (ocons (len_row' (L:=[w64 (Int.tmod t3 10000)]) eInt) (ocons (Enc.noOwn eInt (fun _=>rfl) [w64 (Int.tmod t3 10000)]) (ocons (show 22<1000∧14<1000 by decide) onil))))))) (hrec0 (IntKind.u64.wrap (Int.tdiv t3 10000),(l14++[w64 (Int.tmod t3 10000)])) r h) 
 ·exact x_to 2 [] onil (Tspec_Of_1 n t0 za l14 r h) 
def Dspec_Of_0(n:Nat)(t0 t3:Int)(za:Bool)(l14:List Int):Option Num :=
 loopN (Dspec_Of_2 n t0 za) n (t3,l14)
theorem Tspec_Of_0{Y}(n:Nat)(t0 t3:Int)(za:Bool)(l14:List Int)(r:Num)(h:Dspec_Of_0 n t0 t3 za l14=some r):Wk Tryz.prog H Y 232 [.code (cp [1,1,1,1,0,0] (bodyOf Tryz.f232)),.blk 0,.code (cp [1,1,1,1,1] (bodyOf Tryz.f232))] (FinX Tryz.prog Tryz.f232 [] (.agg [bl r.Neg,.sl true 1 r.D.length ((eInt).f r.D)]) []) ⟨[(0,i64 t0),(2,.ptr 2 0),(3,.lit (.int .u64 t3)),(4,.msl 14 l14.length)],[(2,⟨true,0,[bl za,.nil]⟩),(14,⟨true,1,(eInt).f l14⟩)]⟩:=by
 unfold Dspec_Of_0 at h
 exact x_to 0 [] onil (Tspec_Of_2 n t0 za n (t3,l14) r h) 
def Dspec_Of(n:Nat)(a0:Int):Option Num :=
 frk (decide (a0<0)) (Dspec_Of_0 n a0 (IntKind.u64.wrap ((IntKind.u64.wrap (w64 (0-(w64 (a0+1)))))+1)) false []) (Dspec_Of_0 n a0 (IntKind.u64.wrap a0) false [])
theorem Tspec_Of{Y}(n:Nat)(a0:Int)(r:Num)(h:Dspec_Of n a0=some r):Big Tryz.prog H Y (.call 232 [i64 a0] (lk []) (.agg [bl r.Neg,.sl true 1 r.D.length ((eInt).f r.D)]) (lk [])):=by
 unfold Dspec_Of at h
 refine x_call (fn:=Tryz.f232) (c:=bodyOf Tryz.f232) (bs0:=[]) Tryz.func232 (by kernel_rfl) (by kernel_rfl) ?_
 refine x_frk 16 [] onil h (by kernel_rfl) (fun h=>?_) (fun h=>?_)
 ·exact x_to 15 [] onil (Tspec_Of_0 n a0 (IntKind.u64.wrap ((IntKind.u64.wrap (w64 (0-(w64 (a0+1)))))+1)) false [] r h) 
 ·exact x_to 8 [] onil (Tspec_Of_0 n a0 (IntKind.u64.wrap a0) false [] r h) 
def Dspec_NumOk_1(_n:Nat)(t3:Int)(zab:Bool)(zac:List Int):Option Bool :=
 frk (decide (t3≤120)) (frk (t3==0) (frk (!zab) (some true) (frk (decide (t3>0)) ((lget zac (w64 (t3-1))).bind fun v2=>some (v2 != 0)) (some false))) (frk (decide (t3>0)) ((lget zac (w64 (t3-1))).bind fun v3=>some (v3 != 0)) (some false))) (some false)
theorem Tspec_NumOk_1{Y}(n:Nat)(t3:Int)(zab:Bool)(zac:List Int)(r:Bool)(h:Dspec_NumOk_1 n t3 zab zac=some r):Wk Tryz.prog H Y 270 [.code (cp [1,1,1,0] (bodyOf Tryz.f270)),.code (cp [1,1,1,1] (bodyOf Tryz.f270))] (FinX Tryz.prog Tryz.f270 [] (bl r) []) ⟨[(1,.ptr 1 0),(3,i64 t3)],[(1,⟨true,0,[bl zab,.sl false 1 zac.length ((eInt).f zac)]⟩)]⟩:=by
 unfold Dspec_NumOk_1 at h
 refine x_frk 4 [] onil h (by kernel_rfl) (fun h=>?_) (fun h=>?_)
 ·refine x_frk 3 [] onil h (by kernel_rfl) (fun h=>?_) (fun h=>?_)
  ·refine x_frk 5 [] onil h (by kernel_rfl) (fun h=>?_) (fun h=>?_)
   ·replace h:=sj h;subst h
    exact x_end 15 [] [] onil onil 
   ·refine x_frk 3 [] onil h (by kernel_rfl) (fun h=>?_) (fun h=>?_)
    ·obtain⟨v2,y2,h⟩:=bm h
     replace h:=sj h;subst h
     exact x_end 12 [(4,.val (.cptr (eInt.c v2++(eInt).f ((zac).drop (Int.toNat (w64 (t3-1))+1)))))] [] (ocons (ix eInt y2) onil) onil 
    ·replace h:=sj h;subst h
     exact x_end 12 [] [] onil onil 
  ·refine x_frk 8 [] onil h (by kernel_rfl) (fun h=>?_) (fun h=>?_)
   ·obtain⟨v3,y3,h⟩:=bm h
    replace h:=sj h;subst h
    exact x_end 12 [(4,.val (.cptr (eInt.c v3++(eInt).f ((zac).drop (Int.toNat (w64 (t3-1))+1)))))] [] (ocons (ix eInt y3) onil) onil 
   ·replace h:=sj h;subst h
    exact x_end 12 [] [] onil onil 
 ·replace h:=sj h;subst h
  exact x_end 23 [] [] onil onil 
def Dspec_NumOk_0(n:Nat)(rec0:Int→Option Bool)(t3:Int)(zab:Bool)(zac:List Int)(t4:Int)(t14:Bool):Option Bool :=
 frk t14 ((lget zac t4).bind fun v0=>(Dspec_l1In v0 0 9999).bind fun v1=>frk (!v1) (some false) (rec0 (w64 (t4+1)))) (Dspec_NumOk_1 n t3 zab zac)
theorem Tspec_NumOk_0{Y}(n:Nat)(rec0:Int→Option Bool)(t3:Int)(zab:Bool)(zac:List Int)(hrec0:∀(a:Int) (r:Bool),rec0 a=some r→Wk Tryz.prog H Y 270 [.code (cp [1,1,0,1,0] (bodyOf Tryz.f270)),.blk 0,.code (cp [1,1,1] (bodyOf Tryz.f270))] (FinX Tryz.prog Tryz.f270 [] (bl r) []) ⟨[(1,.ptr 1 0),(3,i64 t3),(4,i64 a)],[(1,⟨true,0,[bl zab,.sl false 1 zac.length ((eInt).f zac)]⟩)]⟩)(t4:Int)(t14 r:Bool)(h:Dspec_NumOk_0 n rec0 t3 zab zac t4 t14=some r):Wk Tryz.prog H Y 270 [.code (cp [1,1,0,1,0,0,0,1] (bodyOf Tryz.f270)),.code (cp [1,1,0,1,0,0,1] (bodyOf Tryz.f270)),.lp (cp [1,1,0,1,0] (bodyOf Tryz.f270)),.blk 0,.code (cp [1,1,1] (bodyOf Tryz.f270))] (FinX Tryz.prog Tryz.f270 [] (bl r) []) ⟨[(1,.ptr 1 0),(3,i64 t3),(4,i64 t4),(14,bl t14)],[(1,⟨true,0,[bl zab,.sl false 1 zac.length ((eInt).f zac)]⟩)]⟩:=by
 unfold Dspec_NumOk_0 at h
 refine x_frk 0 [] onil h (by kernel_rfl) (fun h=>?_) (fun h=>?_)
 ·obtain⟨v0,y0,h⟩:=bm h
  obtain⟨v1,y1,h⟩:=bm h
  refine x_frk 13 [(3,.val (.cptr (eInt.c v0++(eInt).f ((zac).drop (Int.toNat t4+1))))),(1,.call [] [] (bl v1) [])] (ocons (ix eInt y0) (ocons (Tspec_l1In (Y:=Y) v0 0 9999 _ y1) onil)) h (by kernel_rfl) (fun h=>?_) (fun h=>?_)
  ·replace h:=sj h;subst h
   exact x_end 4 [] [] onil onil 
  ·exact x_to 8 [] onil (hrec0 (w64 (t4+1)) r h) 
 ·exact x_to 2 [] onil (Tspec_NumOk_1 n t3 zab zac r h) 
def Dspec_NumOk_2(n:Nat)(t3:Int)(zab:Bool)(zac:List Int)(rec0:Int→Option Bool)(a:Int):Option Bool :=
 match a with
 | t4=>frk (decide (t4<t3)) (Dspec_NumOk_0 n rec0 t3 zab zac t4 (decide (t4≤120))) (Dspec_NumOk_1 n t3 zab zac)
theorem Tspec_NumOk_2{Y}(n:Nat)(t3:Int)(zab:Bool)(zac:List Int):∀(m:Nat) (a:Int) (r:Bool),loopN (Dspec_NumOk_2 n t3 zab zac) m a=some r→Wk Tryz.prog H Y 270 [.code (cp [1,1,0,1,0] (bodyOf Tryz.f270)),.blk 0,.code (cp [1,1,1] (bodyOf Tryz.f270))] (FinX Tryz.prog Tryz.f270 [] (bl r) []) ⟨[(1,.ptr 1 0),(3,i64 t3),(4,i64 a)],[(1,⟨true,0,[bl zab,.sl false 1 zac.length ((eInt).f zac)]⟩)]⟩:=by
 refine loopN_ind (fun rec0 hrec0 a r h=>?_)
 obtain⟨t4,rfl⟩:∃x,x=a:=⟨a,rfl⟩
 unfold Dspec_NumOk_2 at h
 refine x_frk 8 [] onil h (by kernel_rfl) (fun h=>?_) (fun h=>?_)
 ·exact x_to 4 [] onil (Tspec_NumOk_0 n rec0 t3 zab zac hrec0 t4 (decide (t4≤120)) r h) 
 ·exact x_to 7 [] onil (Tspec_NumOk_1 n t3 zab zac r h) 
def Dspec_NumOk(n:Nat)(a0:Num):Option Bool :=
 loopN (Dspec_NumOk_2 n (a0.D.length:Int) a0.Neg a0.D) n 0
theorem Tspec_NumOk{Y}(n:Nat)(a0:Num)(r:Bool)(h:Dspec_NumOk n a0=some r):Big Tryz.prog H Y (.call 270 [.agg [bl a0.Neg,.sl false 1 a0.D.length ((eInt).f a0.D)]] (lk []) (bl r) (lk [])):=by
 unfold Dspec_NumOk at h
 refine x_call (fn:=Tryz.f270) (c:=bodyOf Tryz.f270) (bs0:=[]) Tryz.func270 (by kernel_rfl) (by kernel_rfl) ?_
 exact x_to 18 [] onil (Tspec_NumOk_2 n (a0.D.length:Int) a0.Neg a0.D n 0 r h) 
def Dspec_l1Mag(n:Nat)(a0:Num):Option (List Int) :=
 (Dspec_NumOk n a0).bind fun v0=>frk (!v0) (some []) (some a0.D)
theorem Tspec_l1Mag{Y}(n:Nat)(a0:Num)(r:(List Int))(h:Dspec_l1Mag n a0=some r):Big Tryz.prog H Y (.call 263 [.agg [bl a0.Neg,.sl false 1 a0.D.length ((eInt).f a0.D)]] (lk []) (.sl false 1 r.length ((eInt).f r)) (lk [])):=by
 unfold Dspec_l1Mag at h
 refine x_call (fn:=Tryz.f263) (c:=bodyOf Tryz.f263) (bs0:=[]) Tryz.func263 (by kernel_rfl) (by kernel_rfl) ?_
 obtain⟨v0,y0,h⟩:=bm h
 refine x_frk 12 [(3,.call [] [] (bl v0) [])] (ocons (Tspec_NumOk (Y:=Y) n a0 _ y0) onil) h (by kernel_rfl) (fun h=>?_) (fun h=>?_)
 ·replace h:=sj h;subst h
  exact x_endS 5 [] onil (ocons (len_row (L:=[]) eInt) onil) (wkShare (L:=[]) eInt eInt sInt) (by kernel_rfl)
 ·replace h:=sj h;subst h
  exact x_end 7 [] [] onil onil 
def Dspec_l1CmpMag_0(_n:Nat)(t0:List Int)(t1:List Int)(rec0:Int→Option Int)(a:Int):Option Int :=
 match a with
 | t5=>frk (decide (t5≥0)) ((lget t0 t5).bind fun v0=>(lget t1 t5).bind fun v1=>frk (v0 != v1) ((lget t0 t5).bind fun v2=>(lget t1 t5).bind fun v3=>frk (decide (v2<v3)) (some (-1)) (some 1)) (rec0 (w64 (t5-1)))) (some 0)
theorem Tspec_l1CmpMag_0{Y}(n:Nat)(t0:List Int)(t1:List Int):∀(m:Nat) (a r:Int),loopN (Dspec_l1CmpMag_0 n t0 t1) m a=some r→Wk Tryz.prog H Y 259 [.code (cp [1,1,0,1,0] (bodyOf Tryz.f259)),.blk 0,.code (cp [1,1,1] (bodyOf Tryz.f259))] (FinX Tryz.prog Tryz.f259 [] (i64 r) []) ⟨[(0,.sl false 1 t0.length ((eInt).f t0)),(1,.sl false 1 t1.length ((eInt).f t1)),(5,i64 a)],[]⟩:=by
 refine loopN_ind (fun _rec0 hrec0 a r h=>?_)
 obtain⟨t5,rfl⟩:∃x,x=a:=⟨a,rfl⟩
 unfold Dspec_l1CmpMag_0 at h
 refine x_frk 7 [] onil h (by kernel_rfl) (fun h=>?_) (fun h=>?_)
 ·obtain⟨v0,y0,h⟩:=bm h
  obtain⟨v1,y1,h⟩:=bm h
  refine x_frk 15 [(2,.val (.cptr (eInt.c v0++(eInt).f ((t0).drop (Int.toNat t5+1))))),(3,.val (.cptr (eInt.c v1++(eInt).f ((t1).drop (Int.toNat t5+1)))))] (ocons (ix eInt y0) (ocons (ix eInt y1) onil)) h (by kernel_rfl) (fun h=>?_) (fun h=>?_)
  ·obtain⟨v2,y2,h⟩:=bm h
   obtain⟨v3,y3,h⟩:=bm h
   refine x_frk 13 [(2,.val (.cptr (eInt.c v2++(eInt).f ((t0).drop (Int.toNat t5+1))))),(3,.val (.cptr (eInt.c v3++(eInt).f ((t1).drop (Int.toNat t5+1)))))] (ocons (ix eInt y2) (ocons (ix eInt y3) onil)) h (by kernel_rfl) (fun h=>?_) (fun h=>?_)
   ·replace h:=sj h;subst h
    exact x_end 4 [] [] onil onil 
   ·replace h:=sj h;subst h
    exact x_end 5 [] [] onil onil 
  ·exact x_to 8 [] onil (hrec0 (w64 (t5-1)) r h) 
 ·replace h:=sj h;subst h
  exact x_end 5 [] [] onil onil 
def Dspec_l1CmpMag(n:Nat)(a0:(List Int))(a1:(List Int)):Option Int :=
 frk ((a0.length:Int) != (a1.length:Int)) (frk (decide ((a0.length:Int)<(a1.length:Int))) (some (-1)) (some 1)) (loopN (Dspec_l1CmpMag_0 n a0 a1) n (w64 ((a0.length:Int)-1)))
theorem Tspec_l1CmpMag{Y}(n:Nat)(a0:(List Int))(a1:(List Int))(r:Int)(h:Dspec_l1CmpMag n a0 a1=some r):Big Tryz.prog H Y (.call 259 [.sl false 1 a0.length ((eInt).f a0),.sl false 1 a1.length ((eInt).f a1)] (lk []) (i64 r) (lk [])):=by
 unfold Dspec_l1CmpMag at h
 refine x_call (fn:=Tryz.f259) (c:=bodyOf Tryz.f259) (bs0:=[]) Tryz.func259 (by kernel_rfl) (by kernel_rfl) ?_
 refine x_frk 13 [] onil h (by kernel_rfl) (fun h=>?_) (fun h=>?_)
 ·refine x_frk 9 [] onil h (by kernel_rfl) (fun h=>?_) (fun h=>?_)
  ·replace h:=sj h;subst h
   exact x_end 4 [] [] onil onil 
  ·replace h:=sj h;subst h
   exact x_end 5 [] [] onil onil 
 ·exact x_to 10 [] onil (Tspec_l1CmpMag_0 n a0 a1 n (w64 ((a0.length:Int)-1)) r h) 
def Dspec_l1Guess_4(_n:Nat)(t5 t7:Int):Option Int :=
 (qt .i64 t5 t7).bind fun v2=>frk (decide (v2>0)) ((qt .i64 t5 t7).bind fun v3=>some v3) (some 1)
theorem Tspec_l1Guess_4{Y}(n:Nat)(t5 t7 r:Int)(h:Dspec_l1Guess_4 n t5 t7=some r):Wk Tryz.prog H Y 260 [.code (cp [1,1,1,1,1,1,0,0] (bodyOf Tryz.f260)),.code (cp [1,1,1,1,1,1,0,1] (bodyOf Tryz.f260)),.code (cp [1,1,1,1,1,1,1] (bodyOf Tryz.f260))] (FinX Tryz.prog Tryz.f260 [] (i64 r) []) ⟨[(5,i64 t5),(7,i64 t7)],[]⟩:=by
 unfold Dspec_l1Guess_4 at h
 obtain⟨v2,y2,h⟩:=bm h
 refine x_frk 6 [(2,.val (i64 v2))] (ocons (qtOk y2) onil) h (by kernel_rfl) (fun h=>?_) (fun h=>?_)
 ·obtain⟨v3,y3,h⟩:=bm h
  replace h:=sj h;subst h
  exact x_end 7 [(2,.val (i64 v3))] [] (ocons (qtOk y3) onil) onil 
 ·replace h:=sj h;subst h
  exact x_end 5 [] [] onil onil 
def Dspec_l1Guess_3(n:Nat)(t5 t7:Int)(t53:Bool):Option Int :=
 frk t53 (Dspec_l1Guess_4 n t5 (w64 (t7+1))) (Dspec_l1Guess_4 n t5 t7)
theorem Tspec_l1Guess_3{Y}(n:Nat)(t5 t7:Int)(t53:Bool)(r:Int)(h:Dspec_l1Guess_3 n t5 t7 t53=some r):Wk Tryz.prog H Y 260 [.code (cp [1,1,1,1,1,0,1] (bodyOf Tryz.f260)),.code (cp [1,1,1,1,1,1] (bodyOf Tryz.f260))] (FinX Tryz.prog Tryz.f260 [] (i64 r) []) ⟨[(5,i64 t5),(7,i64 t7),(53,bl t53)],[]⟩:=by
 unfold Dspec_l1Guess_3 at h
 refine x_frk 0 [] onil h (by kernel_rfl) (fun h=>?_) (fun h=>?_)
 ·exact x_to 7 [] onil (Tspec_l1Guess_4 n t5 (w64 (t7+1)) r h) 
 ·exact x_to 3 [] onil (Tspec_l1Guess_4 n t5 t7 r h) 
def Dspec_l1Guess_2(n:Nat)(rec1:(Int×Int)→Option Int)(t1:List Int)(t5 t7 t8:Int)(t41:Bool):Option Int :=
 frk t41 ((lget t1 t8).bind fun v1=>rec1 (w64 ((w64 (t7*10000))+v1),w64 (t8-1))) (Dspec_l1Guess_3 n t5 t7 (decide ((t1.length:Int)>3)))
theorem Tspec_l1Guess_2{Y}(n:Nat)(rec1:(Int×Int)→Option Int)(t1:List Int)(t5:Int)(hrec1:∀(a:(Int×Int)) (r:Int),rec1 a=some r→Wk Tryz.prog H Y 260 [.code (cp [1,1,1,1,0,1,0] (bodyOf Tryz.f260)),.blk 2,.code (cp [1,1,1,1,1] (bodyOf Tryz.f260))] (FinX Tryz.prog Tryz.f260 [] (i64 r) []) ⟨[(1,.sl false 1 t1.length ((eInt).f t1)),(5,i64 t5),(7,i64 a.1),(8,i64 a.2)],[]⟩)(t7 t8:Int)(t41:Bool)(r:Int)(h:Dspec_l1Guess_2 n rec1 t1 t5 t7 t8 t41=some r):Wk Tryz.prog H Y 260 [.code (cp [1,1,1,1,0,1,0,0,0,1] (bodyOf Tryz.f260)),.code (cp [1,1,1,1,0,1,0,0,1] (bodyOf Tryz.f260)),.lp (cp [1,1,1,1,0,1,0] (bodyOf Tryz.f260)),.blk 2,.code (cp [1,1,1,1,1] (bodyOf Tryz.f260))] (FinX Tryz.prog Tryz.f260 [] (i64 r) []) ⟨[(1,.sl false 1 t1.length ((eInt).f t1)),(5,i64 t5),(7,i64 t7),(8,i64 t8),(41,bl t41)],[]⟩:=by
 unfold Dspec_l1Guess_2 at h
 refine x_frk 0 [] onil h (by kernel_rfl) (fun h=>?_) (fun h=>?_)
 ·obtain⟨v1,y1,h⟩:=bm h
  exact x_to 20 [(4,.val (.cptr (eInt.c v1++(eInt).f ((t1).drop (Int.toNat t8+1)))))] (ocons (ix eInt y1) onil) (hrec1 (w64 ((w64 (t7*10000))+v1),w64 (t8-1)) r h) 
 ·exact x_to 8 [] onil (Tspec_l1Guess_3 n t5 t7 (decide ((t1.length:Int)>3)) r h) 
def Dspec_l1Guess_5(n:Nat)(t1:List Int)(t5:Int)(rec1:(Int×Int)→Option Int)(a:(Int×Int)):Option Int :=
 match a with
 | (t7,t8)=>frk (decide (t8≥0)) (Dspec_l1Guess_2 n rec1 t1 t5 t7 t8 (decide (t8≥(w64 ((t1.length:Int)-3))))) (Dspec_l1Guess_3 n t5 t7 (decide ((t1.length:Int)>3)))
theorem Tspec_l1Guess_5{Y}(n:Nat)(t1:List Int)(t5:Int):∀(m:Nat) (a:(Int×Int)) (r:Int),loopN (Dspec_l1Guess_5 n t1 t5) m a=some r→Wk Tryz.prog H Y 260 [.code (cp [1,1,1,1,0,1,0] (bodyOf Tryz.f260)),.blk 2,.code (cp [1,1,1,1,1] (bodyOf Tryz.f260))] (FinX Tryz.prog Tryz.f260 [] (i64 r) []) ⟨[(1,.sl false 1 t1.length ((eInt).f t1)),(5,i64 t5),(7,i64 a.1),(8,i64 a.2)],[]⟩:=by
 refine loopN_ind (fun rec1 hrec1 a r h=>?_)
 obtain⟨t7,t8⟩:=a
 unfold Dspec_l1Guess_5 at h
 refine x_frk 7 [] onil h (by kernel_rfl) (fun h=>?_) (fun h=>?_)
 ·exact x_to 7 [] onil (Tspec_l1Guess_2 n rec1 t1 t5 hrec1 t7 t8 (decide (t8≥(w64 ((t1.length:Int)-3)))) r h) 
 ·exact x_to 16 [] onil (Tspec_l1Guess_3 n t5 t7 (decide ((t1.length:Int)>3)) r h) 
def Dspec_l1Guess_1(n:Nat)(t1:List Int)(t5 t7 t8:Int):Option Int :=
 loopN (Dspec_l1Guess_5 n t1 t5) n (t7,t8)
theorem Tspec_l1Guess_1{Y}(n:Nat)(t1:List Int)(t5 t7 t8 r:Int)(h:Dspec_l1Guess_1 n t1 t5 t7 t8=some r):Wk Tryz.prog H Y 260 [.code (cp [1,1,1,1,0,1,0] (bodyOf Tryz.f260)),.blk 2,.code (cp [1,1,1,1,1] (bodyOf Tryz.f260))] (FinX Tryz.prog Tryz.f260 [] (i64 r) []) ⟨[(1,.sl false 1 t1.length ((eInt).f t1)),(5,i64 t5),(7,i64 t7),(8,i64 t8)],[]⟩:=by
 unfold Dspec_l1Guess_1 at h
 exact x_to 0 [] onil (Tspec_l1Guess_5 n t1 t5 n (t7,t8) r h) 
def Dspec_l1Guess_0(n:Nat)(rec0:(Int×Int)→Option Int)(t0:List Int)(t1:List Int)(t5 t6:Int)(t20:Bool):Option Int :=
 frk t20 ((lget t0 t6).bind fun v0=>rec0 (w64 ((w64 (t5*10000))+v0),w64 (t6-1))) (Dspec_l1Guess_1 n t1 t5 0 (w64 ((t1.length:Int)-1)))
theorem Tspec_l1Guess_0{Y}(n:Nat)(rec0:(Int×Int)→Option Int)(t0:List Int)(t1:List Int)(hrec0:∀(a:(Int×Int)) (r:Int),rec0 a=some r→Wk Tryz.prog H Y 260 [.code (cp [1,1,0,1,0] (bodyOf Tryz.f260)),.blk 0,.code (cp [1,1,1] (bodyOf Tryz.f260))] (FinX Tryz.prog Tryz.f260 [] (i64 r) []) ⟨[(0,.sl false 1 t0.length ((eInt).f t0)),(1,.sl false 1 t1.length ((eInt).f t1)),(5,i64 a.1),(6,i64 a.2)],[]⟩)(t5 t6:Int)(t20:Bool)(r:Int)(h:Dspec_l1Guess_0 n rec0 t0 t1 t5 t6 t20=some r):Wk Tryz.prog H Y 260 [.code (cp [1,1,0,1,0,0,0,1] (bodyOf Tryz.f260)),.code (cp [1,1,0,1,0,0,1] (bodyOf Tryz.f260)),.lp (cp [1,1,0,1,0] (bodyOf Tryz.f260)),.blk 0,.code (cp [1,1,1] (bodyOf Tryz.f260))] (FinX Tryz.prog Tryz.f260 [] (i64 r) []) ⟨[(0,.sl false 1 t0.length ((eInt).f t0)),(1,.sl false 1 t1.length ((eInt).f t1)),(5,i64 t5),(6,i64 t6),(20,bl t20)],[]⟩:=by
 unfold Dspec_l1Guess_0 at h
 refine x_frk 0 [] onil h (by kernel_rfl) (fun h=>?_) (fun h=>?_)
 ·obtain⟨v0,y0,h⟩:=bm h
  exact x_to 20 [(4,.val (.cptr (eInt.c v0++(eInt).f ((t0).drop (Int.toNat t6+1)))))] (ocons (ix eInt y0) onil) (hrec0 (w64 ((w64 (t5*10000))+v0),w64 (t6-1)) r h) 
 ·exact x_to 14 [] onil (Tspec_l1Guess_1 n t1 t5 0 (w64 ((t1.length:Int)-1)) r h) 
def Dspec_l1Guess_6(n:Nat)(t0:List Int)(t1:List Int)(rec0:(Int×Int)→Option Int)(a:(Int×Int)):Option Int :=
 match a with
 | (t5,t6)=>frk (decide (t6≥0)) (Dspec_l1Guess_0 n rec0 t0 t1 t5 t6 (decide (t6≥(w64 ((t1.length:Int)-3))))) (Dspec_l1Guess_1 n t1 t5 0 (w64 ((t1.length:Int)-1)))
theorem Tspec_l1Guess_6{Y}(n:Nat)(t0:List Int)(t1:List Int):∀(m:Nat) (a:(Int×Int)) (r:Int),loopN (Dspec_l1Guess_6 n t0 t1) m a=some r→Wk Tryz.prog H Y 260 [.code (cp [1,1,0,1,0] (bodyOf Tryz.f260)),.blk 0,.code (cp [1,1,1] (bodyOf Tryz.f260))] (FinX Tryz.prog Tryz.f260 [] (i64 r) []) ⟨[(0,.sl false 1 t0.length ((eInt).f t0)),(1,.sl false 1 t1.length ((eInt).f t1)),(5,i64 a.1),(6,i64 a.2)],[]⟩:=by
 refine loopN_ind (fun rec0 hrec0 a r h=>?_)
 obtain⟨t5,t6⟩:=a
 unfold Dspec_l1Guess_6 at h
 refine x_frk 7 [] onil h (by kernel_rfl) (fun h=>?_) (fun h=>?_)
 ·exact x_to 7 [] onil (Tspec_l1Guess_0 n rec0 t0 t1 hrec0 t5 t6 (decide (t6≥(w64 ((t1.length:Int)-3)))) r h) 
 ·exact x_to 22 [] onil (Tspec_l1Guess_1 n t1 t5 0 (w64 ((t1.length:Int)-1)) r h) 
def Dspec_l1Guess(n:Nat)(a0:(List Int))(a1:(List Int)):Option Int :=
 loopN (Dspec_l1Guess_6 n a0 a1) n (0,w64 ((a0.length:Int)-1))
theorem Tspec_l1Guess{Y}(n:Nat)(a0:(List Int))(a1:(List Int))(r:Int)(h:Dspec_l1Guess n a0 a1=some r):Big Tryz.prog H Y (.call 260 [.sl false 1 a0.length ((eInt).f a0),.sl false 1 a1.length ((eInt).f a1)] (lk []) (i64 r) (lk [])):=by
 unfold Dspec_l1Guess at h
 refine x_call (fn:=Tryz.f260) (c:=bodyOf Tryz.f260) (bs0:=[]) Tryz.func260 (by kernel_rfl) (by kernel_rfl) ?_
 exact x_to 17 [] onil (Tspec_l1Guess_6 n a0 a1 n (0,w64 ((a0.length:Int)-1)) r h) 
def Dspec_l1MulMag_0(_n:Nat)(rec0:(Int×List Int)→Option (List Int))(_t0:List Int)(t1:List Int)(t6 t7:Int)(l15:List Int):Option (List Int) :=
 (lget l15 (w64 (t6+(t1.length:Int)))).bind fun _v5=>rec0 (w64 (t6+1),(l15.set (Int.toNat (w64 (t6+(t1.length:Int)))) t7))
theorem Tspec_l1MulMag_0{Y}(n:Nat)(rec0:(Int×List Int)→Option (List Int))(t0:List Int)(t1:List Int)(hrec0:∀(a:(Int×List Int)) (r:(List Int)),rec0 a=some r→Wk Tryz.prog H Y 262 [.code (cp [1,1,0,1,0] (bodyOf Tryz.f262)),.blk 0,.code (cp [1,1,1] (bodyOf Tryz.f262))] (FinX Tryz.prog Tryz.f262 [] (.sl true 1 r.length ((eInt).f r)) []) ⟨[(0,.sl false 1 t0.length ((eInt).f t0)),(1,.sl false 1 t1.length ((eInt).f t1)),(5,.msl 15 a.2.length),(6,i64 a.1)],[(15,⟨true,1,(eInt).f a.2⟩)]⟩)(t6 t7:Int)(l15:List Int)(r:(List Int))(h:Dspec_l1MulMag_0 n rec0 t0 t1 t6 t7 l15=some r):Wk Tryz.prog H Y 262 [.code (cp [1,1,0,1,0,0,1,0,0,1,1] (bodyOf Tryz.f262)),.blk 1,.code (cp [1,1,0,1,0,0,1,1] (bodyOf Tryz.f262)),.lp (cp [1,1,0,1,0] (bodyOf Tryz.f262)),.blk 0,.code (cp [1,1,1] (bodyOf Tryz.f262))] (FinX Tryz.prog Tryz.f262 [] (.sl true 1 r.length ((eInt).f r)) []) ⟨[(0,.sl false 1 t0.length ((eInt).f t0)),(1,.sl false 1 t1.length ((eInt).f t1)),(5,.msl 15 l15.length),(6,i64 t6),(7,i64 t7)],[(15,⟨true,1,(eInt).f l15⟩)]⟩:=by
 unfold Dspec_l1MulMag_0 at h
 obtain⟨_v5,y5,h⟩:=bm h
 exact x_to 19 [(6,.unit),(0,.cells ((eInt).f (l15.set (Int.toNat (w64 (t6+(t1.length:Int)))) t7))),(0,.fix 5 (.msl 15 (l15.set (Int.toNat (w64 (t6+(t1.length:Int)))) t7).length)),(0,.fix 55 (.msl 15 (l15.set (Int.toNat (w64 (t6+(t1.length:Int)))) t7).length))] (ocons (inr y5) (ocons (stA eInt y5 0 1 [i64 t7] t7 rfl rfl) (ocons (setLen 15 l15 (Int.toNat (w64 (t6+(t1.length:Int)))) t7) (ocons (setLen 15 l15 (Int.toNat (w64 (t6+(t1.length:Int)))) t7) onil)))) (hrec0 (w64 (t6+1),(l15.set (Int.toNat (w64 (t6+(t1.length:Int)))) t7)) r h) 
def Dspec_l1MulMag_1(n:Nat)(rec0:(Int×List Int)→Option (List Int))(t0:List Int)(t1:List Int)(t6:Int)(rec1:(Int×Int×List Int)→Option (List Int))(a:(Int×Int×List Int)):Option (List Int) :=
 match a with
 | (t7,t8,l15)=>frk (decide (t8<(t1.length:Int))) ((lget t0 t6).bind fun v1=>(lget t1 t8).bind fun v2=>(lget l15 (w64 (t6+t8))).bind fun v3=>(lget l15 (w64 (t6+t8))).bind fun _v4=>rec1 (w64 (Int.tdiv (w64 ((w64 ((w64 (v1*v2))+v3))+t7)) 10000),w64 (t8+1),(l15.set (Int.toNat (w64 (t6+t8))) (Int.tmod (w64 ((w64 ((w64 (v1*v2))+v3))+t7)) 10000)))) (Dspec_l1MulMag_0 n rec0 t0 t1 t6 t7 l15)
theorem Tspec_l1MulMag_1{Y}(n:Nat)(rec0:(Int×List Int)→Option (List Int))(t0:List Int)(t1:List Int)(hrec0:∀(a:(Int×List Int)) (r:(List Int)),rec0 a=some r→Wk Tryz.prog H Y 262 [.code (cp [1,1,0,1,0] (bodyOf Tryz.f262)),.blk 0,.code (cp [1,1,1] (bodyOf Tryz.f262))] (FinX Tryz.prog Tryz.f262 [] (.sl true 1 r.length ((eInt).f r)) []) ⟨[(0,.sl false 1 t0.length ((eInt).f t0)),(1,.sl false 1 t1.length ((eInt).f t1)),(5,.msl 15 a.2.length),(6,i64 a.1)],[(15,⟨true,1,(eInt).f a.2⟩)]⟩)(t6:Int):∀(m:Nat) (a:(Int×Int×List Int)) (r:(List Int)),loopN (Dspec_l1MulMag_1 n rec0 t0 t1 t6) m a=some r→Wk Tryz.prog H Y 262 [.code (cp [1,1,0,1,0,0,1,0,0,1,0,1,0] (bodyOf Tryz.f262)),.blk 2,.code (cp [1,1,0,1,0,0,1,0,0,1,1] (bodyOf Tryz.f262)),.blk 1,.code (cp [1,1,0,1,0,0,1,1] (bodyOf Tryz.f262)),.lp (cp [1,1,0,1,0] (bodyOf Tryz.f262)),.blk 0,.code (cp [1,1,1] (bodyOf Tryz.f262))] (FinX Tryz.prog Tryz.f262 [] (.sl true 1 r.length ((eInt).f r)) []) ⟨[(0,.sl false 1 t0.length ((eInt).f t0)),(1,.sl false 1 t1.length ((eInt).f t1)),(5,.msl 15 a.2.2.length),(6,i64 t6),(7,i64 a.1),(8,i64 a.2.1)],[(15,⟨true,1,(eInt).f a.2.2⟩)]⟩:=by
 refine loopN_ind (fun _rec1 hrec1 a r h=>?_)
 obtain⟨t7,t8,l15⟩:=a
 unfold Dspec_l1MulMag_1 at h
 refine x_frk 9 [] onil h (by kernel_rfl) (fun h=>?_) (fun h=>?_)
 ·obtain⟨v1,y1,h⟩:=bm h
  obtain⟨v2,y2,h⟩:=bm h
  obtain⟨v3,y3,h⟩:=bm h
  obtain⟨_v4,y4,h⟩:=bm h
  exact x_to 51 [(2,.val (.cptr (eInt.c v1++(eInt).f ((t0).drop (Int.toNat t6+1))))),(3,.val (.cptr (eInt.c v2++(eInt).f ((t1).drop (Int.toNat t8+1))))),(6,.unit),(0,.val (i64 v3)),(10,.unit),(0,.cells ((eInt).f (l15.set (Int.toNat (w64 (t6+t8))) (Int.tmod (w64 ((w64 ((w64 (v1*v2))+v3))+t7)) 10000)))),(0,.fix 5 (.msl 15 (l15.set (Int.toNat (w64 (t6+t8))) (Int.tmod (w64 ((w64 ((w64 (v1*v2))+v3))+t7)) 10000)).length)),(0,.fix 37 (.msl 15 (l15.set (Int.toNat (w64 (t6+t8))) (Int.tmod (w64 ((w64 ((w64 (v1*v2))+v3))+t7)) 10000)).length)),(0,.fix 46 (.msl 15 (l15.set (Int.toNat (w64 (t6+t8))) (Int.tmod (w64 ((w64 ((w64 (v1*v2))+v3))+t7)) 10000)).length))] (ocons (ix eInt y1) (ocons (ix eInt y2) (ocons (inr y3) (ocons (ld1 eInt y3 0 rfl) (ocons (inr y4) (ocons (stA eInt y4 0 1 [i64 (Int.tmod (w64 ((w64 ((w64 (v1*v2))+v3))+t7)) 10000)] (Int.tmod (w64 ((w64 ((w64 (v1*v2))+v3))+t7)) 10000) rfl rfl) (ocons (setLen 15 l15 (Int.toNat (w64 (t6+t8))) (Int.tmod (w64 ((w64 ((w64 (v1*v2))+v3))+t7)) 10000)) (ocons (setLen 15 l15 (Int.toNat (w64 (t6+t8))) (Int.tmod (w64 ((w64 ((w64 (v1*v2))+v3))+t7)) 10000)) (ocons (setLen 15 l15 (Int.toNat (w64 (t6+t8))) (Int.tmod (w64 ((w64 ((w64 (v1*v2))+v3))+t7)) 10000)) onil))))))))) (hrec1 (w64 (Int.tdiv (w64 ((w64 ((w64 (v1*v2))+v3))+t7)) 10000),w64 (t8+1),(l15.set (Int.toNat (w64 (t6+t8))) (Int.tmod (w64 ((w64 ((w64 (v1*v2))+v3))+t7)) 10000))) r h) 
 ·exact x_to 1 [] onil (Tspec_l1MulMag_0 n rec0 t0 t1 hrec0 t6 t7 l15 r h) 
def Dspec_l1MulMag_2(n:Nat)(t0:List Int)(t1:List Int)(rec0:(Int×List Int)→Option (List Int))(a:(Int×List Int)):Option (List Int) :=
 match a with
 | (t6,l15)=>frk (decide (t6<(t0.length:Int))) (loopN (Dspec_l1MulMag_1 n rec0 t0 t1 t6) n (0,0,l15)) (some l15)
theorem Tspec_l1MulMag_2{Y}(n:Nat)(t0:List Int)(t1:List Int):∀(m:Nat) (a:(Int×List Int)) (r:(List Int)),loopN (Dspec_l1MulMag_2 n t0 t1) m a=some r→Wk Tryz.prog H Y 262 [.code (cp [1,1,0,1,0] (bodyOf Tryz.f262)),.blk 0,.code (cp [1,1,1] (bodyOf Tryz.f262))] (FinX Tryz.prog Tryz.f262 [] (.sl true 1 r.length ((eInt).f r)) []) ⟨[(0,.sl false 1 t0.length ((eInt).f t0)),(1,.sl false 1 t1.length ((eInt).f t1)),(5,.msl 15 a.2.length),(6,i64 a.1)],[(15,⟨true,1,(eInt).f a.2⟩)]⟩:=by
 refine loopN_ind (fun rec0 hrec0 a r h=>?_)
 obtain⟨t6,l15⟩:=a
 unfold Dspec_l1MulMag_2 at h
 refine x_frk 9 [] onil h (by kernel_rfl) (fun h=>?_) (fun h=>?_)
 ·exact x_to 13 [] onil (Tspec_l1MulMag_1 n rec0 t0 t1 hrec0 t6 n (0,0,l15) r h) 
 ·replace h:=sj h;subst h
  exact x_end 6 [] [] onil (ocons (len_row (L:=l15) eInt) onil) 
def Dspec_l1MulMag(n:Nat)(a0:(List Int))(a1:(List Int)):Option (List Int) :=
 chk (mkB (w64 ((a0.length:Int)+(a1.length:Int))) 8) (loopN (Dspec_l1MulMag_2 n a0 a1) n (0,(List.replicate (Int.toNat (w64 ((a0.length:Int)+(a1.length:Int)))) (0:Int))))
theorem Tspec_l1MulMag{Y}(n:Nat)(a0:(List Int))(a1:(List Int))(r:(List Int))(h:Dspec_l1MulMag n a0 a1=some r):Big Tryz.prog H Y (.call 262 [.sl false 1 a0.length ((eInt).f a0),.sl false 1 a1.length ((eInt).f a1)] (lk []) (.sl true 1 r.length ((eInt).f r)) (lk [])):=by
 unfold Dspec_l1MulMag at h
 refine x_call (fn:=Tryz.f262) (c:=bodyOf Tryz.f262) (bs0:=[]) Tryz.func262 (by kernel_rfl) (by kernel_rfl) ?_
 obtain⟨c0,h⟩:=chk_some h
 exact x_to 20 [(6,.mk (List.replicate (Int.toNat (w64 ((a0.length:Int)+(a1.length:Int)))) (0:Int)).length ((eInt).f (List.replicate (Int.toNat (w64 ((a0.length:Int)+(a1.length:Int)))) (0:Int))))] (ocons (rflI (w64 ((a0.length:Int)+(a1.length:Int)))) (ocons (mkOk eInt c0 (0:Int) rfl) onil)) (Tspec_l1MulMag_2 n a0 a1 n (0,(List.replicate (Int.toNat (w64 ((a0.length:Int)+(a1.length:Int)))) (0:Int))) r h) 
def Dspec_l1SubMag_1(_n:Nat)(rec0:(Int×Int×List Int)→Option (List Int))(_t0:List Int)(_t1:List Int)(t6 t7 t8:Int)(l9:List Int):Option (List Int) :=
 chk (apB 8 (l9.length+1)) (rec0 (t6,w64 (t7+1),(l9++[t8])))
theorem Tspec_l1SubMag_1{Y}(n:Nat)(rec0:(Int×Int×List Int)→Option (List Int))(t0:List Int)(t1:List Int)(hrec0:∀(a:(Int×Int×List Int)) (r:(List Int)),rec0 a=some r→Wk Tryz.prog H Y 261 [.code (cp [1,1,1,0,1,0] (bodyOf Tryz.f261)),.blk 0,.code (cp [1,1,1,1] (bodyOf Tryz.f261))] (FinX Tryz.prog Tryz.f261 [] (.sl true 1 r.length ((eInt).f r)) []) ⟨[(0,.sl false 1 t0.length ((eInt).f t0)),(1,.sl false 1 t1.length ((eInt).f t1)),(5,.msl 9 a.2.2.length),(6,i64 a.1),(7,i64 a.2.1)],[(9,⟨true,1,(eInt).f a.2.2⟩)]⟩)(t6 t7 t8:Int)(l9:List Int)(r:(List Int))(h:Dspec_l1SubMag_1 n rec0 t0 t1 t6 t7 t8 l9=some r):Wk Tryz.prog H Y 261 [.code (cp [1,1,1,0,1,0,0,1,0,0,1,1,1,1] (bodyOf Tryz.f261)),.blk 1,.code (cp [1,1,1,0,1,0,0,1,1] (bodyOf Tryz.f261)),.lp (cp [1,1,1,0,1,0] (bodyOf Tryz.f261)),.blk 0,.code (cp [1,1,1,1] (bodyOf Tryz.f261))] (FinX Tryz.prog Tryz.f261 [] (.sl true 1 r.length ((eInt).f r)) []) ⟨[(0,.sl false 1 t0.length ((eInt).f t0)),(1,.sl false 1 t1.length ((eInt).f t1)),(5,.msl 9 l9.length),(6,i64 t6),(7,i64 t7),(8,i64 t8)],[(9,⟨true,1,(eInt).f l9⟩)]⟩:=by
 unfold Dspec_l1SubMag_1 at h
 obtain⟨c2,h⟩:=chk_some h
 exact x_to 15 [(3,.app false (List.length (l9++[t8])) ((eInt).f (l9++[t8]))),(4,.ren 39 9)] (ocons (len_row' (L:=l9) eInt) (ocons (app_one (L:=l9) (M:=[t8]) eInt c2) (ocons (app_new (L:=l9) (M:=[t8]) eInt) (ocons (app_m (L:=l9) (M:=[t8]) eInt rfl) (ocons (len_row' (L:=[t8]) eInt) (ocons (Enc.noOwn eInt (fun _=>rfl) [t8]) (ocons (show 39<1000∧9<1000 by decide) onil))))))) (hrec0 (t6,w64 (t7+1),(l9++[t8])) r h) 
def Dspec_l1SubMag_0(n:Nat)(rec0:(Int×Int×List Int)→Option (List Int))(t0:List Int)(t1:List Int)(t6 t7 t8:Int)(t33:Bool)(l9:List Int):Option (List Int) :=
 frk t33 (Dspec_l1SubMag_1 n rec0 t0 t1 1 t7 (w64 (t8+10000)) l9) (Dspec_l1SubMag_1 n rec0 t0 t1 t6 t7 t8 l9)
theorem Tspec_l1SubMag_0{Y}(n:Nat)(rec0:(Int×Int×List Int)→Option (List Int))(t0:List Int)(t1:List Int)(hrec0:∀(a:(Int×Int×List Int)) (r:(List Int)),rec0 a=some r→Wk Tryz.prog H Y 261 [.code (cp [1,1,1,0,1,0] (bodyOf Tryz.f261)),.blk 0,.code (cp [1,1,1,1] (bodyOf Tryz.f261))] (FinX Tryz.prog Tryz.f261 [] (.sl true 1 r.length ((eInt).f r)) []) ⟨[(0,.sl false 1 t0.length ((eInt).f t0)),(1,.sl false 1 t1.length ((eInt).f t1)),(5,.msl 9 a.2.2.length),(6,i64 a.1),(7,i64 a.2.1)],[(9,⟨true,1,(eInt).f a.2.2⟩)]⟩)(t6 t7 t8:Int)(t33:Bool)(l9:List Int)(r:(List Int))(h:Dspec_l1SubMag_0 n rec0 t0 t1 t6 t7 t8 t33 l9=some r):Wk Tryz.prog H Y 261 [.code (cp [1,1,1,0,1,0,0,1,0,0,1,1,1,0,1] (bodyOf Tryz.f261)),.code (cp [1,1,1,0,1,0,0,1,0,0,1,1,1,1] (bodyOf Tryz.f261)),.blk 1,.code (cp [1,1,1,0,1,0,0,1,1] (bodyOf Tryz.f261)),.lp (cp [1,1,1,0,1,0] (bodyOf Tryz.f261)),.blk 0,.code (cp [1,1,1,1] (bodyOf Tryz.f261))] (FinX Tryz.prog Tryz.f261 [] (.sl true 1 r.length ((eInt).f r)) []) ⟨[(0,.sl false 1 t0.length ((eInt).f t0)),(1,.sl false 1 t1.length ((eInt).f t1)),(5,.msl 9 l9.length),(6,i64 t6),(7,i64 t7),(8,i64 t8),(33,bl t33)],[(9,⟨true,1,(eInt).f l9⟩)]⟩:=by
 unfold Dspec_l1SubMag_0 at h
 refine x_frk 0 [] onil h (by kernel_rfl) (fun h=>?_) (fun h=>?_)
 ·exact x_to 9 [] onil (Tspec_l1SubMag_1 n rec0 t0 t1 hrec0 1 t7 (w64 (t8+10000)) l9 r h) 
 ·exact x_to 1 [] onil (Tspec_l1SubMag_1 n rec0 t0 t1 hrec0 t6 t7 t8 l9 r h) 
def Dspec_l1SubMag_2(n:Nat)(t0:List Int)(t1:List Int)(rec0:(Int×Int×List Int)→Option (List Int))(a:(Int×Int×List Int)):Option (List Int) :=
 match a with
 | (t6,t7,l9)=>frk (decide (t7<(t0.length:Int))) ((lget t0 t7).bind fun v0=>frk (decide (t7<(t1.length:Int))) ((lget t1 t7).bind fun v1=>Dspec_l1SubMag_0 n rec0 t0 t1 0 t7 (w64 ((w64 (v0-t6))-v1)) (decide ((w64 ((w64 (v0-t6))-v1))<0)) l9) (Dspec_l1SubMag_0 n rec0 t0 t1 0 t7 (w64 (v0-t6)) (decide ((w64 (v0-t6))<0)) l9)) (some l9)
theorem Tspec_l1SubMag_2{Y}(n:Nat)(t0:List Int)(t1:List Int):∀(m:Nat) (a:(Int×Int×List Int)) (r:(List Int)),loopN (Dspec_l1SubMag_2 n t0 t1) m a=some r→Wk Tryz.prog H Y 261 [.code (cp [1,1,1,0,1,0] (bodyOf Tryz.f261)),.blk 0,.code (cp [1,1,1,1] (bodyOf Tryz.f261))] (FinX Tryz.prog Tryz.f261 [] (.sl true 1 r.length ((eInt).f r)) []) ⟨[(0,.sl false 1 t0.length ((eInt).f t0)),(1,.sl false 1 t1.length ((eInt).f t1)),(5,.msl 9 a.2.2.length),(6,i64 a.1),(7,i64 a.2.1)],[(9,⟨true,1,(eInt).f a.2.2⟩)]⟩:=by
 refine loopN_ind (fun rec0 hrec0 a r h=>?_)
 obtain⟨t6,t7,l9⟩:=a
 unfold Dspec_l1SubMag_2 at h
 refine x_frk 9 [] onil h (by kernel_rfl) (fun h=>?_) (fun h=>?_)
 ·obtain⟨v0,y0,h⟩:=bm h
  refine x_frk 21 [(2,.val (.cptr (eInt.c v0++(eInt).f ((t0).drop (Int.toNat t7+1)))))] (ocons (ix eInt y0) onil) h (by kernel_rfl) (fun h=>?_) (fun h=>?_)
  ·obtain⟨v1,y1,h⟩:=bm h
   exact x_to 19 [(3,.val (.cptr (eInt.c v1++(eInt).f ((t1).drop (Int.toNat t7+1)))))] (ocons (ix eInt y1) onil) (Tspec_l1SubMag_0 n rec0 t0 t1 hrec0 0 t7 (w64 ((w64 (v0-t6))-v1)) (decide ((w64 ((w64 (v0-t6))-v1))<0)) l9 r h) 
  ·exact x_to 11 [] onil (Tspec_l1SubMag_0 n rec0 t0 t1 hrec0 0 t7 (w64 (v0-t6)) (decide ((w64 (v0-t6))<0)) l9 r h) 
 ·replace h:=sj h;subst h
  exact x_end 6 [] [] onil (ocons (len_row (L:=l9) eInt) onil) 
def Dspec_l1SubMag(n:Nat)(a0:(List Int))(a1:(List Int)):Option (List Int) :=
 loopN (Dspec_l1SubMag_2 n a0 a1) n (0,0,[])
theorem Tspec_l1SubMag{Y}(n:Nat)(a0:(List Int))(a1:(List Int))(r:(List Int))(h:Dspec_l1SubMag n a0 a1=some r):Big Tryz.prog H Y (.call 261 [.sl false 1 a0.length ((eInt).f a0),.sl false 1 a1.length ((eInt).f a1)] (lk []) (.sl true 1 r.length ((eInt).f r)) (lk [])):=by
 unfold Dspec_l1SubMag at h
 refine x_call (fn:=Tryz.f261) (c:=bodyOf Tryz.f261) (bs0:=[]) Tryz.func261 (by kernel_rfl) (by kernel_rfl) ?_
 exact x_to 19 [] onil (Tspec_l1SubMag_2 n a0 a1 n (0,0,[]) r h) 
def Dspec_l1DivMag_0(n:Nat)(rec0:(Int×List Int×List Int)→Option ((List Int)×(List Int)))(_t0:List Int)(t1:List Int)(t8:Int)(rec1:(List Int×List Int)→Option ((List Int)×(List Int)))(a:(List Int×List Int)):Option ((List Int)×(List Int)) :=
 match a with
 | (l12,l29)=>(Dspec_l1CmpMag n l29 t1).bind fun v4=>frk (decide (v4≥0)) ((Dspec_l1Guess n l29 t1).bind fun v5=>(lget l12 t8).bind fun v6=>(lget l12 t8).bind fun _v7=>(Dspec_l1MulMag n t1 [Int.tmod v5 10000,w64 (Int.tdiv v5 10000)]).bind fun v8=>(Dspec_l1Num n false v8).bind fun v9=>(Dspec_l1SubMag n l29 v9.D).bind fun v10=>(Dspec_l1Num n false v10).bind fun v11=>rec1 ((l12.set (Int.toNat t8) (w64 (v6+v5))),v11.D)) (rec0 (w64 (t8-1),l12,l29))
theorem Tspec_l1DivMag_0{Y}(n:Nat)(rec0:(Int×List Int×List Int)→Option ((List Int)×(List Int)))(t0:List Int)(t1:List Int)(hrec0:∀(a:(Int×List Int×List Int)) (r:((List Int)×(List Int))),rec0 a=some r→Wk Tryz.prog H Y 234 [.code (cp [1,1,1,0,1,0] (bodyOf Tryz.f234)),.blk 0,.code (cp [1,1,1,1] (bodyOf Tryz.f234))] (FinX Tryz.prog Tryz.f234 [] (.tup [.sl true 1 r.1.length ((eInt).f r.1),.sl true 1 r.2.length ((eInt).f r.2)]) []) ⟨[(0,.sl false 1 t0.length ((eInt).f t0)),(1,.sl false 1 t1.length ((eInt).f t1)),(6,.msl 12 a.2.1.length),(7,.msl 13 a.2.2.length),(8,i64 a.1)],[(12,⟨true,1,(eInt).f a.2.1⟩),(13,⟨false,1,(eInt).f a.2.2⟩)]⟩)(t8:Int):∀(m:Nat) (a:(List Int×List Int)) (r:((List Int)×(List Int))),loopN (Dspec_l1DivMag_0 n rec0 t0 t1 t8) m a=some r→Wk Tryz.prog H Y 234 [.code (cp [1,1,1,0,1,0,0,1,0,0,1,0] (bodyOf Tryz.f234)),.blk 2,.blk 1,.code (cp [1,1,1,0,1,0,0,1,1] (bodyOf Tryz.f234)),.lp (cp [1,1,1,0,1,0] (bodyOf Tryz.f234)),.blk 0,.code (cp [1,1,1,1] (bodyOf Tryz.f234))] (FinX Tryz.prog Tryz.f234 [] (.tup [.sl true 1 r.1.length ((eInt).f r.1),.sl true 1 r.2.length ((eInt).f r.2)]) []) ⟨[(0,.sl false 1 t0.length ((eInt).f t0)),(1,.sl false 1 t1.length ((eInt).f t1)),(6,.msl 12 a.1.length),(7,.msl 29 a.2.length),(8,i64 t8)],[(12,⟨true,1,(eInt).f a.1⟩),(29,⟨false,1,(eInt).f a.2⟩)]⟩:=by
 refine loopN_ind (fun _rec1 hrec1 a r h=>?_)
 obtain⟨l12,l29⟩:=a
 unfold Dspec_l1DivMag_0 at h
 obtain⟨v4,y4,h⟩:=bm h
 refine x_frk 9 [(2,.call [] [(eInt).f l29] (i64 v4) [])] (ocons (Tspec_l1CmpMag (Y:=Y) n l29 t1 _ y4) (ocons (len_row (L:=l29) eInt) (ocons (Enc.share eInt eInt sInt l29) onil))) h (by kernel_rfl) (fun h=>?_) (fun h=>?_)
 ·obtain⟨v5,y5,h⟩:=bm h
  obtain⟨v6,y6,h⟩:=bm h
  obtain⟨_v7,y7,h⟩:=bm h
  obtain⟨v8,y8,h⟩:=bm h
  obtain⟨v9,y9,h⟩:=bm h
  obtain⟨v10,y10,h⟩:=bm h
  obtain⟨v11,y11,h⟩:=bm h
  exact x_to 44 [(2,.call [] [(eInt).f l29] (i64 v5) []),(5,.unit),(0,.val (i64 v6)),(2,.unit),(0,.cells ((eInt).f (l12.set (Int.toNat t8) (w64 (v6+v5))))),(0,.fix 6 (.msl 12 (l12.set (Int.toNat t8) (w64 (v6+v5))).length)),(0,.fix 37 (.msl 12 (l12.set (Int.toNat t8) (w64 (v6+v5))).length)),(0,.fix 39 (.msl 12 (l12.set (Int.toNat t8) (w64 (v6+v5))).length)),(7,.call [] [(eInt).f [Int.tmod v5 10000,w64 (Int.tdiv v5 10000)]] (.sl true 1 v8.length ((eInt).f v8)) []),(0,.call [] [(eInt).f v8] (.agg [bl v9.Neg,.sl true 1 v9.D.length ((eInt).f v9.D)]) []),(1,.call [] [(eInt).f v9.D,(eInt).f l29] (.sl true 1 v10.length ((eInt).f v10)) []),(0,.call [] [(eInt).f v10] (.agg [bl v11.Neg,.sl true 1 v11.D.length ((eInt).f v11.D)]) []),(2,.ren 58 29)] (ocons (Tspec_l1Guess (Y:=Y) n l29 t1 _ y5) (ocons (len_row (L:=l29) eInt) (ocons (Enc.share eInt eInt sInt l29) (ocons (inr y6) (ocons (ld1 eInt y6 0 rfl) (ocons (inr y7) (ocons (stA eInt y7 0 1 [i64 (w64 (v6+v5))] (w64 (v6+v5)) rfl rfl) (ocons (setLen 12 l12 (Int.toNat t8) (w64 (v6+v5))) (ocons (setLen 12 l12 (Int.toNat t8) (w64 (v6+v5))) (ocons (setLen 12 l12 (Int.toNat t8) (w64 (v6+v5))) (ocons (Tspec_l1MulMag (Y:=Y) n t1 [Int.tmod v5 10000,w64 (Int.tdiv v5 10000)] _ y8) (ocons (len_row (L:=[Int.tmod v5 10000,w64 (Int.tdiv v5 10000)]) eInt) (ocons (Enc.share eInt eInt sInt [Int.tmod v5 10000,w64 (Int.tdiv v5 10000)]) (ocons (show hasSh (.sl true 1 v8.length ((eInt).f v8))=false by simp[hasSh,hasShL,nSh,nShI,nShB,nShP,nShT,nShN,nShPs]) (ocons (Tspec_l1Num (Y:=Y) n false v8 _ y9) (ocons (len_row (L:=v8) eInt) (ocons (Enc.share eInt eInt sInt v8) (ocons (show hasSh (.agg [bl v9.Neg,.sl true 1 v9.D.length ((eInt).f v9.D)])=false by simp[hasSh,hasShL,nSh,nShI,nShB,nShP,nShT,nShN,nShPs]) (ocons (Tspec_l1SubMag (Y:=Y) n l29 v9.D _ y10) (ocons (len_row (L:=l29) eInt) (ocons (Enc.share eInt eInt sInt l29) (ocons (len_row (L:=v9.D) eInt) (ocons (Enc.share eInt eInt sInt v9.D) (ocons (show hasSh (.sl true 1 v10.length ((eInt).f v10))=false by simp[hasSh,hasShL,nSh,nShI,nShB,nShP,nShT,nShN,nShPs]) (ocons (Tspec_l1Num (Y:=Y) n false v10 _ y11) (ocons (len_row (L:=v10) eInt) (ocons (Enc.share eInt eInt sInt v10) (ocons (show hasSh (.agg [bl v11.Neg,.sl true 1 v11.D.length ((eInt).f v11.D)])=false by simp[hasSh,hasShL,nSh,nShI,nShB,nShP,nShT,nShN,nShPs]) (ocons (show 58<1000∧29<1000 by decide) onil))))))))))))))))))))))))))))) (hrec1 ((l12.set (Int.toNat t8) (w64 (v6+v5))),v11.D) r h) 
 ·exact x_to 9 [(3,.ren 29 13)] (ocons (show 29<1000∧13<1000 by decide) onil) (hrec0 (w64 (t8-1),l12,l29) r h) 
def Dspec_l1DivMag_1(n:Nat)(t0:List Int)(t1:List Int)(rec0:(Int×List Int×List Int)→Option ((List Int)×(List Int)))(a:(Int×List Int×List Int)):Option ((List Int)×(List Int)) :=
 match a with
 | (t8,l12,l13)=>frk (decide (t8≥0)) ((lget t0 t8).bind fun v1=>chk (apB 8 (1+l13.length)) ((Dspec_l1Num n false ([v1]++l13)).bind fun v3=>loopN (Dspec_l1DivMag_0 n rec0 t0 t1 t8) n (l12,v3.D))) (some (l12,l13))
theorem Tspec_l1DivMag_1{Y}(n:Nat)(t0:List Int)(t1:List Int):∀(m:Nat) (a:(Int×List Int×List Int)) (r:((List Int)×(List Int))),loopN (Dspec_l1DivMag_1 n t0 t1) m a=some r→Wk Tryz.prog H Y 234 [.code (cp [1,1,1,0,1,0] (bodyOf Tryz.f234)),.blk 0,.code (cp [1,1,1,1] (bodyOf Tryz.f234))] (FinX Tryz.prog Tryz.f234 [] (.tup [.sl true 1 r.1.length ((eInt).f r.1),.sl true 1 r.2.length ((eInt).f r.2)]) []) ⟨[(0,.sl false 1 t0.length ((eInt).f t0)),(1,.sl false 1 t1.length ((eInt).f t1)),(6,.msl 12 a.2.1.length),(7,.msl 13 a.2.2.length),(8,i64 a.1)],[(12,⟨true,1,(eInt).f a.2.1⟩),(13,⟨false,1,(eInt).f a.2.2⟩)]⟩:=by
 refine loopN_ind (fun rec0 hrec0 a r h=>?_)
 obtain⟨t8,l12,l13⟩:=a
 unfold Dspec_l1DivMag_1 at h
 refine x_frk 7 [] onil h (by kernel_rfl) (fun h=>?_) (fun h=>?_)
 ·obtain⟨v1,y1,h⟩:=bm h
  obtain⟨c2,h⟩:=chk_some h
  obtain⟨v3,y3,h⟩:=bm h
  exact x_to 17 [(2,.val (.cptr (eInt.c v1++(eInt).f ((t0).drop (Int.toNat t8+1))))),(3,.app false (List.length ([v1]++l13)) ((eInt).f ([v1]++l13))),(0,.call [] [(eInt).f ([v1]++l13)] (.agg [bl v3.Neg,.sl true 1 v3.D.length ((eInt).f v3.D)]) [])] (ocons (ix eInt y1) (ocons (len_row' (L:=[v1]) eInt) (ocons (app_one (L:=[v1]) (M:=l13) eInt c2) (ocons (app_new (L:=[v1]) (M:=l13) eInt) (ocons (app_m (L:=[v1]) (M:=l13) eInt rfl) (ocons (len_row' (L:=l13) eInt) (ocons (Enc.noOwn eInt (fun _=>rfl) l13) (ocons (Tspec_l1Num (Y:=Y) n false ([v1]++l13) _ y3) (ocons (len_row (L:=([v1]++l13)) eInt) (ocons (Enc.share eInt eInt sInt ([v1]++l13)) (ocons (show hasSh (.agg [bl v3.Neg,.sl true 1 v3.D.length ((eInt).f v3.D)])=false by simp[hasSh,hasShL,nSh,nShI,nShB,nShP,nShT,nShN,nShPs]) onil))))))))))) (Tspec_l1DivMag_0 n rec0 t0 t1 hrec0 t8 n (l12,v3.D) r h) 
 ·replace h:=sj h;subst h
  exact x_end 8 [] [] onil (ocons (len_row (L:=l12) eInt) (ocons (len_row (L:=l13) eInt) onil)) 
def Dspec_l1DivMag(n:Nat)(a0:(List Int))(a1:(List Int)):Option ((List Int)×(List Int)) :=
 chk (mkB (a0.length:Int) 8) (loopN (Dspec_l1DivMag_1 n a0 a1) n (w64 ((a0.length:Int)-1),(List.replicate (Int.toNat (a0.length:Int)) (0:Int)),[]))
theorem Tspec_l1DivMag{Y}(n:Nat)(a0:(List Int))(a1:(List Int))(r:((List Int)×(List Int)))(h:Dspec_l1DivMag n a0 a1=some r):Big Tryz.prog H Y (.call 234 [.sl false 1 a0.length ((eInt).f a0),.sl false 1 a1.length ((eInt).f a1)] (lk []) (.tup [.sl true 1 r.1.length ((eInt).f r.1),.sl true 1 r.2.length ((eInt).f r.2)]) (lk [])):=by
 unfold Dspec_l1DivMag at h
 refine x_call (fn:=Tryz.f234) (c:=bodyOf Tryz.f234) (bs0:=[]) Tryz.func234 (by kernel_rfl) (by kernel_rfl) ?_
 obtain⟨c0,h⟩:=chk_some h
 exact x_to 27 [(4,.mk (List.replicate (Int.toNat (a0.length:Int)) (0:Int)).length ((eInt).f (List.replicate (Int.toNat (a0.length:Int)) (0:Int)))),(7,.shutb 13 ⟨true,1,(eInt).f []⟩)] (ocons (rflI (a0.length:Int)) (ocons (mkOk eInt c0 (0:Int) rfl) (ocons (rflB ⟨true,1,(eInt).f []⟩) (ocons (show 1≠0 by decide) onil)))) (Tspec_l1DivMag_1 n a0 a1 n (w64 ((a0.length:Int)-1),(List.replicate (Int.toNat (a0.length:Int)) (0:Int)),[]) r h) 
def Dspec_l1Gcd_0(n:Nat)(rec0:(List Int×List Int)→Option (List Int))(a:(List Int×List Int)):Option (List Int) :=
 match a with
 | (t0,t1)=>frk (decide ((t1.length:Int)>0)) ((Dspec_l1DivMag n t0 t1).bind fun v0=>rec0 (t1,v0.2)) (some t0)
theorem Tspec_l1Gcd_0{Y}(n:Nat):∀(m:Nat) (a:(List Int×List Int)) (r:(List Int)),loopN (Dspec_l1Gcd_0 n) m a=some r→Wk Tryz.prog H Y 269 [.code (cp [1,0,0] (bodyOf Tryz.f269)),.blk 0,.code (cp [1,1] (bodyOf Tryz.f269))] (FinX Tryz.prog Tryz.f269 [] (.sl false 1 r.length ((eInt).f r)) []) ⟨[(0,.sl false 1 a.1.length ((eInt).f a.1)),(1,.sl false 1 a.2.length ((eInt).f a.2))],[]⟩:=by
 refine loopN_ind (fun _rec0 hrec0 a r h=>?_)
 obtain⟨t0,t1⟩:=a
 unfold Dspec_l1Gcd_0 at h
 refine x_frk 8 [] onil h (by kernel_rfl) (fun h=>?_) (fun h=>?_)
 ·obtain⟨v0,y0,h⟩:=bm h
  exact x_to 24 [(2,.call [] [] (.tup [.sl false 1 v0.1.length ((eInt).f v0.1),.sl false 1 v0.2.length ((eInt).f v0.2)]) [])] (ocons (Big.wkr (Tspec_l1DivMag (Y:=Y) n t0 t1 _ y0) (show WkV (.tup [.sl true 1 v0.1.length ((eInt).f v0.1),.sl true 1 v0.2.length ((eInt).f v0.2)]) (.tup [.sl false 1 v0.1.length ((eInt).f v0.1),.sl false 1 v0.2.length ((eInt).f v0.2)]) from .inr ⟨_,_,rfl,rfl,⟨wkShareU (L:=v0.1) eInt eInt sInt,wkShareU (L:=v0.2) eInt eInt sInt,trivial⟩⟩)) onil) (hrec0 (t1,v0.2) r h) 
 ·replace h:=sj h;subst h
  exact x_end 6 [] [] onil onil 
def Dspec_l1Gcd(n:Nat)(a0:(List Int))(a1:(List Int)):Option (List Int) :=
 loopN (Dspec_l1Gcd_0 n) n (a0,a1)
theorem Tspec_l1Gcd{Y}(n:Nat)(a0:(List Int))(a1:(List Int))(r:(List Int))(h:Dspec_l1Gcd n a0 a1=some r):Big Tryz.prog H Y (.call 269 [.sl false 1 a0.length ((eInt).f a0),.sl false 1 a1.length ((eInt).f a1)] (lk []) (.sl false 1 r.length ((eInt).f r)) (lk [])):=by
 unfold Dspec_l1Gcd at h
 refine x_call (fn:=Tryz.f269) (c:=bodyOf Tryz.f269) (bs0:=[]) Tryz.func269 (by kernel_rfl) (by kernel_rfl) ?_
 exact x_to 6 [] onil (Tspec_l1Gcd_0 n n (a0,a1) r h) 
def Dspec_Gcd(n:Nat)(a0:Num)(a1:Num):Option Num :=
 (Dspec_l1Mag n a0).bind fun v0=>(Dspec_l1Mag n a1).bind fun v1=>(Dspec_l1Gcd n v0 v1).bind fun v2=>(Dspec_l1Num n false v2).bind fun v3=>some v3
theorem Tspec_Gcd{Y}(n:Nat)(a0:Num)(a1:Num)(r:Num)(h:Dspec_Gcd n a0 a1=some r):Big Tryz.prog H Y (.call 258 [.agg [bl a0.Neg,.sl false 1 a0.D.length ((eInt).f a0.D)],.agg [bl a1.Neg,.sl false 1 a1.D.length ((eInt).f a1.D)]] (lk []) (.agg [bl r.Neg,.sl true 1 r.D.length ((eInt).f r.D)]) (lk [])):=by
 unfold Dspec_Gcd at h
 refine x_call (fn:=Tryz.f258) (c:=bodyOf Tryz.f258) (bs0:=[]) Tryz.func258 (by kernel_rfl) (by kernel_rfl) ?_
 obtain⟨v0,y0,h⟩:=bm h
 obtain⟨v1,y1,h⟩:=bm h
 obtain⟨v2,y2,h⟩:=bm h
 obtain⟨v3,y3,h⟩:=bm h
 replace h:=sj h;subst h
 exact x_end 16 [(4,.call [] [] (.sl false 1 v0.length ((eInt).f v0)) []),(1,.call [] [] (.sl false 1 v1.length ((eInt).f v1)) []),(0,.call [] [] (.sl false 1 v2.length ((eInt).f v2)) []),(0,.call [] [] (.agg [bl v3.Neg,.sl true 1 v3.D.length ((eInt).f v3.D)]) [])] [] (ocons (Tspec_l1Mag (Y:=Y) n a0 _ y0) (ocons (Tspec_l1Mag (Y:=Y) n a1 _ y1) (ocons (Tspec_l1Gcd (Y:=Y) n v0 v1 _ y2) (ocons (Tspec_l1Num (Y:=Y) n false v2 _ y3) onil)))) onil 
def Dspec_l3NumGcd_0(n:Nat)(t0:List Num)(_za:Bool)(rec0:(Int×Bool×List Int)→Option Num)(a:(Int×Bool×List Int)):Option Num :=
 match a with
 | (t4,zg,zh)=>frk (decide (t4<(t0.length:Int))) ((lget t0 t4).bind fun v1=>(Dspec_Gcd n (Num.mk zg zh) v1).bind fun v2=>rec0 (w64 (t4+1),v2.Neg,v2.D)) (some (Num.mk zg zh))
theorem Tspec_l3NumGcd_0{Y}(n:Nat)(t0:List Num)(za:Bool):∀(m:Nat) (a:(Int×Bool×List Int)) (r:Num),loopN (Dspec_l3NumGcd_0 n t0 za) m a=some r→Wk Tryz.prog H Y 233 [.code (cp [1,1,0,1,0] (bodyOf Tryz.f233)),.blk 0,.code (cp [1,1,1] (bodyOf Tryz.f233))] (FinX Tryz.prog Tryz.f233 [] (.agg [bl r.Neg,.sl true 1 r.D.length ((eInt).f r.D)]) []) ⟨[(0,.sl false 2 t0.length ((eNum false).f t0)),(2,.ptr 2 0),(3,.ptr 3 0),(4,i64 a.1)],[(2,⟨true,0,[bl za,.nil]⟩),(3,⟨true,0,[bl a.2.1,.sl true 1 a.2.2.length ((eInt).f a.2.2)]⟩)]⟩:=by
 refine loopN_ind (fun _rec0 hrec0 a r h=>?_)
 obtain⟨t4,zg,zh⟩:=a
 unfold Dspec_l3NumGcd_0 at h
 refine x_frk 9 [] onil h (by kernel_rfl) (fun h=>?_) (fun h=>?_)
 ·obtain⟨v1,y1,h⟩:=bm h
  obtain⟨v2,y2,h⟩:=bm h
  exact x_to 19 [(0,.rows [(eInt).f zh]),(2,.val (.cptr ((eNum false).c v1++(eNum false).f ((t0).drop (Int.toNat t4+1))))),(1,.call [] [] (.agg [bl v2.Neg,.sl true 1 v2.D.length ((eInt).f v2.D)]) [])] (ocons (Enc.share eInt eInt sInt zh) (ocons (ix (eNum false) y1) (ocons (Tspec_Gcd (Y:=Y) n (Num.mk zg zh) v1 _ y2) onil))) (hrec0 (w64 (t4+1),v2.Neg,v2.D) r h) 
 ·replace h:=sj h;subst h
  exact x_end 6 [] [] onil onil 
def Dspec_l3NumGcd(n:Nat)(a0:(List Num)):Option Num :=
 (Dspec_Of n 0).bind fun v0=>loopN (Dspec_l3NumGcd_0 n a0 false) n (0,v0.Neg,v0.D)
theorem Tspec_l3NumGcd{Y}(n:Nat)(a0:(List Num))(r:Num)(h:Dspec_l3NumGcd n a0=some r):Big Tryz.prog H Y (.call 233 [.sl false 2 a0.length ((eNum false).f a0)] (lk []) (.agg [bl r.Neg,.sl true 1 r.D.length ((eInt).f r.D)]) (lk [])):=by
 unfold Dspec_l3NumGcd at h
 refine x_call (fn:=Tryz.f233) (c:=bodyOf Tryz.f233) (bs0:=[]) Tryz.func233 (by kernel_rfl) (by kernel_rfl) ?_
 obtain⟨v0,y0,h⟩:=bm h
 exact x_to 16 [(1,.call [] [] (.agg [bl v0.Neg,.sl true 1 v0.D.length ((eInt).f v0.D)]) [])] (ocons (Tspec_Of (Y:=Y) n 0 _ y0) onil) (Tspec_l3NumGcd_0 n a0 false n (0,v0.Neg,v0.D) r h) 
def Dspec_l1Sign(n:Nat)(a0:Num):Option Bool :=
 (Dspec_NumOk n a0).bind fun v0=>frk v0 (some a0.Neg) (some false)
theorem Tspec_l1Sign{Y}(n:Nat)(a0:Num)(r:Bool)(h:Dspec_l1Sign n a0=some r):Big Tryz.prog H Y (.call 264 [.agg [bl a0.Neg,.sl false 1 a0.D.length ((eInt).f a0.D)]] (lk []) (bl r) (lk [])):=by
 unfold Dspec_l1Sign at h
 refine x_call (fn:=Tryz.f264) (c:=bodyOf Tryz.f264) (bs0:=[]) Tryz.func264 (by kernel_rfl) (by kernel_rfl) ?_
 obtain⟨v0,y0,h⟩:=bm h
 refine x_frk 10 [(3,.call [] [] (bl v0) [])] (ocons (Tspec_NumOk (Y:=Y) n a0 _ y0) onil) h (by kernel_rfl) (fun h=>?_) (fun h=>?_)
 ·replace h:=sj h;subst h
  exact x_end 5 [] [] onil onil 
 ·replace h:=sj h;subst h
  exact x_end 5 [] [] onil onil 
def Dspec_Small_0(n:Nat)(t5:Int)(zab:Bool)(zac:List Int):Option (Int×Bool) :=
 (Dspec_l1Sign n (Num.mk zab zac)).bind fun v2=>frk v2 (frk (decide (t5>9223372036854775808)) (some (0,false)) (some (w64 ((w64 (0-(w64 (IntKind.u64.wrap (t5-1)))))-1),true))) (frk (decide (t5≥9223372036854775808)) (some (0,false)) (some (w64 t5,true)))
theorem Tspec_Small_0{Y}(n:Nat)(t5:Int)(zab:Bool)(zac:List Int)(r:(Int×Bool))(h:Dspec_Small_0 n t5 zab zac=some r):Wk Tryz.prog H Y 235 [.code (cp [1,1,1,1,1,0,0] (bodyOf Tryz.f235)),.code (cp [1,1,1,1,1,0,1] (bodyOf Tryz.f235)),.code (cp [1,1,1,1,1,1] (bodyOf Tryz.f235))] (FinX Tryz.prog Tryz.f235 [] (.tup [i64 r.1,bl r.2]) []) ⟨[(1,.ptr 1 0),(5,.lit (.int .u64 t5))],[(1,⟨true,0,[bl zab,.sl false 1 zac.length ((eInt).f zac)]⟩)]⟩:=by
 unfold Dspec_Small_0 at h
 obtain⟨v2,y2,h⟩:=bm h
 refine x_frk 4 [(1,.call [] [] (bl v2) [])] (ocons (Tspec_l1Sign (Y:=Y) n (Num.mk zab zac) _ y2) onil) h (by kernel_rfl) (fun h=>?_) (fun h=>?_)
 ·refine x_frk 6 [] onil h (by kernel_rfl) (fun h=>?_) (fun h=>?_)
  ·replace h:=sj h;subst h
   exact x_end 5 [] [] onil onil 
  ·replace h:=sj h;subst h
   exact x_end 11 [] [] onil onil 
 ·refine x_frk 7 [] onil h (by kernel_rfl) (fun h=>?_) (fun h=>?_)
  ·replace h:=sj h;subst h
   exact x_end 5 [] [] onil onil 
  ·replace h:=sj h;subst h
   exact x_end 8 [] [] onil onil 
def Dspec_Small_1(n:Nat)(t4:List Int)(zab:Bool)(zac:List Int)(rec0:(Int×Int)→Option (Int×Bool))(a:(Int×Int)):Option (Int×Bool) :=
 match a with
 | (t5,t6)=>frk (decide (t6≥0)) (frk (decide (t5>922337203685477)) (some (0,false)) ((lget t4 t6).bind fun v1=>rec0 (IntKind.u64.wrap ((IntKind.u64.wrap (t5*10000))+(IntKind.u64.wrap v1)),w64 (t6-1)))) (Dspec_Small_0 n t5 zab zac)
theorem Tspec_Small_1{Y}(n:Nat)(t4:List Int)(zab:Bool)(zac:List Int):∀(m:Nat) (a:(Int×Int)) (r:(Int×Bool)),loopN (Dspec_Small_1 n t4 zab zac) m a=some r→Wk Tryz.prog H Y 235 [.code (cp [1,1,1,1,0,1,0] (bodyOf Tryz.f235)),.blk 0,.code (cp [1,1,1,1,1] (bodyOf Tryz.f235))] (FinX Tryz.prog Tryz.f235 [] (.tup [i64 r.1,bl r.2]) []) ⟨[(1,.ptr 1 0),(4,.sl false 1 t4.length ((eInt).f t4)),(5,.lit (.int .u64 a.1)),(6,i64 a.2)],[(1,⟨true,0,[bl zab,.sl false 1 zac.length ((eInt).f zac)]⟩)]⟩:=by
 refine loopN_ind (fun _rec0 hrec0 a r h=>?_)
 obtain⟨t5,t6⟩:=a
 unfold Dspec_Small_1 at h
 refine x_frk 7 [] onil h (by kernel_rfl) (fun h=>?_) (fun h=>?_)
 ·refine x_frk 9 [] onil h (by kernel_rfl) (fun h=>?_) (fun h=>?_)
  ·replace h:=sj h;subst h
   exact x_end 5 [] [] onil onil 
  ·obtain⟨v1,y1,h⟩:=bm h
   exact x_to 19 [(4,.val (.cptr (eInt.c v1++(eInt).f ((t4).drop (Int.toNat t6+1)))))] (ocons (ix eInt y1) onil) (hrec0 (IntKind.u64.wrap ((IntKind.u64.wrap (t5*10000))+(IntKind.u64.wrap v1)),w64 (t6-1)) r h) 
 ·exact x_to 3 [] onil (Tspec_Small_0 n t5 zab zac r h) 
def Dspec_Small(n:Nat)(a0:Num):Option (Int×Bool) :=
 (Dspec_l1Mag n a0).bind fun v0=>frk (decide ((v0.length:Int)>5)) (some (0,false)) (loopN (Dspec_Small_1 n v0 a0.Neg a0.D) n (0,w64 ((v0.length:Int)-1)))
theorem Tspec_Small{Y}(n:Nat)(a0:Num)(r:(Int×Bool))(h:Dspec_Small n a0=some r):Big Tryz.prog H Y (.call 235 [.agg [bl a0.Neg,.sl false 1 a0.D.length ((eInt).f a0.D)]] (lk []) (.tup [i64 r.1,bl r.2]) (lk [])):=by
 unfold Dspec_Small at h
 refine x_call (fn:=Tryz.f235) (c:=bodyOf Tryz.f235) (bs0:=[]) Tryz.func235 (by kernel_rfl) (by kernel_rfl) ?_
 obtain⟨v0,y0,h⟩:=bm h
 refine x_frk 19 [(4,.call [] [] (.sl false 1 v0.length ((eInt).f v0)) [])] (ocons (Tspec_l1Mag (Y:=Y) n a0 _ y0) onil) h (by kernel_rfl) (fun h=>?_) (fun h=>?_)
 ·replace h:=sj h;subst h
  exact x_end 5 [] [] onil onil 
 ·exact x_to 14 [] onil (Tspec_Small_1 n v0 a0.Neg a0.D n (0,w64 ((v0.length:Int)-1)) r h) 
def Dspec_Primitive_4(_n:Nat)(t16:Int)(t73:Bool)(_zv _zw _zx _zai:Int)(_zaj:Bool)(_zak:List Int)(_l37:List Num)(l78:List Int):Option (Pl×Int) :=
 frk t73 (some ((Pl.mk 0 0 0 0),2)) (chk (apB 8 (l78.length+1)) ((lget (l78++[t16]) 0).bind fun v31=>(lget (l78++[t16]) 1).bind fun v32=>(lget (l78++[t16]) 2).bind fun v33=>(lget (l78++[t16]) 3).bind fun v34=>some ((Pl.mk v31 v32 v33 v34),0)))
theorem Tspec_Primitive_4{Y}(n:Nat)(t16:Int)(t73:Bool)(zv zw zx zai:Int)(zaj:Bool)(zak:List Int)(l37:List Num)(l78:List Int)(r:(Pl×Int))(h:Dspec_Primitive_4 n t16 t73 zv zw zx zai zaj zak l37 l78=some r):Wk Tryz.prog H Y 202 [.code (cp [1,1,1,1,1,0,1,0,0,1,0,0,1,1,0,1] (bodyOf Tryz.f202)),.code (cp [1,1,1,1,1,0,1,0,0,1,0,0,1,1,1] (bodyOf Tryz.f202)),.blk 1,.code (cp [1,1,1,1,1,0,1,0,0,1,1] (bodyOf Tryz.f202)),.lp (cp [1,1,1,1,1,0,1,0] (bodyOf Tryz.f202)),.blk 0,.code (cp [1,1,1,1,1,1] (bodyOf Tryz.f202))] (FinX Tryz.prog Tryz.f202 [] (.tup [.agg [i64 r.1.A,i64 r.1.B,i64 r.1.C,i64 r.1.D],i64 r.2]) []) ⟨[(8,.ptr 8 0),(10,.msl 37 l37.length),(11,.ptr 11 0),(12,.msl 78 l78.length),(13,i64 3),(16,i64 t16),(73,bl t73)],[(8,⟨true,0,[i64 zv,i64 zw,i64 zx,i64 zai]⟩),(11,⟨true,0,[bl zaj,.sl true 1 zak.length ((eInt).f zak)]⟩),(37,⟨true,2,(eNum true).f l37⟩),(78,⟨true,1,(eInt).f l78⟩)]⟩:=by
 unfold Dspec_Primitive_4 at h
 refine x_frk 0 [] onil h (by kernel_rfl) (fun h=>?_) (fun h=>?_)
 ·replace h:=sj h;subst h
  exact x_end 6 [] [] onil onil 
 ·obtain⟨c30,h⟩:=chk_some h
  obtain⟨v31,y31,h⟩:=bm h
  obtain⟨v32,y32,h⟩:=bm h
  obtain⟨v33,y33,h⟩:=bm h
  obtain⟨v34,y34,h⟩:=bm h
  replace h:=sj h;subst h
  exact x_end 42 [(3,.app false (List.length (l78++[t16])) ((eInt).f (l78++[t16]))),(7,.unit),(0,.val (i64 v31)),(1,.unit),(0,.val (i64 v32)),(1,.unit),(0,.val (i64 v33)),(1,.unit),(0,.val (i64 v34))] [] (ocons (len_row' (L:=l78) eInt) (ocons (app_one (L:=l78) (M:=[t16]) eInt c30) (ocons (app_new (L:=l78) (M:=[t16]) eInt) (ocons (app_m (L:=l78) (M:=[t16]) eInt rfl) (ocons (len_row' (L:=[t16]) eInt) (ocons (Enc.noOwn eInt (fun _=>rfl) [t16]) (ocons (inr y31) (ocons (ld1 eInt y31 0 rfl) (ocons (inr y32) (ocons (ld1 eInt y32 0 rfl) (ocons (inr y33) (ocons (ld1 eInt y33 0 rfl) (ocons (inr y34) (ocons (ld1 eInt y34 0 rfl) onil)))))))))))))) onil 
def Dspec_Primitive_3(n:Nat)(t16:Int)(t73:Bool)(zv zw zx zai:Int)(zaj:Bool)(zak:List Int)(l37:List Num)(l78:List Int):Option (Pl×Int) :=
 frk t73 (some ((Pl.mk 0 0 0 0),2)) (chk (apB 8 (l78.length+1)) ((lget l37 3).bind fun v24=>(Dspec_l1DivMag n v24.D zak).bind fun v25=>(lget l37 3).bind fun v26=>(Dspec_l1Num n v26.Neg v25.1).bind fun v27=>(Dspec_Small n v27).bind fun v28=>frk (!v28.2) (some ((Pl.mk 0 0 0 0),2)) ((Dspec_l1In v28.1 (-500) 500).bind fun v29=>Dspec_Primitive_4 n v28.1 (!v29) zv zw zx zai zaj zak l37 (l78++[t16]))))
theorem Tspec_Primitive_3{Y}(n:Nat)(t16:Int)(t73:Bool)(zv zw zx zai:Int)(zaj:Bool)(zak:List Int)(l37:List Num)(l78:List Int)(r:(Pl×Int))(h:Dspec_Primitive_3 n t16 t73 zv zw zx zai zaj zak l37 l78=some r):Wk Tryz.prog H Y 202 [.code (cp [1,1,1,1,1,0,1,0,0,1,0,0,1,1,0,1] (bodyOf Tryz.f202)),.code (cp [1,1,1,1,1,0,1,0,0,1,0,0,1,1,1] (bodyOf Tryz.f202)),.blk 1,.code (cp [1,1,1,1,1,0,1,0,0,1,1] (bodyOf Tryz.f202)),.lp (cp [1,1,1,1,1,0,1,0] (bodyOf Tryz.f202)),.blk 0,.code (cp [1,1,1,1,1,1] (bodyOf Tryz.f202))] (FinX Tryz.prog Tryz.f202 [] (.tup [.agg [i64 r.1.A,i64 r.1.B,i64 r.1.C,i64 r.1.D],i64 r.2]) []) ⟨[(8,.ptr 8 0),(10,.msl 37 l37.length),(11,.ptr 11 0),(12,.msl 78 l78.length),(13,i64 2),(16,i64 t16),(73,bl t73)],[(8,⟨true,0,[i64 zv,i64 zw,i64 zx,i64 zai]⟩),(11,⟨true,0,[bl zaj,.sl true 1 zak.length ((eInt).f zak)]⟩),(37,⟨true,2,(eNum true).f l37⟩),(78,⟨true,1,(eInt).f l78⟩)]⟩:=by
 unfold Dspec_Primitive_3 at h
 refine x_frk 0 [] onil h (by kernel_rfl) (fun h=>?_) (fun h=>?_)
 ·replace h:=sj h;subst h
  exact x_end 6 [] [] onil onil 
 ·obtain⟨c23,h⟩:=chk_some h
  obtain⟨v24,y24,h⟩:=bm h
  obtain⟨v25,y25,h⟩:=bm h
  obtain⟨v26,y26,h⟩:=bm h
  obtain⟨v27,y27,h⟩:=bm h
  obtain⟨v28,y28,h⟩:=bm h
  refine x_frk 65 [(3,.app false (List.length (l78++[t16])) ((eInt).f (l78++[t16]))),(8,.unit),(1,.val (.sl true 1 v24.D.length ((eInt).f v24.D))),(0,.fix 50 (.sl false 1 v24.D.length ((eInt).f v24.D))),(1,.rows [(eInt).f zak]),(0,.call [] [] (.tup [.sl false 1 v25.1.length ((eInt).f v25.1),.sl false 1 v25.2.length ((eInt).f v25.2)]) []),(7,.unit),(1,.val (bl v26.Neg)),(1,.call [] [] (.agg [bl v27.Neg,.sl true 1 v27.D.length ((eInt).f v27.D)]) []),(0,.call [] [(eInt).f v27.D] (.tup [i64 v28.1,bl v28.2]) [])] (ocons (len_row' (L:=l78) eInt) (ocons (app_one (L:=l78) (M:=[t16]) eInt c23) (ocons (app_new (L:=l78) (M:=[t16]) eInt) (ocons (app_m (L:=l78) (M:=[t16]) eInt rfl) (ocons (len_row' (L:=[t16]) eInt) (ocons (Enc.noOwn eInt (fun _=>rfl) [t16]) (ocons (inr y24) (ocons (ld1 (eNum true) y24 1 rfl) (ocons (congrArg (AV.sl false 1 v24.D.length) (Enc.share eInt eInt sInt v24.D)) (ocons (Enc.share eInt eInt sInt zak) (ocons (Big.wkr (Tspec_l1DivMag (Y:=Y) n v24.D zak _ y25) (show WkV (.tup [.sl true 1 v25.1.length ((eInt).f v25.1),.sl true 1 v25.2.length ((eInt).f v25.2)]) (.tup [.sl false 1 v25.1.length ((eInt).f v25.1),.sl false 1 v25.2.length ((eInt).f v25.2)]) from .inr ⟨_,_,rfl,rfl,⟨wkShareU (L:=v25.1) eInt eInt sInt,wkShareU (L:=v25.2) eInt eInt sInt,trivial⟩⟩)) (ocons (inr y26) (ocons (ld1 (eNum true) y26 0 rfl) (ocons (Tspec_l1Num (Y:=Y) n v26.Neg v25.1 _ y27) (ocons (Tspec_Small (Y:=Y) n v27 _ y28) (ocons (Enc.share eInt eInt sInt v27.D) onil)))))))))))))))) h (by kernel_rfl) (fun h=>?_) (fun h=>?_)
  ·replace h:=sj h;subst h
   exact x_end 12 [] [] onil onil 
  ·obtain⟨v29,y29,h⟩:=bm h
   exact x_to 5 [(1,.call [] [] (bl v29) [])] (ocons (Tspec_l1In (Y:=Y) v28.1 (-500) 500 _ y29) onil) (Tspec_Primitive_4 n v28.1 (!v29) zv zw zx zai zaj zak l37 (l78++[t16]) r h) 
def Dspec_Primitive_2(n:Nat)(t16:Int)(t73:Bool)(zv zw zx zai:Int)(zaj:Bool)(zak:List Int)(l37:List Num)(l78:List Int):Option (Pl×Int) :=
 frk t73 (some ((Pl.mk 0 0 0 0),2)) (chk (apB 8 (l78.length+1)) ((lget l37 2).bind fun v17=>(Dspec_l1DivMag n v17.D zak).bind fun v18=>(lget l37 2).bind fun v19=>(Dspec_l1Num n v19.Neg v18.1).bind fun v20=>(Dspec_Small n v20).bind fun v21=>frk (!v21.2) (some ((Pl.mk 0 0 0 0),2)) ((Dspec_l1In v21.1 (-500) 500).bind fun v22=>Dspec_Primitive_3 n v21.1 (!v22) zv zw zx zai zaj zak l37 (l78++[t16]))))
theorem Tspec_Primitive_2{Y}(n:Nat)(t16:Int)(t73:Bool)(zv zw zx zai:Int)(zaj:Bool)(zak:List Int)(l37:List Num)(l78:List Int)(r:(Pl×Int))(h:Dspec_Primitive_2 n t16 t73 zv zw zx zai zaj zak l37 l78=some r):Wk Tryz.prog H Y 202 [.code (cp [1,1,1,1,1,0,1,0,0,1,0,0,1,1,0,1] (bodyOf Tryz.f202)),.code (cp [1,1,1,1,1,0,1,0,0,1,0,0,1,1,1] (bodyOf Tryz.f202)),.blk 1,.code (cp [1,1,1,1,1,0,1,0,0,1,1] (bodyOf Tryz.f202)),.lp (cp [1,1,1,1,1,0,1,0] (bodyOf Tryz.f202)),.blk 0,.code (cp [1,1,1,1,1,1] (bodyOf Tryz.f202))] (FinX Tryz.prog Tryz.f202 [] (.tup [.agg [i64 r.1.A,i64 r.1.B,i64 r.1.C,i64 r.1.D],i64 r.2]) []) ⟨[(8,.ptr 8 0),(10,.msl 37 l37.length),(11,.ptr 11 0),(12,.msl 78 l78.length),(13,i64 1),(16,i64 t16),(73,bl t73)],[(8,⟨true,0,[i64 zv,i64 zw,i64 zx,i64 zai]⟩),(11,⟨true,0,[bl zaj,.sl true 1 zak.length ((eInt).f zak)]⟩),(37,⟨true,2,(eNum true).f l37⟩),(78,⟨true,1,(eInt).f l78⟩)]⟩:=by
 unfold Dspec_Primitive_2 at h
 refine x_frk 0 [] onil h (by kernel_rfl) (fun h=>?_) (fun h=>?_)
 ·replace h:=sj h;subst h
  exact x_end 6 [] [] onil onil 
 ·obtain⟨c16,h⟩:=chk_some h
  obtain⟨v17,y17,h⟩:=bm h
  obtain⟨v18,y18,h⟩:=bm h
  obtain⟨v19,y19,h⟩:=bm h
  obtain⟨v20,y20,h⟩:=bm h
  obtain⟨v21,y21,h⟩:=bm h
  refine x_frk 65 [(3,.app false (List.length (l78++[t16])) ((eInt).f (l78++[t16]))),(8,.unit),(1,.val (.sl true 1 v17.D.length ((eInt).f v17.D))),(0,.fix 50 (.sl false 1 v17.D.length ((eInt).f v17.D))),(1,.rows [(eInt).f zak]),(0,.call [] [] (.tup [.sl false 1 v18.1.length ((eInt).f v18.1),.sl false 1 v18.2.length ((eInt).f v18.2)]) []),(7,.unit),(1,.val (bl v19.Neg)),(1,.call [] [] (.agg [bl v20.Neg,.sl true 1 v20.D.length ((eInt).f v20.D)]) []),(0,.call [] [(eInt).f v20.D] (.tup [i64 v21.1,bl v21.2]) [])] (ocons (len_row' (L:=l78) eInt) (ocons (app_one (L:=l78) (M:=[t16]) eInt c16) (ocons (app_new (L:=l78) (M:=[t16]) eInt) (ocons (app_m (L:=l78) (M:=[t16]) eInt rfl) (ocons (len_row' (L:=[t16]) eInt) (ocons (Enc.noOwn eInt (fun _=>rfl) [t16]) (ocons (inr y17) (ocons (ld1 (eNum true) y17 1 rfl) (ocons (congrArg (AV.sl false 1 v17.D.length) (Enc.share eInt eInt sInt v17.D)) (ocons (Enc.share eInt eInt sInt zak) (ocons (Big.wkr (Tspec_l1DivMag (Y:=Y) n v17.D zak _ y18) (show WkV (.tup [.sl true 1 v18.1.length ((eInt).f v18.1),.sl true 1 v18.2.length ((eInt).f v18.2)]) (.tup [.sl false 1 v18.1.length ((eInt).f v18.1),.sl false 1 v18.2.length ((eInt).f v18.2)]) from .inr ⟨_,_,rfl,rfl,⟨wkShareU (L:=v18.1) eInt eInt sInt,wkShareU (L:=v18.2) eInt eInt sInt,trivial⟩⟩)) (ocons (inr y19) (ocons (ld1 (eNum true) y19 0 rfl) (ocons (Tspec_l1Num (Y:=Y) n v19.Neg v18.1 _ y20) (ocons (Tspec_Small (Y:=Y) n v20 _ y21) (ocons (Enc.share eInt eInt sInt v20.D) onil)))))))))))))))) h (by kernel_rfl) (fun h=>?_) (fun h=>?_)
  ·replace h:=sj h;subst h
   exact x_end 12 [] [] onil onil 
  ·obtain⟨v22,y22,h⟩:=bm h
   exact x_to 5 [(1,.call [] [] (bl v22) [])] (ocons (Tspec_l1In (Y:=Y) v21.1 (-500) 500 _ y22) onil) (Tspec_Primitive_3 n v21.1 (!v22) zv zw zx zai zaj zak l37 (l78++[t16]) r h) 
def Dspec_Primitive_1(n:Nat)(t16:Int)(t73:Bool)(zv zw zx zai:Int)(zaj:Bool)(zak:List Int)(l37:List Num)(l40:List Int):Option (Pl×Int) :=
 frk t73 (some ((Pl.mk 0 0 0 0),2)) (chk (apB 8 (l40.length+1)) ((lget l37 1).bind fun v10=>(Dspec_l1DivMag n v10.D zak).bind fun v11=>(lget l37 1).bind fun v12=>(Dspec_l1Num n v12.Neg v11.1).bind fun v13=>(Dspec_Small n v13).bind fun v14=>frk (!v14.2) (some ((Pl.mk 0 0 0 0),2)) ((Dspec_l1In v14.1 (-500) 500).bind fun v15=>Dspec_Primitive_2 n v14.1 (!v15) zv zw zx zai zaj zak l37 (l40++[t16]))))
theorem Tspec_Primitive_1{Y}(n:Nat)(t16:Int)(t73:Bool)(zv zw zx zai:Int)(zaj:Bool)(zak:List Int)(l37:List Num)(l40:List Int)(r:(Pl×Int))(h:Dspec_Primitive_1 n t16 t73 zv zw zx zai zaj zak l37 l40=some r):Wk Tryz.prog H Y 202 [.code (cp [1,1,1,1,1,0,1,0,0,1,0,0,1,1,0,1] (bodyOf Tryz.f202)),.code (cp [1,1,1,1,1,0,1,0,0,1,0,0,1,1,1] (bodyOf Tryz.f202)),.blk 1,.code (cp [1,1,1,1,1,0,1,0,0,1,1] (bodyOf Tryz.f202)),.lp (cp [1,1,1,1,1,0,1,0] (bodyOf Tryz.f202)),.blk 0,.code (cp [1,1,1,1,1,1] (bodyOf Tryz.f202))] (FinX Tryz.prog Tryz.f202 [] (.tup [.agg [i64 r.1.A,i64 r.1.B,i64 r.1.C,i64 r.1.D],i64 r.2]) []) ⟨[(8,.ptr 8 0),(10,.msl 37 l37.length),(11,.ptr 11 0),(12,.msl 40 l40.length),(13,i64 0),(16,i64 t16),(73,bl t73)],[(8,⟨true,0,[i64 zv,i64 zw,i64 zx,i64 zai]⟩),(11,⟨true,0,[bl zaj,.sl true 1 zak.length ((eInt).f zak)]⟩),(37,⟨true,2,(eNum true).f l37⟩),(40,⟨true,1,(eInt).f l40⟩)]⟩:=by
 unfold Dspec_Primitive_1 at h
 refine x_frk 0 [] onil h (by kernel_rfl) (fun h=>?_) (fun h=>?_)
 ·replace h:=sj h;subst h
  exact x_end 6 [] [] onil onil 
 ·obtain⟨c9,h⟩:=chk_some h
  obtain⟨v10,y10,h⟩:=bm h
  obtain⟨v11,y11,h⟩:=bm h
  obtain⟨v12,y12,h⟩:=bm h
  obtain⟨v13,y13,h⟩:=bm h
  obtain⟨v14,y14,h⟩:=bm h
  refine x_frk 65 [(3,.app false (List.length (l40++[t16])) ((eInt).f (l40++[t16]))),(8,.unit),(1,.val (.sl true 1 v10.D.length ((eInt).f v10.D))),(0,.fix 50 (.sl false 1 v10.D.length ((eInt).f v10.D))),(1,.rows [(eInt).f zak]),(0,.call [] [] (.tup [.sl false 1 v11.1.length ((eInt).f v11.1),.sl false 1 v11.2.length ((eInt).f v11.2)]) []),(7,.unit),(1,.val (bl v12.Neg)),(1,.call [] [] (.agg [bl v13.Neg,.sl true 1 v13.D.length ((eInt).f v13.D)]) []),(0,.call [] [(eInt).f v13.D] (.tup [i64 v14.1,bl v14.2]) [])] (ocons (len_row' (L:=l40) eInt) (ocons (app_one (L:=l40) (M:=[t16]) eInt c9) (ocons (app_new (L:=l40) (M:=[t16]) eInt) (ocons (app_m (L:=l40) (M:=[t16]) eInt rfl) (ocons (len_row' (L:=[t16]) eInt) (ocons (Enc.noOwn eInt (fun _=>rfl) [t16]) (ocons (inr y10) (ocons (ld1 (eNum true) y10 1 rfl) (ocons (congrArg (AV.sl false 1 v10.D.length) (Enc.share eInt eInt sInt v10.D)) (ocons (Enc.share eInt eInt sInt zak) (ocons (Big.wkr (Tspec_l1DivMag (Y:=Y) n v10.D zak _ y11) (show WkV (.tup [.sl true 1 v11.1.length ((eInt).f v11.1),.sl true 1 v11.2.length ((eInt).f v11.2)]) (.tup [.sl false 1 v11.1.length ((eInt).f v11.1),.sl false 1 v11.2.length ((eInt).f v11.2)]) from .inr ⟨_,_,rfl,rfl,⟨wkShareU (L:=v11.1) eInt eInt sInt,wkShareU (L:=v11.2) eInt eInt sInt,trivial⟩⟩)) (ocons (inr y12) (ocons (ld1 (eNum true) y12 0 rfl) (ocons (Tspec_l1Num (Y:=Y) n v12.Neg v11.1 _ y13) (ocons (Tspec_Small (Y:=Y) n v13 _ y14) (ocons (Enc.share eInt eInt sInt v13.D) onil)))))))))))))))) h (by kernel_rfl) (fun h=>?_) (fun h=>?_)
  ·replace h:=sj h;subst h
   exact x_end 12 [] [] onil onil 
  ·obtain⟨v15,y15,h⟩:=bm h
   exact x_to 5 [(1,.call [] [] (bl v15) [])] (ocons (Tspec_l1In (Y:=Y) v14.1 (-500) 500 _ y15) onil) (Tspec_Primitive_2 n v14.1 (!v15) zv zw zx zai zaj zak l37 (l40++[t16]) r h) 
def Dspec_Primitive_0(n:Nat)(t0 t1 t2 t3:Int)(t27:Bool)(zv zw zx zai:Int):Option (Pl×Int) :=
 frk t27 (some ((Pl.mk 0 0 0 0),1)) ((Dspec_Of n t0).bind fun v0=>(Dspec_Of n t1).bind fun v1=>(Dspec_Of n t2).bind fun v2=>(Dspec_Of n t3).bind fun v3=>(Dspec_l3NumGcd n [v0,v1,v2,v3]).bind fun v4=>(Dspec_l1DivMag n v0.D v4.D).bind fun v5=>(Dspec_l1Num n v0.Neg v5.1).bind fun v6=>(Dspec_Small n v6).bind fun v7=>frk (!v7.2) (some ((Pl.mk 0 0 0 0),2)) ((Dspec_l1In v7.1 (-500) 500).bind fun v8=>Dspec_Primitive_1 n v7.1 (!v8) zv zw zx zai v4.Neg v4.D [v0,v1,v2,v3] []))
theorem Tspec_Primitive_0{Y}(n:Nat)(t0 t1 t2 t3:Int)(t27:Bool)(zv zw zx zai:Int)(r:(Pl×Int))(h:Dspec_Primitive_0 n t0 t1 t2 t3 t27 zv zw zx zai=some r):Wk Tryz.prog H Y 202 [.code (cp [1,0,1] (bodyOf Tryz.f202)),.code (cp [1,1] (bodyOf Tryz.f202))] (FinX Tryz.prog Tryz.f202 [] (.tup [.agg [i64 r.1.A,i64 r.1.B,i64 r.1.C,i64 r.1.D],i64 r.2]) []) ⟨[(0,i64 t0),(1,i64 t1),(2,i64 t2),(3,i64 t3),(8,.ptr 8 0),(27,bl t27)],[(8,⟨true,0,[i64 zv,i64 zw,i64 zx,i64 zai]⟩)]⟩:=by
 unfold Dspec_Primitive_0 at h
 refine x_frk 0 [] onil h (by kernel_rfl) (fun h=>?_) (fun h=>?_)
 ·replace h:=sj h;subst h
  exact x_end 6 [] [] onil onil 
 ·obtain⟨v0,y0,h⟩:=bm h
  obtain⟨v1,y1,h⟩:=bm h
  obtain⟨v2,y2,h⟩:=bm h
  obtain⟨v3,y3,h⟩:=bm h
  obtain⟨v4,y4,h⟩:=bm h
  obtain⟨v5,y5,h⟩:=bm h
  obtain⟨v6,y6,h⟩:=bm h
  obtain⟨v7,y7,h⟩:=bm h
  refine x_frk 81 [(1,.call [] [] (.agg [bl v0.Neg,.sl true 1 v0.D.length ((eInt).f v0.D)]) []),(1,.call [] [] (.agg [bl v1.Neg,.sl true 1 v1.D.length ((eInt).f v1.D)]) []),(1,.call [] [] (.agg [bl v2.Neg,.sl true 1 v2.D.length ((eInt).f v2.D)]) []),(1,.call [] [] (.agg [bl v3.Neg,.sl true 1 v3.D.length ((eInt).f v3.D)]) []),(3,.call [] [(eNum false).f [v0,v1,v2,v3]] (.agg [bl v4.Neg,.sl true 1 v4.D.length ((eInt).f v4.D)]) []),(11,.rows [(eInt).f v0.D]),(1,.rows [(eInt).f v4.D]),(0,.call [] [] (.tup [.sl false 1 v5.1.length ((eInt).f v5.1),.sl false 1 v5.2.length ((eInt).f v5.2)]) []),(11,.call [] [] (.agg [bl v6.Neg,.sl true 1 v6.D.length ((eInt).f v6.D)]) []),(0,.call [] [(eInt).f v6.D] (.tup [i64 v7.1,bl v7.2]) [])] (ocons (Tspec_Of (Y:=Y) n t0 _ y0) (ocons (Tspec_Of (Y:=Y) n t1 _ y1) (ocons (Tspec_Of (Y:=Y) n t2 _ y2) (ocons (Tspec_Of (Y:=Y) n t3 _ y3) (ocons (Tspec_l3NumGcd (Y:=Y) n [v0,v1,v2,v3] _ y4) (ocons (len_row (L:=[v0,v1,v2,v3]) (eNum true)) (ocons (Enc.share (eNum true) (eNum false) (sNum true) [v0,v1,v2,v3]) (ocons (show hasSh (.agg [bl v4.Neg,.sl true 1 v4.D.length ((eInt).f v4.D)])=false by simp[hasSh,hasShL,nSh,nShI,nShB,nShP,nShT,nShN,nShPs]) (ocons (Enc.share eInt eInt sInt v0.D) (ocons (Enc.share eInt eInt sInt v4.D) (ocons (Big.wkr (Tspec_l1DivMag (Y:=Y) n v0.D v4.D _ y5) (show WkV (.tup [.sl true 1 v5.1.length ((eInt).f v5.1),.sl true 1 v5.2.length ((eInt).f v5.2)]) (.tup [.sl false 1 v5.1.length ((eInt).f v5.1),.sl false 1 v5.2.length ((eInt).f v5.2)]) from .inr ⟨_,_,rfl,rfl,⟨wkShareU (L:=v5.1) eInt eInt sInt,wkShareU (L:=v5.2) eInt eInt sInt,trivial⟩⟩)) (ocons (Tspec_l1Num (Y:=Y) n v0.Neg v5.1 _ y6) (ocons (Tspec_Small (Y:=Y) n v6 _ y7) (ocons (Enc.share eInt eInt sInt v6.D) onil)))))))))))))) h (by kernel_rfl) (fun h=>?_) (fun h=>?_)
  ·replace h:=sj h;subst h
   exact x_end 12 [] [] onil onil 
  ·obtain⟨v8,y8,h⟩:=bm h
   exact x_to 5 [(1,.call [] [] (bl v8) [])] (ocons (Tspec_l1In (Y:=Y) v7.1 (-500) 500 _ y8) onil) (Tspec_Primitive_1 n v7.1 (!v8) zv zw zx zai v4.Neg v4.D [v0,v1,v2,v3] [] r h) 
def Dspec_Primitive_5(n:Nat)(t0 t1 t2 t3 zv zw zx zai:Int):Option (Pl×Int) :=
 (Dspec_Of n t0).bind fun v35=>(Dspec_Of n t1).bind fun v36=>(Dspec_Of n t2).bind fun v37=>(Dspec_Of n t3).bind fun v38=>(Dspec_l3NumGcd n [v35,v36,v37,v38]).bind fun v39=>(Dspec_l1DivMag n v35.D v39.D).bind fun v40=>(Dspec_l1Num n v35.Neg v40.1).bind fun v41=>(Dspec_Small n v41).bind fun v42=>frk (!v42.2) (some ((Pl.mk 0 0 0 0),2)) ((Dspec_l1In v42.1 (-500) 500).bind fun v43=>Dspec_Primitive_1 n v42.1 (!v43) zv zw zx zai v39.Neg v39.D [v35,v36,v37,v38] [])
theorem Tspec_Primitive_5{Y}(n:Nat)(t0 t1 t2 t3 zv zw zx zai:Int)(r:(Pl×Int))(h:Dspec_Primitive_5 n t0 t1 t2 t3 zv zw zx zai=some r):Wk Tryz.prog H Y 202 [.code (cp [1,1,0] (bodyOf Tryz.f202)),.code (cp [1,1,1] (bodyOf Tryz.f202))] (FinX Tryz.prog Tryz.f202 [] (.tup [.agg [i64 r.1.A,i64 r.1.B,i64 r.1.C,i64 r.1.D],i64 r.2]) []) ⟨[(0,i64 t0),(1,i64 t1),(2,i64 t2),(3,i64 t3),(8,.ptr 8 0)],[(8,⟨true,0,[i64 zv,i64 zw,i64 zx,i64 zai]⟩)]⟩:=by
 unfold Dspec_Primitive_5 at h
 obtain⟨v35,y35,h⟩:=bm h
 obtain⟨v36,y36,h⟩:=bm h
 obtain⟨v37,y37,h⟩:=bm h
 obtain⟨v38,y38,h⟩:=bm h
 obtain⟨v39,y39,h⟩:=bm h
 obtain⟨v40,y40,h⟩:=bm h
 obtain⟨v41,y41,h⟩:=bm h
 obtain⟨v42,y42,h⟩:=bm h
 refine x_frk 79 [(1,.call [] [] (.agg [bl v35.Neg,.sl true 1 v35.D.length ((eInt).f v35.D)]) []),(1,.call [] [] (.agg [bl v36.Neg,.sl true 1 v36.D.length ((eInt).f v36.D)]) []),(1,.call [] [] (.agg [bl v37.Neg,.sl true 1 v37.D.length ((eInt).f v37.D)]) []),(1,.call [] [] (.agg [bl v38.Neg,.sl true 1 v38.D.length ((eInt).f v38.D)]) []),(3,.call [] [(eNum false).f [v35,v36,v37,v38]] (.agg [bl v39.Neg,.sl true 1 v39.D.length ((eInt).f v39.D)]) []),(11,.rows [(eInt).f v35.D]),(1,.rows [(eInt).f v39.D]),(0,.call [] [] (.tup [.sl false 1 v40.1.length ((eInt).f v40.1),.sl false 1 v40.2.length ((eInt).f v40.2)]) []),(11,.call [] [] (.agg [bl v41.Neg,.sl true 1 v41.D.length ((eInt).f v41.D)]) []),(0,.call [] [(eInt).f v41.D] (.tup [i64 v42.1,bl v42.2]) [])] (ocons (Tspec_Of (Y:=Y) n t0 _ y35) (ocons (Tspec_Of (Y:=Y) n t1 _ y36) (ocons (Tspec_Of (Y:=Y) n t2 _ y37) (ocons (Tspec_Of (Y:=Y) n t3 _ y38) (ocons (Tspec_l3NumGcd (Y:=Y) n [v35,v36,v37,v38] _ y39) (ocons (len_row (L:=[v35,v36,v37,v38]) (eNum true)) (ocons (Enc.share (eNum true) (eNum false) (sNum true) [v35,v36,v37,v38]) (ocons (show hasSh (.agg [bl v39.Neg,.sl true 1 v39.D.length ((eInt).f v39.D)])=false by simp[hasSh,hasShL,nSh,nShI,nShB,nShP,nShT,nShN,nShPs]) (ocons (Enc.share eInt eInt sInt v35.D) (ocons (Enc.share eInt eInt sInt v39.D) (ocons (Big.wkr (Tspec_l1DivMag (Y:=Y) n v35.D v39.D _ y40) (show WkV (.tup [.sl true 1 v40.1.length ((eInt).f v40.1),.sl true 1 v40.2.length ((eInt).f v40.2)]) (.tup [.sl false 1 v40.1.length ((eInt).f v40.1),.sl false 1 v40.2.length ((eInt).f v40.2)]) from .inr ⟨_,_,rfl,rfl,⟨wkShareU (L:=v40.1) eInt eInt sInt,wkShareU (L:=v40.2) eInt eInt sInt,trivial⟩⟩)) (ocons (Tspec_l1Num (Y:=Y) n v35.Neg v40.1 _ y41) (ocons (Tspec_Small (Y:=Y) n v41 _ y42) (ocons (Enc.share eInt eInt sInt v41.D) onil)))))))))))))) h (by kernel_rfl) (fun h=>?_) (fun h=>?_)
 ·replace h:=sj h;subst h
  exact x_end 12 [] [] onil onil 
 ·obtain⟨v43,y43,h⟩:=bm h
  exact x_to 5 [(1,.call [] [] (bl v43) [])] (ocons (Tspec_l1In (Y:=Y) v42.1 (-500) 500 _ y43) onil) (Tspec_Primitive_1 n v42.1 (!v43) zv zw zx zai v39.Neg v39.D [v35,v36,v37,v38] [] r h) 
def Dspec_Primitive(n:Nat)(a0 a1 a2 a3:Int):Option (Pl×Int) :=
 frk (a0==0) (frk (a1==0) (Dspec_Primitive_0 n a0 a1 a2 a3 (a2==0) 0 0 0 0) (Dspec_Primitive_5 n a0 a1 a2 a3 0 0 0 0)) (Dspec_Primitive_5 n a0 a1 a2 a3 0 0 0 0)
theorem Tspec_Primitive{Y}(n:Nat)(a0 a1 a2 a3:Int)(r:(Pl×Int))(h:Dspec_Primitive n a0 a1 a2 a3=some r):Big Tryz.prog H Y (.call 202 [i64 a0,i64 a1,i64 a2,i64 a3] (lk []) (.tup [.agg [i64 r.1.A,i64 r.1.B,i64 r.1.C,i64 r.1.D],i64 r.2]) (lk [])):=by
 unfold Dspec_Primitive at h
 refine x_call (fn:=Tryz.f202) (c:=bodyOf Tryz.f202) (bs0:=[]) Tryz.func202 (by kernel_rfl) (by kernel_rfl) ?_
 refine x_frk 11 [] onil h (by kernel_rfl) (fun h=>?_) (fun h=>?_)
 ·refine x_frk 4 [] onil h (by kernel_rfl) (fun h=>?_) (fun h=>?_)
  ·exact x_to 4 [] onil (Tspec_Primitive_0 n a0 a1 a2 a3 (a2==0) 0 0 0 0 r h) 
  ·exact x_to 7 [] onil (Tspec_Primitive_5 n a0 a1 a2 a3 0 0 0 0 r h) 
 ·exact x_to 11 [] onil (Tspec_Primitive_5 n a0 a1 a2 a3 0 0 0 0 r h) 
def Dspec_Shifted_0(n:Nat)(t13:Bool)(za zb zc zd zg zh zi _zk _zl _zm _zn:Int):Option (Pl×Int) :=
 frk t13 (some ((Pl.mk 0 0 0 0),1)) ((Dspec_Primitive n za zb zc (w64 (zd-(w64 ((w64 ((w64 (za*zg))+(w64 (zb*zh))))+(w64 (zc*zi))))))).bind fun v2=>some v2)
theorem Tspec_Shifted_0{Y}(n:Nat)(t13:Bool)(za zb zc zd zg zh zi zk zl zm zn:Int)(r:(Pl×Int))(h:Dspec_Shifted_0 n t13 za zb zc zd zg zh zi zk zl zm zn=some r):Wk Tryz.prog H Y 188 [.code (cp [1,0,1] (bodyOf Tryz.f188)),.code (cp [1,1] (bodyOf Tryz.f188))] (FinX Tryz.prog Tryz.f188 [] (.tup [.agg [i64 r.1.A,i64 r.1.B,i64 r.1.C,i64 r.1.D],i64 r.2]) []) ⟨[(2,.ptr 2 0),(3,.ptr 3 0),(4,.ptr 4 0),(13,bl t13)],[(2,⟨true,0,[i64 za,i64 zb,i64 zc,i64 zd]⟩),(3,⟨true,0,[i64 zg,i64 zh,i64 zi]⟩),(4,⟨true,0,[i64 zk,i64 zl,i64 zm,i64 zn]⟩)]⟩:=by
 unfold Dspec_Shifted_0 at h
 refine x_frk 0 [] onil h (by kernel_rfl) (fun h=>?_) (fun h=>?_)
 ·replace h:=sj h;subst h
  exact x_end 6 [] [] onil onil 
 ·obtain⟨v2,y2,h⟩:=bm h
  replace h:=sj h;subst h
  exact x_end 35 [(26,.call [] [] (.tup [.agg [i64 v2.1.A,i64 v2.1.B,i64 v2.1.C,i64 v2.1.D],i64 v2.2]) [])] [] (ocons (Tspec_Primitive (Y:=Y) n za zb zc (w64 (zd-(w64 ((w64 ((w64 (za*zg))+(w64 (zb*zh))))+(w64 (zc*zi)))))) _ y2) onil) onil 
def Dspec_Shifted(n:Nat)(a0:Pl)(a1:Pt):Option (Pl×Int) :=
 (Dspec_PlaneOk n a0).bind fun v0=>frk (!v0) (some ((Pl.mk 0 0 0 0),1)) ((Dspec_PtOk a1).bind fun v1=>Dspec_Shifted_0 n (!v1) a0.A a0.B a0.C a0.D a1.X a1.Y a1.Z 0 0 0 0)
theorem Tspec_Shifted{Y}(n:Nat)(a0:Pl)(a1:Pt)(r:(Pl×Int))(h:Dspec_Shifted n a0 a1=some r):Big Tryz.prog H Y (.call 188 [.agg [i64 a0.A,i64 a0.B,i64 a0.C,i64 a0.D],.agg [i64 a1.X,i64 a1.Y,i64 a1.Z]] (lk []) (.tup [.agg [i64 r.1.A,i64 r.1.B,i64 r.1.C,i64 r.1.D],i64 r.2]) (lk [])):=by
 unfold Dspec_Shifted at h
 refine x_call (fn:=Tryz.f188) (c:=bodyOf Tryz.f188) (bs0:=[]) Tryz.func188 (by kernel_rfl) (by kernel_rfl) ?_
 obtain⟨v0,y0,h⟩:=bm h
 refine x_frk 14 [(5,.call [] [] (bl v0) [])] (ocons (Tspec_PlaneOk (Y:=Y) n a0 _ y0) onil) h (by kernel_rfl) (fun h=>?_) (fun h=>?_)
 ·replace h:=sj h;subst h
  exact x_end 12 [] [] onil onil 
 ·obtain⟨v1,y1,h⟩:=bm h
  exact x_to 5 [(1,.call [] [] (bl v1) [])] (ocons (Tspec_PtOk (Y:=Y) a1 _ y1) onil) (Tspec_Shifted_0 n (!v1) a0.A a0.B a0.C a0.D a1.X a1.Y a1.Z 0 0 0 0 r h) 
end Evl.T
