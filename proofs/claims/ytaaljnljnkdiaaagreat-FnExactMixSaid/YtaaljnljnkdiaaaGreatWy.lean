
/- Walks. No condition. -/
import Derived.Test.YtaaljnljnkdiaaaGreatJm
import Derived.Test.YtaaljnljnkdiaaaGreatChecked
namespace Evl.T
open Go Evl Go.Proofs
theorem sj{α:Type}{a b:α}(h:some a=some b):a=b:=Option.some.inj h
theorem bm{α β:Type}{x:Option α}{f:α→Option β}{r:β}(h:x.bind f=some r):∃v,x=some v∧f v=some r:=bind_some h
def eS(x:Sol):AV:=.agg [bl x.inn,i64 x.pl.A,i64 x.pl.B,i64 x.pl.C,i64 x.pl.D,.sl true 6 x.kids.length ((eSol true).f x.kids)]
def eF(x:Sol):AV:=.agg [bl x.inn,i64 x.pl.A,i64 x.pl.B,i64 x.pl.C,i64 x.pl.D,.sl false 6 x.kids.length ((eSol false).f x.kids)]
set_option maxRecDepth 100000
def HF:FuncId→Bool:=fun f=>[3,14,67,129,186].contains f
def HB:Hints:={ mv:=hasP [(11,12),(53,18),(54,42),(55,24),(56,23),(56,26),(56,27),(57,15),(61,17),(62,18),(63,23),(64,22),(64,25),(64,26),(117,26),(119,31),(122,8),(122,9),(124,23),(125,49),(125,50),(128,8),(128,9),(182,89),(183,24),(183,25),(184,85),(184,86),(185,45),(185,46)],own:=hasP [(88,1),(122,1),(122,2),(128,1),(128,2),(160,1),(169,1),(183,1),(183,2),(185,2),(185,3)],mt:=hasP [(88,0),(89,0),(90,0),(92,0),(93,0),(102,0),(113,0),(119,0),(125,0),(151,0),(155,0),(160,0),(182,0),(184,0),(185,0),(201,0),(217,0)],eqt:=fun t=>[32,146].contains t }
def H:Hints:=withMarks HB Tryz.prog HF fun _ _=>True
def HL (l:List (Value×AV)):Hints:=HLg HB Tryz.prog HF l
def YL (l:List (Value×AV)):FuncId→List AV→(Nat→Option Box)→AV→(Nat→Option Box)→Prop:=YLg H Tryz.prog l
theorem gv{l:List (Value×AV)}{f:FuncId}{args args':List AV}{bx bx':Nat→Option Box}{r:AV}(h:Big Tryz.prog H (fun _ _ _ _ _=>False) (.call f args' bx r bx'))(ho:OldAs l args args'):Big Tryz.prog (HL l) (YL l) (.call f args bx r bx'):=gvL h ho
def cT30 (a:((Sol×Sol×Sol×Sol×Sol×Sol×Sol×Sol)×(Bool×Bool×Bool×Bool×Bool×Bool×Bool×Bool))):List AV:=[bl a.1.1.inn,i64 a.1.1.pl.A,i64 a.1.1.pl.B,i64 a.1.1.pl.C,i64 a.1.1.pl.D,.sl false 6 a.1.1.kids.length ((eSol false).f a.1.1.kids),bl a.1.2.1.inn,i64 a.1.2.1.pl.A,i64 a.1.2.1.pl.B,i64 a.1.2.1.pl.C,i64 a.1.2.1.pl.D,.sl false 6 a.1.2.1.kids.length ((eSol false).f a.1.2.1.kids),bl a.1.2.2.1.inn,i64 a.1.2.2.1.pl.A,i64 a.1.2.2.1.pl.B,i64 a.1.2.2.1.pl.C,i64 a.1.2.2.1.pl.D,.sl false 6 a.1.2.2.1.kids.length ((eSol false).f a.1.2.2.1.kids),bl a.1.2.2.2.1.inn,i64 a.1.2.2.2.1.pl.A,i64 a.1.2.2.2.1.pl.B,i64 a.1.2.2.2.1.pl.C,i64 a.1.2.2.2.1.pl.D,.sl false 6 a.1.2.2.2.1.kids.length ((eSol false).f a.1.2.2.2.1.kids),bl a.1.2.2.2.2.1.inn,i64 a.1.2.2.2.2.1.pl.A,i64 a.1.2.2.2.2.1.pl.B,i64 a.1.2.2.2.2.1.pl.C,i64 a.1.2.2.2.2.1.pl.D,.sl false 6 a.1.2.2.2.2.1.kids.length ((eSol false).f a.1.2.2.2.2.1.kids),bl a.1.2.2.2.2.2.1.inn,i64 a.1.2.2.2.2.2.1.pl.A,i64 a.1.2.2.2.2.2.1.pl.B,i64 a.1.2.2.2.2.2.1.pl.C,i64 a.1.2.2.2.2.2.1.pl.D,.sl false 6 a.1.2.2.2.2.2.1.kids.length ((eSol false).f a.1.2.2.2.2.2.1.kids),bl a.1.2.2.2.2.2.2.1.inn,i64 a.1.2.2.2.2.2.2.1.pl.A,i64 a.1.2.2.2.2.2.2.1.pl.B,i64 a.1.2.2.2.2.2.2.1.pl.C,i64 a.1.2.2.2.2.2.2.1.pl.D,.sl false 6 a.1.2.2.2.2.2.2.1.kids.length ((eSol false).f a.1.2.2.2.2.2.2.1.kids),bl a.1.2.2.2.2.2.2.2.inn,i64 a.1.2.2.2.2.2.2.2.pl.A,i64 a.1.2.2.2.2.2.2.2.pl.B,i64 a.1.2.2.2.2.2.2.2.pl.C,i64 a.1.2.2.2.2.2.2.2.pl.D,.sl false 6 a.1.2.2.2.2.2.2.2.kids.length ((eSol false).f a.1.2.2.2.2.2.2.2.kids),bl a.2.1,bl a.2.2.1,bl a.2.2.2.1,bl a.2.2.2.2.1,bl a.2.2.2.2.2.1,bl a.2.2.2.2.2.2.1,bl a.2.2.2.2.2.2.2.1,bl a.2.2.2.2.2.2.2.2]
def cT27 (a:(Sol×Sol×Sol×Sol×Sol×Sol×Sol×Sol)):List AV:=[bl a.1.inn,i64 a.1.pl.A,i64 a.1.pl.B,i64 a.1.pl.C,i64 a.1.pl.D,.sl false 6 a.1.kids.length ((eSol false).f a.1.kids),bl a.2.1.inn,i64 a.2.1.pl.A,i64 a.2.1.pl.B,i64 a.2.1.pl.C,i64 a.2.1.pl.D,.sl false 6 a.2.1.kids.length ((eSol false).f a.2.1.kids),bl a.2.2.1.inn,i64 a.2.2.1.pl.A,i64 a.2.2.1.pl.B,i64 a.2.2.1.pl.C,i64 a.2.2.1.pl.D,.sl false 6 a.2.2.1.kids.length ((eSol false).f a.2.2.1.kids),bl a.2.2.2.1.inn,i64 a.2.2.2.1.pl.A,i64 a.2.2.2.1.pl.B,i64 a.2.2.2.1.pl.C,i64 a.2.2.2.1.pl.D,.sl false 6 a.2.2.2.1.kids.length ((eSol false).f a.2.2.2.1.kids),bl a.2.2.2.2.1.inn,i64 a.2.2.2.2.1.pl.A,i64 a.2.2.2.2.1.pl.B,i64 a.2.2.2.2.1.pl.C,i64 a.2.2.2.2.1.pl.D,.sl false 6 a.2.2.2.2.1.kids.length ((eSol false).f a.2.2.2.2.1.kids),bl a.2.2.2.2.2.1.inn,i64 a.2.2.2.2.2.1.pl.A,i64 a.2.2.2.2.2.1.pl.B,i64 a.2.2.2.2.2.1.pl.C,i64 a.2.2.2.2.2.1.pl.D,.sl false 6 a.2.2.2.2.2.1.kids.length ((eSol false).f a.2.2.2.2.2.1.kids),bl a.2.2.2.2.2.2.1.inn,i64 a.2.2.2.2.2.2.1.pl.A,i64 a.2.2.2.2.2.2.1.pl.B,i64 a.2.2.2.2.2.2.1.pl.C,i64 a.2.2.2.2.2.2.1.pl.D,.sl false 6 a.2.2.2.2.2.2.1.kids.length ((eSol false).f a.2.2.2.2.2.2.1.kids),bl a.2.2.2.2.2.2.2.inn,i64 a.2.2.2.2.2.2.2.pl.A,i64 a.2.2.2.2.2.2.2.pl.B,i64 a.2.2.2.2.2.2.2.pl.C,i64 a.2.2.2.2.2.2.2.pl.D,.sl false 6 a.2.2.2.2.2.2.2.kids.length ((eSol false).f a.2.2.2.2.2.2.2.kids)]
def cT36o(a:(Sol×Sol×Sol×Sol×Sol×Sol×Sol×Sol)):List AV:=[bl a.1.inn,i64 a.1.pl.A,i64 a.1.pl.B,i64 a.1.pl.C,i64 a.1.pl.D,.sl true 6 a.1.kids.length ((eSol true).f a.1.kids),bl a.2.1.inn,i64 a.2.1.pl.A,i64 a.2.1.pl.B,i64 a.2.1.pl.C,i64 a.2.1.pl.D,.sl true 6 a.2.1.kids.length ((eSol true).f a.2.1.kids),bl a.2.2.1.inn,i64 a.2.2.1.pl.A,i64 a.2.2.1.pl.B,i64 a.2.2.1.pl.C,i64 a.2.2.1.pl.D,.sl true 6 a.2.2.1.kids.length ((eSol true).f a.2.2.1.kids),bl a.2.2.2.1.inn,i64 a.2.2.2.1.pl.A,i64 a.2.2.2.1.pl.B,i64 a.2.2.2.1.pl.C,i64 a.2.2.2.1.pl.D,.sl true 6 a.2.2.2.1.kids.length ((eSol true).f a.2.2.2.1.kids),bl a.2.2.2.2.1.inn,i64 a.2.2.2.2.1.pl.A,i64 a.2.2.2.2.1.pl.B,i64 a.2.2.2.2.1.pl.C,i64 a.2.2.2.2.1.pl.D,.sl true 6 a.2.2.2.2.1.kids.length ((eSol true).f a.2.2.2.2.1.kids),bl a.2.2.2.2.2.1.inn,i64 a.2.2.2.2.2.1.pl.A,i64 a.2.2.2.2.2.1.pl.B,i64 a.2.2.2.2.2.1.pl.C,i64 a.2.2.2.2.2.1.pl.D,.sl true 6 a.2.2.2.2.2.1.kids.length ((eSol true).f a.2.2.2.2.2.1.kids),bl a.2.2.2.2.2.2.1.inn,i64 a.2.2.2.2.2.2.1.pl.A,i64 a.2.2.2.2.2.2.1.pl.B,i64 a.2.2.2.2.2.2.1.pl.C,i64 a.2.2.2.2.2.2.1.pl.D,.sl true 6 a.2.2.2.2.2.2.1.kids.length ((eSol true).f a.2.2.2.2.2.2.1.kids),bl a.2.2.2.2.2.2.2.inn,i64 a.2.2.2.2.2.2.2.pl.A,i64 a.2.2.2.2.2.2.2.pl.B,i64 a.2.2.2.2.2.2.2.pl.C,i64 a.2.2.2.2.2.2.2.pl.D,.sl true 6 a.2.2.2.2.2.2.2.kids.length ((eSol true).f a.2.2.2.2.2.2.2.kids)]
def cT38o(a:((Sol×Sol×Sol×Sol×Sol×Sol×Sol×Sol)×(Bool×Bool×Bool×Bool×Bool×Bool×Bool×Bool))):List AV:=[bl a.1.1.inn,i64 a.1.1.pl.A,i64 a.1.1.pl.B,i64 a.1.1.pl.C,i64 a.1.1.pl.D,.sl true 6 a.1.1.kids.length ((eSol true).f a.1.1.kids),bl a.1.2.1.inn,i64 a.1.2.1.pl.A,i64 a.1.2.1.pl.B,i64 a.1.2.1.pl.C,i64 a.1.2.1.pl.D,.sl true 6 a.1.2.1.kids.length ((eSol true).f a.1.2.1.kids),bl a.1.2.2.1.inn,i64 a.1.2.2.1.pl.A,i64 a.1.2.2.1.pl.B,i64 a.1.2.2.1.pl.C,i64 a.1.2.2.1.pl.D,.sl true 6 a.1.2.2.1.kids.length ((eSol true).f a.1.2.2.1.kids),bl a.1.2.2.2.1.inn,i64 a.1.2.2.2.1.pl.A,i64 a.1.2.2.2.1.pl.B,i64 a.1.2.2.2.1.pl.C,i64 a.1.2.2.2.1.pl.D,.sl true 6 a.1.2.2.2.1.kids.length ((eSol true).f a.1.2.2.2.1.kids),bl a.1.2.2.2.2.1.inn,i64 a.1.2.2.2.2.1.pl.A,i64 a.1.2.2.2.2.1.pl.B,i64 a.1.2.2.2.2.1.pl.C,i64 a.1.2.2.2.2.1.pl.D,.sl true 6 a.1.2.2.2.2.1.kids.length ((eSol true).f a.1.2.2.2.2.1.kids),bl a.1.2.2.2.2.2.1.inn,i64 a.1.2.2.2.2.2.1.pl.A,i64 a.1.2.2.2.2.2.1.pl.B,i64 a.1.2.2.2.2.2.1.pl.C,i64 a.1.2.2.2.2.2.1.pl.D,.sl true 6 a.1.2.2.2.2.2.1.kids.length ((eSol true).f a.1.2.2.2.2.2.1.kids),bl a.1.2.2.2.2.2.2.1.inn,i64 a.1.2.2.2.2.2.2.1.pl.A,i64 a.1.2.2.2.2.2.2.1.pl.B,i64 a.1.2.2.2.2.2.2.1.pl.C,i64 a.1.2.2.2.2.2.2.1.pl.D,.sl true 6 a.1.2.2.2.2.2.2.1.kids.length ((eSol true).f a.1.2.2.2.2.2.2.1.kids),bl a.1.2.2.2.2.2.2.2.inn,i64 a.1.2.2.2.2.2.2.2.pl.A,i64 a.1.2.2.2.2.2.2.2.pl.B,i64 a.1.2.2.2.2.2.2.2.pl.C,i64 a.1.2.2.2.2.2.2.2.pl.D,.sl true 6 a.1.2.2.2.2.2.2.2.kids.length ((eSol true).f a.1.2.2.2.2.2.2.2.kids),bl a.2.1,bl a.2.2.1,bl a.2.2.2.1,bl a.2.2.2.2.1,bl a.2.2.2.2.2.1,bl a.2.2.2.2.2.2.1,bl a.2.2.2.2.2.2.2.1,bl a.2.2.2.2.2.2.2.2]
def cT38 (a:((Sol×Sol×Sol×Sol×Sol×Sol×Sol×Sol)×(Bool×Bool×Bool×Bool×Bool×Bool×Bool×Bool))):List AV:=[bl a.1.1.inn,i64 a.1.1.pl.A,i64 a.1.1.pl.B,i64 a.1.1.pl.C,i64 a.1.1.pl.D,.sl false 6 a.1.1.kids.length ((eSol false).f a.1.1.kids),bl a.1.2.1.inn,i64 a.1.2.1.pl.A,i64 a.1.2.1.pl.B,i64 a.1.2.1.pl.C,i64 a.1.2.1.pl.D,.sl false 6 a.1.2.1.kids.length ((eSol false).f a.1.2.1.kids),bl a.1.2.2.1.inn,i64 a.1.2.2.1.pl.A,i64 a.1.2.2.1.pl.B,i64 a.1.2.2.1.pl.C,i64 a.1.2.2.1.pl.D,.sl false 6 a.1.2.2.1.kids.length ((eSol false).f a.1.2.2.1.kids),bl a.1.2.2.2.1.inn,i64 a.1.2.2.2.1.pl.A,i64 a.1.2.2.2.1.pl.B,i64 a.1.2.2.2.1.pl.C,i64 a.1.2.2.2.1.pl.D,.sl false 6 a.1.2.2.2.1.kids.length ((eSol false).f a.1.2.2.2.1.kids),bl a.1.2.2.2.2.1.inn,i64 a.1.2.2.2.2.1.pl.A,i64 a.1.2.2.2.2.1.pl.B,i64 a.1.2.2.2.2.1.pl.C,i64 a.1.2.2.2.2.1.pl.D,.sl false 6 a.1.2.2.2.2.1.kids.length ((eSol false).f a.1.2.2.2.2.1.kids),bl a.1.2.2.2.2.2.1.inn,i64 a.1.2.2.2.2.2.1.pl.A,i64 a.1.2.2.2.2.2.1.pl.B,i64 a.1.2.2.2.2.2.1.pl.C,i64 a.1.2.2.2.2.2.1.pl.D,.sl false 6 a.1.2.2.2.2.2.1.kids.length ((eSol false).f a.1.2.2.2.2.2.1.kids),bl a.1.2.2.2.2.2.2.1.inn,i64 a.1.2.2.2.2.2.2.1.pl.A,i64 a.1.2.2.2.2.2.2.1.pl.B,i64 a.1.2.2.2.2.2.2.1.pl.C,i64 a.1.2.2.2.2.2.2.1.pl.D,.sl false 6 a.1.2.2.2.2.2.2.1.kids.length ((eSol false).f a.1.2.2.2.2.2.2.1.kids),bl a.1.2.2.2.2.2.2.2.inn,i64 a.1.2.2.2.2.2.2.2.pl.A,i64 a.1.2.2.2.2.2.2.2.pl.B,i64 a.1.2.2.2.2.2.2.2.pl.C,i64 a.1.2.2.2.2.2.2.2.pl.D,.sl false 6 a.1.2.2.2.2.2.2.2.kids.length ((eSol false).f a.1.2.2.2.2.2.2.2.kids),bl a.2.1,bl a.2.2.1,bl a.2.2.2.1,bl a.2.2.2.2.1,bl a.2.2.2.2.2.1,bl a.2.2.2.2.2.2.1,bl a.2.2.2.2.2.2.2.1,bl a.2.2.2.2.2.2.2.2]
def cT36 (a:(Sol×Sol×Sol×Sol×Sol×Sol×Sol×Sol)):List AV:=[bl a.1.inn,i64 a.1.pl.A,i64 a.1.pl.B,i64 a.1.pl.C,i64 a.1.pl.D,.sl false 6 a.1.kids.length ((eSol false).f a.1.kids),bl a.2.1.inn,i64 a.2.1.pl.A,i64 a.2.1.pl.B,i64 a.2.1.pl.C,i64 a.2.1.pl.D,.sl false 6 a.2.1.kids.length ((eSol false).f a.2.1.kids),bl a.2.2.1.inn,i64 a.2.2.1.pl.A,i64 a.2.2.1.pl.B,i64 a.2.2.1.pl.C,i64 a.2.2.1.pl.D,.sl false 6 a.2.2.1.kids.length ((eSol false).f a.2.2.1.kids),bl a.2.2.2.1.inn,i64 a.2.2.2.1.pl.A,i64 a.2.2.2.1.pl.B,i64 a.2.2.2.1.pl.C,i64 a.2.2.2.1.pl.D,.sl false 6 a.2.2.2.1.kids.length ((eSol false).f a.2.2.2.1.kids),bl a.2.2.2.2.1.inn,i64 a.2.2.2.2.1.pl.A,i64 a.2.2.2.2.1.pl.B,i64 a.2.2.2.2.1.pl.C,i64 a.2.2.2.2.1.pl.D,.sl false 6 a.2.2.2.2.1.kids.length ((eSol false).f a.2.2.2.2.1.kids),bl a.2.2.2.2.2.1.inn,i64 a.2.2.2.2.2.1.pl.A,i64 a.2.2.2.2.2.1.pl.B,i64 a.2.2.2.2.2.1.pl.C,i64 a.2.2.2.2.2.1.pl.D,.sl false 6 a.2.2.2.2.2.1.kids.length ((eSol false).f a.2.2.2.2.2.1.kids),bl a.2.2.2.2.2.2.1.inn,i64 a.2.2.2.2.2.2.1.pl.A,i64 a.2.2.2.2.2.2.1.pl.B,i64 a.2.2.2.2.2.2.1.pl.C,i64 a.2.2.2.2.2.2.1.pl.D,.sl false 6 a.2.2.2.2.2.2.1.kids.length ((eSol false).f a.2.2.2.2.2.2.1.kids),bl a.2.2.2.2.2.2.2.inn,i64 a.2.2.2.2.2.2.2.pl.A,i64 a.2.2.2.2.2.2.2.pl.B,i64 a.2.2.2.2.2.2.2.pl.C,i64 a.2.2.2.2.2.2.2.pl.D,.sl false 6 a.2.2.2.2.2.2.2.kids.length ((eSol false).f a.2.2.2.2.2.2.2.kids)]
def Dlaws_szSolidS_in_0(_n:Nat)(self:(Sol×Int)→Option Int)(t0:List Sol)(rec0:(Int×Int)→Option Int)(a:(Int×Int)):Option Int :=
 match a with
 | (t1,t5)=>frk (decide (t5<(t0.length:Int))) ((lget t0 t5).bind fun v0=>(self (v0,t1)).bind fun v1=>frk (decide (v1<0)) (some (-1)) (rec0 (v1,w64 (t5+1)))) (some t1)
theorem Tlaws_szSolidS_in_0{Y}(n:Nat)(self:(Sol×Int)→Option Int)(hself:∀(a:(Sol×Int)) (r:Int),self a=some r→Big Tryz.prog H Y (.call 19 [eF a.1,i64 a.2] (lk []) (i64 r) (lk [])))(t0:List Sol):∀(m:Nat) (a:(Int×Int)) (r:Int),loopN (Dlaws_szSolidS_in_0 n self t0) m a=some r→Wk Tryz.prog H Y 73 [.code (cp [1,1,1,0,1,0] (bodyOf Tryz.f73)),.blk 0,.code (cp [1,1,1,1] (bodyOf Tryz.f73))] (FinX Tryz.prog Tryz.f73 [] (i64 r) []) ⟨[(0,.sl false 6 t0.length ((eSol false).f t0)),(1,i64 a.1),(5,i64 a.2)],[]⟩:=by
 refine loopN_ind (fun _rec0 hrec0 a r h=>?_)
 obtain⟨t1,t5⟩:=a
 unfold Dlaws_szSolidS_in_0 at h
 refine x_frk 9 [] onil h (by kernel_rfl) (fun h=>?_) (fun h=>?_)
 ·obtain⟨v0,y0,h⟩:=bm h
  obtain⟨v1,y1,h⟩:=bm h
  refine x_frk 18 [(2,.val (.cptr ((eSol false).c v0++(eSol false).f ((t0).drop (Int.toNat t5+1))))),(2,.call [] [] (i64 v1) [])] (ocons (ix (eSol false) y0) (ocons (hself (v0,t1) _ y1) onil)) h (by kernel_rfl) (fun h=>?_) (fun h=>?_)
  ·replace h:=sj h;subst h
   exact x_end 4 [] [] onil onil 
  ·exact x_to 8 [] onil (hrec0 (v1,w64 (t5+1)) r h) 
 ·replace h:=sj h;subst h
  exact x_end 6 [] [] onil onil 
def Dlaws_szSolidS_in(n:Nat)(self:(Sol×Int)→Option Int)(a0:(List Sol))(a1:Int):Option Int :=
 frk (decide ((w64 (a1-(a0.length:Int)))<0)) (some (-1)) (loopN (Dlaws_szSolidS_in_0 n self a0) n (w64 (a1-(a0.length:Int)),0))
theorem Tlaws_szSolidS_in{Y}(n:Nat)(self:(Sol×Int)→Option Int)(hself:∀(a:(Sol×Int)) (r:Int),self a=some r→Big Tryz.prog H Y (.call 19 [eF a.1,i64 a.2] (lk []) (i64 r) (lk [])))(a0:(List Sol))(a1 r:Int)(h:Dlaws_szSolidS_in n self a0 a1=some r):Big Tryz.prog H Y (.call 73 [.sl false 6 a0.length ((eSol false).f a0),i64 a1] (lk []) (i64 r) (lk [])):=by
 unfold Dlaws_szSolidS_in at h
 refine x_call (fn:=Tryz.f73) (c:=bodyOf Tryz.f73) (bs0:=[]) Tryz.func73 (by kernel_rfl) (by kernel_rfl) ?_
 refine x_frk 18 [] onil h (by kernel_rfl) (fun h=>?_) (fun h=>?_)
 ·replace h:=sj h;subst h
  exact x_end 4 [] [] onil onil 
 ·exact x_to 7 [] onil (Tlaws_szSolidS_in_0 n self hself a0 n (w64 (a1-(a0.length:Int)),0) r h) 
def Dlaws_szSolid_b(n:Nat)(self:(Sol×Int)→Option Int)(a:(Sol×Int)):Option Int :=
 match a with
 | (a0,a1)=>(Dlaws_szSolidS_in n self a0.kids a1).bind fun v0=>frk (decide (v0<0)) (some (-1)) (some v0)
def Dlaws_szSolid(n:Nat)(a0:Sol)(a1:Int):Option Int:=loopN (Dlaws_szSolid_b n) n (a0,a1)
theorem Tlaws_szSolid_b{Y}(n:Nat):∀(m:Nat) (a:(Sol×Int)) (r:Int),loopN (Dlaws_szSolid_b n) m a=some r→∀(_:Unit),Big Tryz.prog H Y (.call 19 [eF a.1,i64 a.2] (lk []) (i64 r) (lk [])):=by
 refine loopN_ind (fun self hs a r h=>?_)
 have hself:∀(a:(Sol×Int)) (r:Int),self a=some r→Big Tryz.prog H Y (.call 19 [eF a.1,i64 a.2] (lk []) (i64 r) (lk [])):=fun a r h=>hs a r h ()
 intro _
 obtain⟨a0,a1⟩:=a
 unfold Dlaws_szSolid_b at h
 refine x_call (fn:=Tryz.f19) (c:=bodyOf Tryz.f19) (bs0:=[]) Tryz.func19 (by kernel_rfl) (by kernel_rfl) ?_
 obtain⟨v0,y0,h⟩:=bm h
 refine x_frk 19 [(5,.call [] [] (i64 v0) [])] (ocons (Tlaws_szSolidS_in (Y:=Y) n self hself a0.kids a1 _ y0) onil) h (by kernel_rfl) (fun h=>?_) (fun h=>?_)
 ·replace h:=sj h;subst h
  exact x_end 4 [] [] onil onil 
 ·replace h:=sj h;subst h
  exact x_end 6 [] [] onil onil 
theorem Tlaws_szSolid{Y}(n:Nat)(a0:Sol)(a1 r:Int)(h:Dlaws_szSolid n a0 a1=some r):Big Tryz.prog H Y (.call 19 [eF a0,i64 a1] (lk []) (i64 r) (lk [])):=Tlaws_szSolid_b n n (a0,a1) r h ()
def Dlaws_szSolidA8(n:Nat)(a0:(Sol×Sol×Sol×Sol×Sol×Sol×Sol×Sol))(a1:Int):Option Int :=
 (Dlaws_szSolid n a0.1 a1).bind fun v0=>frk (decide (v0<0)) (some (-1)) ((Dlaws_szSolid n a0.2.1 v0).bind fun v1=>frk (decide (v1<0)) (some (-1)) ((Dlaws_szSolid n a0.2.2.1 v1).bind fun v2=>frk (decide (v2<0)) (some (-1)) ((Dlaws_szSolid n a0.2.2.2.1 v2).bind fun v3=>frk (decide (v3<0)) (some (-1)) ((Dlaws_szSolid n a0.2.2.2.2.1 v3).bind fun v4=>frk (decide (v4<0)) (some (-1)) ((Dlaws_szSolid n a0.2.2.2.2.2.1 v4).bind fun v5=>frk (decide (v5<0)) (some (-1)) ((Dlaws_szSolid n a0.2.2.2.2.2.2.1 v5).bind fun v6=>frk (decide (v6<0)) (some (-1)) ((Dlaws_szSolid n a0.2.2.2.2.2.2.2 v6).bind fun v7=>frk (decide (v7<0)) (some (-1)) (some v7))))))))
theorem Tlaws_szSolidA8{Y}(n:Nat)(a0:(Sol×Sol×Sol×Sol×Sol×Sol×Sol×Sol))(a1 r:Int)(h:Dlaws_szSolidA8 n a0 a1=some r):Big Tryz.prog H Y (.call 49 [.agg (cT27 a0),i64 a1] (lk []) (i64 r) (lk [])):=by
 unfold Dlaws_szSolidA8 at h
 refine x_call (fn:=Tryz.f49) (c:=bodyOf Tryz.f49) (bs0:=[]) Tryz.func49 (by kernel_rfl) (by kernel_rfl) ?_
 obtain⟨v0,y0,h⟩:=bm h
 refine x_frk 36 [(9,.call [] [] (i64 v0) [])] (ocons (Tlaws_szSolid (Y:=Y) n a0.1 a1 _ y0) onil) h (by kernel_rfl) (fun h=>?_) (fun h=>?_)
 ·replace h:=sj h;subst h
  exact x_end 4 [] [] onil onil 
 ·obtain⟨v1,y1,h⟩:=bm h
  refine x_frk 33 [(9,.call [] [] (i64 v1) [])] (ocons (Tlaws_szSolid (Y:=Y) n a0.2.1 v0 _ y1) onil) h (by kernel_rfl) (fun h=>?_) (fun h=>?_)
  ·replace h:=sj h;subst h
   exact x_end 4 [] [] onil onil 
  ·obtain⟨v2,y2,h⟩:=bm h
   refine x_frk 33 [(9,.call [] [] (i64 v2) [])] (ocons (Tlaws_szSolid (Y:=Y) n a0.2.2.1 v1 _ y2) onil) h (by kernel_rfl) (fun h=>?_) (fun h=>?_)
   ·replace h:=sj h;subst h
    exact x_end 4 [] [] onil onil 
   ·obtain⟨v3,y3,h⟩:=bm h
    refine x_frk 33 [(9,.call [] [] (i64 v3) [])] (ocons (Tlaws_szSolid (Y:=Y) n a0.2.2.2.1 v2 _ y3) onil) h (by kernel_rfl) (fun h=>?_) (fun h=>?_)
    ·replace h:=sj h;subst h
     exact x_end 4 [] [] onil onil 
    ·obtain⟨v4,y4,h⟩:=bm h
     refine x_frk 33 [(9,.call [] [] (i64 v4) [])] (ocons (Tlaws_szSolid (Y:=Y) n a0.2.2.2.2.1 v3 _ y4) onil) h (by kernel_rfl) (fun h=>?_) (fun h=>?_)
     ·replace h:=sj h;subst h
      exact x_end 4 [] [] onil onil 
     ·obtain⟨v5,y5,h⟩:=bm h
      refine x_frk 33 [(9,.call [] [] (i64 v5) [])] (ocons (Tlaws_szSolid (Y:=Y) n a0.2.2.2.2.2.1 v4 _ y5) onil) h (by kernel_rfl) (fun h=>?_) (fun h=>?_)
      ·replace h:=sj h;subst h
       exact x_end 4 [] [] onil onil 
      ·obtain⟨v6,y6,h⟩:=bm h
       refine x_frk 33 [(9,.call [] [] (i64 v6) [])] (ocons (Tlaws_szSolid (Y:=Y) n a0.2.2.2.2.2.2.1 v5 _ y6) onil) h (by kernel_rfl) (fun h=>?_) (fun h=>?_)
       ·replace h:=sj h;subst h
        exact x_end 4 [] [] onil onil 
       ·obtain⟨v7,y7,h⟩:=bm h
        refine x_frk 33 [(9,.call [] [] (i64 v7) [])] (ocons (Tlaws_szSolid (Y:=Y) n a0.2.2.2.2.2.2.2 v6 _ y7) onil) h (by kernel_rfl) (fun h=>?_) (fun h=>?_)
        ·replace h:=sj h;subst h
         exact x_end 4 [] [] onil onil 
        ·replace h:=sj h;subst h
         exact x_end 22 [] [] onil onil 
def Dlaws_szDesk(n:Nat)(a0:Dsk)(a1:Int):Option Int :=
 (Dlaws_szSolidA8 n a0.1 a1).bind fun v0=>frk (decide (v0<0)) (some (-1)) (some v0)
theorem Tlaws_szDesk{Y}(n:Nat)(a0:Dsk)(a1 r:Int)(h:Dlaws_szDesk n a0 a1=some r):Big Tryz.prog H Y (.call 9 [.agg (cT30 a0),i64 a1] (lk []) (i64 r) (lk [])):=by
 unfold Dlaws_szDesk at h
 refine x_call (fn:=Tryz.f9) (c:=bodyOf Tryz.f9) (bs0:=[]) Tryz.func9 (by kernel_rfl) (by kernel_rfl) ?_
 obtain⟨v0,y0,h⟩:=bm h
 refine x_frk 19 [(5,.call [] [] (i64 v0) [])] (ocons (Tlaws_szSolidA8 (Y:=Y) n a0.1 a1 _ y0) onil) h (by kernel_rfl) (fun h=>?_) (fun h=>?_)
 ·replace h:=sj h;subst h
  exact x_end 4 [] [] onil onil 
 ·replace h:=sj h;subst h
  exact x_end 6 [] [] onil onil 
def Dlaws_toPlane(a0:Pl):Option Pl :=
 some a0
theorem Tlaws_toPlane{Y}(a0:Pl)(r:Pl)(h:Dlaws_toPlane a0=some r):Big Tryz.prog H Y (.call 80 [.agg [i64 a0.A,i64 a0.B,i64 a0.C,i64 a0.D]] (lk []) (.agg [i64 r.A,i64 r.B,i64 r.C,i64 r.D]) (lk [])):=by
 unfold Dlaws_toPlane at h
 refine x_call (fn:=Tryz.f80) (c:=bodyOf Tryz.f80) (bs0:=[]) Tryz.func80 (by kernel_rfl) (by kernel_rfl) ?_
 replace h:=sj h;subst h
 exact x_end 42 [] [] onil onil 
def Dlaws_toSolidS_in_0(_n:Nat)(self:Sol→Option Sol)(t0:List Sol)(rec0:(Int×List Sol)→Option (List Sol))(a:(Int×List Sol)):Option (List Sol) :=
 match a with
 | (t4,l7)=>frk (decide (t4<(t0.length:Int))) ((lget t0 t4).bind fun v1=>(self v1).bind fun v2=>(lget l7 t4).bind fun _v3=>rec0 (w64 (t4+1),(l7.set (Int.toNat t4) v2))) (some l7)
theorem Tlaws_toSolidS_in_0{Y}(n:Nat)(self:Sol→Option Sol)(hself:∀(a:Sol) (r:Sol),self a=some r→Big Tryz.prog H Y (.call 21 [eF a] (lk []) (eS r) (lk [])))(t0:List Sol):∀(m:Nat) (a:(Int×List Sol)) (r:(List Sol)),loopN (Dlaws_toSolidS_in_0 n self t0) m a=some r→Wk Tryz.prog H Y 81 [.code (cp [1,1,0,1,0] (bodyOf Tryz.f81)),.blk 0,.code (cp [1,1,1] (bodyOf Tryz.f81))] (FinX Tryz.prog Tryz.f81 [] (.sl true 6 r.length ((eSol true).f r)) []) ⟨[(0,.sl false 6 t0.length ((eSol false).f t0)),(3,.msl 7 a.2.length),(4,i64 a.1)],[(7,⟨true,6,(eSol true).f a.2⟩)]⟩:=by
 refine loopN_ind (fun _rec0 hrec0 a r h=>?_)
 obtain⟨t4,l7⟩:=a
 unfold Dlaws_toSolidS_in_0 at h
 refine x_frk 9 [] onil h (by kernel_rfl) (fun h=>?_) (fun h=>?_)
 ·obtain⟨v1,y1,h⟩:=bm h
  obtain⟨v2,y2,h⟩:=bm h
  obtain⟨_v3,y3,h⟩:=bm h
  exact x_to 23 [(4,.val (.cptr ((eSol false).c v1++(eSol false).f ((t0).drop (Int.toNat t4+1))))),(1,.call [] [] (eS v2) []),(0,.unit),(0,.cells ((eSol true).f (l7.set (Int.toNat t4) v2))),(0,.fix 3 (.msl 7 (l7.set (Int.toNat t4) v2).length)),(0,.fix 14 (.msl 7 (l7.set (Int.toNat t4) v2).length))] (ocons (ix (eSol false) y1) (ocons (hself v1 _ y2) (ocons (inr y3) (ocons (stA (eSol true) y3 0 6 [bl v2.inn,i64 v2.pl.A,i64 v2.pl.B,i64 v2.pl.C,i64 v2.pl.D,.sl true 6 v2.kids.length ((eSol true).f v2.kids)] v2 rfl rfl) (ocons (setLen 7 l7 (Int.toNat t4) v2) (ocons (setLen 7 l7 (Int.toNat t4) v2) onil)))))) (hrec0 (w64 (t4+1),(l7.set (Int.toNat t4) v2)) r h) 
 ·replace h:=sj h;subst h
  exact x_end 6 [] [] onil (ocons (len_row (L:=l7) (eSol true)) onil) 
def Dlaws_toSolidS_in(n:Nat)(self:Sol→Option Sol)(a0:(List Sol)):Option (List Sol) :=
 chk (mkB (a0.length:Int) 64) (loopN (Dlaws_toSolidS_in_0 n self a0) n (0,(List.replicate (Int.toNat (a0.length:Int)) zSol)))
theorem Tlaws_toSolidS_in{Y}(n:Nat)(self:Sol→Option Sol)(hself:∀(a:Sol) (r:Sol),self a=some r→Big Tryz.prog H Y (.call 21 [eF a] (lk []) (eS r) (lk [])))(a0:(List Sol))(r:(List Sol))(h:Dlaws_toSolidS_in n self a0=some r):Big Tryz.prog H Y (.call 81 [.sl false 6 a0.length ((eSol false).f a0)] (lk []) (.sl true 6 r.length ((eSol true).f r)) (lk [])):=by
 unfold Dlaws_toSolidS_in at h
 refine x_call (fn:=Tryz.f81) (c:=bodyOf Tryz.f81) (bs0:=[]) Tryz.func81 (by kernel_rfl) (by kernel_rfl) ?_
 obtain⟨c0,h⟩:=chk_some h
 exact x_to 20 [(3,.mk (List.replicate (Int.toNat (a0.length:Int)) ()).length (eZs.f (List.replicate (Int.toNat (a0.length:Int)) ()))),(1,.wkb 7 ⟨true,6,eZs.f (List.replicate (Int.toNat (a0.length:Int)) ())⟩ ⟨true,6,(eSol true).f (List.replicate (Int.toNat (a0.length:Int)) zSol)⟩),(0,.fix 3 (.msl 7 (List.replicate (Int.toNat (a0.length:Int)) zSol).length)),(0,.fix 7 (.msl 7 (List.replicate (Int.toNat (a0.length:Int)) zSol).length))] (ocons (rflI (a0.length:Int)) (ocons (mkOk eZs c0 () rfl) (ocons (rflB ⟨true,6,eZs.f (List.replicate (Int.toNat (a0.length:Int)) ())⟩) (ocons (wkZs true true (Int.toNat (a0.length:Int))) (ocons (congrArg (AV.msl 7) (zLen (Int.toNat (a0.length:Int)))) (ocons (congrArg (AV.msl 7) (zLen (Int.toNat (a0.length:Int)))) onil)))))) (Tlaws_toSolidS_in_0 n self hself a0 n (0,(List.replicate (Int.toNat (a0.length:Int)) zSol)) r h) 
def Dlaws_toSolid_b(n:Nat)(self:Sol→Option Sol)(a:Sol):Option Sol :=
 match a with
 | a0=>(Dlaws_toPlane a0.pl).bind fun v0=>(Dlaws_toSolidS_in n self a0.kids).bind fun v1=>some (Sol.mk a0.inn v0 v1)
def Dlaws_toSolid(n:Nat)(a0:Sol):Option Sol:=loopN (Dlaws_toSolid_b n) n a0
theorem Tlaws_toSolid_b{Y}(n:Nat):∀(m:Nat) (a:Sol) (r:Sol),loopN (Dlaws_toSolid_b n) m a=some r→∀(_:Unit),Big Tryz.prog H Y (.call 21 [eF a] (lk []) (eS r) (lk [])):=by
 refine loopN_ind (fun self hs a r h=>?_)
 have hself:∀(a:Sol) (r:Sol),self a=some r→Big Tryz.prog H Y (.call 21 [eF a] (lk []) (eS r) (lk [])):=fun a r h=>hs a r h ()
 intro _
 obtain⟨a0,rfl⟩:∃x,x=a:=⟨a,rfl⟩
 unfold Dlaws_toSolid_b at h
 refine x_call (fn:=Tryz.f21) (c:=bodyOf Tryz.f21) (bs0:=[]) Tryz.func21 (by kernel_rfl) (by kernel_rfl) ?_
 obtain⟨v0,y0,h⟩:=bm h
 obtain⟨v1,y1,h⟩:=bm h
 replace h:=sj h;subst h
 exact x_end 37 [(9,.call [] [] (.agg [i64 v0.A,i64 v0.B,i64 v0.C,i64 v0.D]) []),(4,.call [] [] (.sl true 6 v1.length ((eSol true).f v1)) [])] [] (ocons (Tlaws_toPlane (Y:=Y) a0.pl _ y0) (ocons (Tlaws_toSolidS_in (Y:=Y) n self hself a0.kids _ y1) onil)) (ocons (len_row (L:=v1) (eSol true)) onil) 
theorem Tlaws_toSolid{Y}(n:Nat)(a0:Sol)(r:Sol)(h:Dlaws_toSolid n a0=some r):Big Tryz.prog H Y (.call 21 [eF a0] (lk []) (eS r) (lk [])):=Tlaws_toSolid_b n n a0 r h ()
def Dlaws_toSolidA8(n:Nat)(a0:(Sol×Sol×Sol×Sol×Sol×Sol×Sol×Sol)):Option (Sol×Sol×Sol×Sol×Sol×Sol×Sol×Sol) :=
 (Dlaws_toSolid n a0.1).bind fun v0=>(Dlaws_toSolid n a0.2.1).bind fun v1=>(Dlaws_toSolid n a0.2.2.1).bind fun v2=>(Dlaws_toSolid n a0.2.2.2.1).bind fun v3=>(Dlaws_toSolid n a0.2.2.2.2.1).bind fun v4=>(Dlaws_toSolid n a0.2.2.2.2.2.1).bind fun v5=>(Dlaws_toSolid n a0.2.2.2.2.2.2.1).bind fun v6=>(Dlaws_toSolid n a0.2.2.2.2.2.2.2).bind fun v7=>some (v0,v1,v2,v3,v4,v5,v6,v7)
theorem Tlaws_toSolidA8{Y}(n:Nat)(a0:(Sol×Sol×Sol×Sol×Sol×Sol×Sol×Sol))(r:(Sol×Sol×Sol×Sol×Sol×Sol×Sol×Sol))(h:Dlaws_toSolidA8 n a0=some r):Big Tryz.prog H Y (.call 57 [.agg (cT27 a0)] (lk []) (.agg (cT36o r)) (lk [])):=by
 unfold Dlaws_toSolidA8 at h
 refine x_call (fn:=Tryz.f57) (c:=bodyOf Tryz.f57) (bs0:=[]) Tryz.func57 (by kernel_rfl) (by kernel_rfl) ?_
 obtain⟨v0,y0,h⟩:=bm h
 obtain⟨v1,y1,h⟩:=bm h
 obtain⟨v2,y2,h⟩:=bm h
 obtain⟨v3,y3,h⟩:=bm h
 obtain⟨v4,y4,h⟩:=bm h
 obtain⟨v5,y5,h⟩:=bm h
 obtain⟨v6,y6,h⟩:=bm h
 obtain⟨v7,y7,h⟩:=bm h
 replace h:=sj h;subst h
 exact x_end 245 [(10,.call [] [] (eS v0) []),(11,.call [] [] (eS v1) []),(11,.call [] [] (eS v2) []),(11,.call [] [] (eS v3) []),(11,.call [] [] (eS v4) []),(11,.call [] [] (eS v5) []),(11,.call [] [] (eS v6) []),(11,.call [] [] (eS v7) [])] [] (ocons (Tlaws_toSolid (Y:=Y) n a0.1 _ y0) (ocons (Tlaws_toSolid (Y:=Y) n a0.2.1 _ y1) (ocons (Tlaws_toSolid (Y:=Y) n a0.2.2.1 _ y2) (ocons (Tlaws_toSolid (Y:=Y) n a0.2.2.2.1 _ y3) (ocons (Tlaws_toSolid (Y:=Y) n a0.2.2.2.2.1 _ y4) (ocons (Tlaws_toSolid (Y:=Y) n a0.2.2.2.2.2.1 _ y5) (ocons (Tlaws_toSolid (Y:=Y) n a0.2.2.2.2.2.2.1 _ y6) (ocons (Tlaws_toSolid (Y:=Y) n a0.2.2.2.2.2.2.2 _ y7) onil)))))))) onil 
def Dlaws_toBoolA8(_n:Nat)(a0:(Bool×Bool×Bool×Bool×Bool×Bool×Bool×Bool)):Option (Bool×Bool×Bool×Bool×Bool×Bool×Bool×Bool) :=
 some a0
theorem Tlaws_toBoolA8{Y}(n:Nat)(a0:(Bool×Bool×Bool×Bool×Bool×Bool×Bool×Bool))(r:(Bool×Bool×Bool×Bool×Bool×Bool×Bool×Bool))(h:Dlaws_toBoolA8 n a0=some r):Big Tryz.prog H Y (.call 58 [.agg [bl a0.1,bl a0.2.1,bl a0.2.2.1,bl a0.2.2.2.1,bl a0.2.2.2.2.1,bl a0.2.2.2.2.2.1,bl a0.2.2.2.2.2.2.1,bl a0.2.2.2.2.2.2.2]] (lk []) (.agg [bl r.1,bl r.2.1,bl r.2.2.1,bl r.2.2.2.1,bl r.2.2.2.2.1,bl r.2.2.2.2.2.1,bl r.2.2.2.2.2.2.1,bl r.2.2.2.2.2.2.2]) (lk [])):=by
 unfold Dlaws_toBoolA8 at h
 refine x_call (fn:=Tryz.f58) (c:=bodyOf Tryz.f58) (bs0:=[]) Tryz.func58 (by kernel_rfl) (by kernel_rfl) ?_
 replace h:=sj h;subst h
 exact x_end 237 [] [] onil onil 
def Dlaws_toDesk(n:Nat)(a0:Dsk):Option Dsk :=
 (Dlaws_toSolidA8 n a0.1).bind fun v0=>(Dlaws_toBoolA8 n a0.2).bind fun v1=>some (v0,v1)
theorem Tlaws_toDesk{Y}(n:Nat)(a0:Dsk)(r:Dsk)(h:Dlaws_toDesk n a0=some r):Big Tryz.prog H Y (.call 11 [.agg (cT30 a0)] (lk []) (.agg (cT38o r)) (lk [])):=by
 unfold Dlaws_toDesk at h
 refine x_call (fn:=Tryz.f11) (c:=bodyOf Tryz.f11) (bs0:=[]) Tryz.func11 (by kernel_rfl) (by kernel_rfl) ?_
 obtain⟨v0,y0,h⟩:=bm h
 obtain⟨v1,y1,h⟩:=bm h
 replace h:=sj h;subst h
 exact x_end 30 [(5,.call [] [] (.agg (cT36o v0)) []),(4,.call [] [] (.agg [bl v1.1,bl v1.2.1,bl v1.2.2.1,bl v1.2.2.2.1,bl v1.2.2.2.2.1,bl v1.2.2.2.2.2.1,bl v1.2.2.2.2.2.2.1,bl v1.2.2.2.2.2.2.2]) [])] [] (ocons (Tlaws_toSolidA8 (Y:=Y) n a0.1 _ y0) (ocons (Tlaws_toBoolA8 (Y:=Y) n a0.2 _ y1) onil)) onil 
def Dspec_l8Leaf(a0:Sol):Option Bool :=
 some ((a0.kids.length:Int)==0)
theorem Tspec_l8Leaf{Y}(a0:Sol)(r:Bool)(h:Dspec_l8Leaf a0=some r):Big Tryz.prog H Y (.call 120 [eF a0] (lk []) (bl r) (lk [])):=by
 unfold Dspec_l8Leaf at h
 refine x_call (fn:=Tryz.f120) (c:=bodyOf Tryz.f120) (bs0:=[]) Tryz.func120 (by kernel_rfl) (by kernel_rfl) ?_
 replace h:=sj h;subst h
 exact x_end 13 [] [] onil onil 
def Dspec_l8Count_1(_n:Nat)(self:(Sol×Int)→Option Int)(t1:Int)(_za:Bool)(_zb _zc _zd _ze:Int)(zf:List Sol)(rec0:(Int×Int)→Option Int)(a:(Int×Int)):Option Int :=
 match a with
 | (t5,t6)=>frk (decide (t6<(zf.length:Int))) ((lget zf t6).bind fun v1=>(self (v1,w64 (t1-t5))).bind fun v2=>rec0 (w64 (t5+v2),w64 (t6+1))) (some t5)
theorem Tspec_l8Count_1{Y}(n:Nat)(self:(Sol×Int)→Option Int)(hself:∀(a:(Sol×Int)) (r:Int),self a=some r→Big Tryz.prog H Y (.call 116 [eF a.1,i64 a.2] (lk []) (i64 r) (lk [])))(t1:Int)(za:Bool)(zb zc zd ze:Int)(zf:List Sol):∀(m:Nat) (a:(Int×Int)) (r:Int),loopN (Dspec_l8Count_1 n self t1 za zb zc zd ze zf) m a=some r→Wk Tryz.prog H Y 116 [.code (cp [1,1,1,0,1,0] (bodyOf Tryz.f116)),.blk 0,.code (cp [1,1,1,1] (bodyOf Tryz.f116))] (FinX Tryz.prog Tryz.f116 [] (i64 r) []) ⟨[(1,i64 t1),(2,.ptr 2 0),(5,i64 a.1),(6,i64 a.2)],[(2,⟨true,0,[bl za,i64 zb,i64 zc,i64 zd,i64 ze,.sl false 6 zf.length ((eSol false).f zf)]⟩)]⟩:=by
 refine loopN_ind (fun _rec0 hrec0 a r h=>?_)
 obtain⟨t5,t6⟩:=a
 unfold Dspec_l8Count_1 at h
 refine x_frk 10 [] onil h (by kernel_rfl) (fun h=>?_) (fun h=>?_)
 ·obtain⟨v1,y1,h⟩:=bm h
  obtain⟨v2,y2,h⟩:=bm h
  exact x_to 24 [(4,.val (.cptr ((eSol false).c v1++(eSol false).f ((zf).drop (Int.toNat t6+1))))),(4,.call [] [] (i64 v2) [])] (ocons (ix (eSol false) y1) (ocons (hself (v1,w64 (t1-t5)) _ y2) onil)) (hrec0 (w64 (t5+v2),w64 (t6+1)) r h) 
 ·replace h:=sj h;subst h
  exact x_end 6 [] [] onil onil 
def Dspec_l8Count_0(n:Nat)(self:(Sol×Int)→Option Int)(t1:Int)(t12 za:Bool)(zb zc zd ze:Int)(zf:List Sol):Option Int :=
 frk t12 (some 0) (loopN (Dspec_l8Count_1 n self t1 za zb zc zd ze zf) n (1,0))
theorem Tspec_l8Count_0{Y}(n:Nat)(self:(Sol×Int)→Option Int)(hself:∀(a:(Sol×Int)) (r:Int),self a=some r→Big Tryz.prog H Y (.call 116 [eF a.1,i64 a.2] (lk []) (i64 r) (lk [])))(t1:Int)(t12 za:Bool)(zb zc zd ze:Int)(zf:List Sol)(r:Int)(h:Dspec_l8Count_0 n self t1 t12 za zb zc zd ze zf=some r):Wk Tryz.prog H Y 116 [.code (cp [1,0,1] (bodyOf Tryz.f116)),.code (cp [1,1] (bodyOf Tryz.f116))] (FinX Tryz.prog Tryz.f116 [] (i64 r) []) ⟨[(1,i64 t1),(2,.ptr 2 0),(12,bl t12)],[(2,⟨true,0,[bl za,i64 zb,i64 zc,i64 zd,i64 ze,.sl false 6 zf.length ((eSol false).f zf)]⟩)]⟩:=by
 unfold Dspec_l8Count_0 at h
 refine x_frk 0 [] onil h (by kernel_rfl) (fun h=>?_) (fun h=>?_)
 ·replace h:=sj h;subst h
  exact x_end 4 [] [] onil onil 
 ·exact x_to 11 [] onil (Tspec_l8Count_1 n self hself t1 za zb zc zd ze zf n (1,0) r h) 
def Dspec_l8Count_b(n:Nat)(self:(Sol×Int)→Option Int)(a:(Sol×Int)):Option Int :=
 match a with
 | (a0,a1)=>(Dspec_l8Leaf a0).bind fun v0=>frk v0 (some 0) (Dspec_l8Count_0 n self a1 (decide (a1≤0)) a0.inn a0.pl.A a0.pl.B a0.pl.C a0.pl.D a0.kids)
def Dspec_l8Count(n:Nat)(a0:Sol)(a1:Int):Option Int:=loopN (Dspec_l8Count_b n) n (a0,a1)
theorem Tspec_l8Count_b{Y}(n:Nat):∀(m:Nat) (a:(Sol×Int)) (r:Int),loopN (Dspec_l8Count_b n) m a=some r→∀(_:Unit),Big Tryz.prog H Y (.call 116 [eF a.1,i64 a.2] (lk []) (i64 r) (lk [])):=by
 refine loopN_ind (fun self hs a r h=>?_)
 have hself:∀(a:(Sol×Int)) (r:Int),self a=some r→Big Tryz.prog H Y (.call 116 [eF a.1,i64 a.2] (lk []) (i64 r) (lk [])):=fun a r h=>hs a r h ()
 intro _
 obtain⟨a0,a1⟩:=a
 unfold Dspec_l8Count_b at h
 refine x_call (fn:=Tryz.f116) (c:=bodyOf Tryz.f116) (bs0:=[]) Tryz.func116 (by kernel_rfl) (by kernel_rfl) ?_
 obtain⟨v0,y0,h⟩:=bm h
 refine x_frk 11 [(3,.call [] [] (bl v0) [])] (ocons (Tspec_l8Leaf (Y:=Y) a0 _ y0) onil) h (by kernel_rfl) (fun h=>?_) (fun h=>?_)
 ·replace h:=sj h;subst h
  exact x_end 9 [] [] onil onil 
 ·exact x_to 4 [] onil (Tspec_l8Count_0 n self hself a1 (decide (a1≤0)) a0.inn a0.pl.A a0.pl.B a0.pl.C a0.pl.D a0.kids r h) 
theorem Tspec_l8Count{Y}(n:Nat)(a0:Sol)(a1 r:Int)(h:Dspec_l8Count n a0 a1=some r):Big Tryz.prog H Y (.call 116 [eF a0,i64 a1] (lk []) (i64 r) (lk [])):=Tspec_l8Count_b n n (a0,a1) r h ()
def Dspec_l1In(a0 a1 a2:Int):Option Bool :=
 frk (decide (a0≥a1)) (some (decide (a0≤a2))) (some false)
theorem Tspec_l1In{Y}(a0 a1 a2:Int)(r:Bool)(h:Dspec_l1In a0 a1 a2=some r):Big Tryz.prog H Y (.call 52 [i64 a0,i64 a1,i64 a2] (lk []) (bl r) (lk [])):=by
 unfold Dspec_l1In at h
 refine x_call (fn:=Tryz.f52) (c:=bodyOf Tryz.f52) (bs0:=[]) Tryz.func52 (by kernel_rfl) (by kernel_rfl) ?_
 refine x_frk 10 [] onil h (by kernel_rfl) (fun h=>?_) (fun h=>?_)
 ·replace h:=sj h;subst h
  exact x_end 6 [] [] onil onil 
 ·replace h:=sj h;subst h
  exact x_end 6 [] [] onil onil 
def Dspec_l3In(a0:Pl):Option Bool :=
 (Dspec_l1In a0.A (-500) 500).bind fun v0=>frk v0 ((Dspec_l1In a0.B (-500) 500).bind fun v1=>frk v1 ((Dspec_l1In a0.C (-500) 500).bind fun v2=>frk v2 ((Dspec_l1In a0.D (-500) 500).bind fun v3=>some v3) (some false)) (some false)) (some false)
theorem Tspec_l3In{Y}(a0:Pl)(r:Bool)(h:Dspec_l3In a0=some r):Big Tryz.prog H Y (.call 240 [.agg [i64 a0.A,i64 a0.B,i64 a0.C,i64 a0.D]] (lk []) (bl r) (lk [])):=by
 unfold Dspec_l3In at h
 refine x_call (fn:=Tryz.f240) (c:=bodyOf Tryz.f240) (bs0:=[]) Tryz.func240 (by kernel_rfl) (by kernel_rfl) ?_
 obtain⟨v0,y0,h⟩:=bm h
 refine x_frk 18 [(8,.call [] [] (bl v0) [])] (ocons (Tspec_l1In (Y:=Y) a0.A (-500) 500 _ y0) onil) h (by kernel_rfl) (fun h=>?_) (fun h=>?_)
 ·obtain⟨v1,y1,h⟩:=bm h
  refine x_frk 8 [(5,.call [] [] (bl v1) [])] (ocons (Tspec_l1In (Y:=Y) a0.B (-500) 500 _ y1) onil) h (by kernel_rfl) (fun h=>?_) (fun h=>?_)
  ·obtain⟨v2,y2,h⟩:=bm h
   refine x_frk 8 [(5,.call [] [] (bl v2) [])] (ocons (Tspec_l1In (Y:=Y) a0.C (-500) 500 _ y2) onil) h (by kernel_rfl) (fun h=>?_) (fun h=>?_)
   ·obtain⟨v3,y3,h⟩:=bm h
    replace h:=sj h;subst h
    exact x_end 9 [(5,.call [] [] (bl v3) [])] [] (ocons (Tspec_l1In (Y:=Y) a0.D (-500) 500 _ y3) onil) onil 
   ·replace h:=sj h;subst h
    exact x_end 9 [] [] onil onil 
  ·replace h:=sj h;subst h
   exact x_end 17 [] [] onil onil 
 ·replace h:=sj h;subst h
  exact x_end 25 [] [] onil onil 
def Dspec_l3Abs(a0:Int):Option Int :=
 frk (decide (a0<0)) (some (w64 (0-a0))) (some a0)
theorem Tspec_l3Abs{Y}(a0 r:Int)(h:Dspec_l3Abs a0=some r):Big Tryz.prog H Y (.call 238 [i64 a0] (lk []) (i64 r) (lk [])):=by
 unfold Dspec_l3Abs at h
 refine x_call (fn:=Tryz.f238) (c:=bodyOf Tryz.f238) (bs0:=[]) Tryz.func238 (by kernel_rfl) (by kernel_rfl) ?_
 refine x_frk 10 [] onil h (by kernel_rfl) (fun h=>?_) (fun h=>?_)
 ·replace h:=sj h;subst h
  exact x_end 6 [] [] onil onil 
 ·replace h:=sj h;subst h
  exact x_end 6 [] [] onil onil 
def Dspec_l3Gcd_0(_n:Nat)(rec0:(Int×Int)→Option Int)(a:(Int×Int)):Option Int :=
 match a with
 | (t0,t1)=>frk (decide (t1>0)) ((rm .i64 t0 t1).bind fun v2=>rec0 (t1,v2)) (some t0)
theorem Tspec_l3Gcd_0{Y}(n:Nat):∀(m:Nat) (a:(Int×Int)) (r:Int),loopN (Dspec_l3Gcd_0 n) m a=some r→Wk Tryz.prog H Y 207 [.code (cp [1,1,1,0,0] (bodyOf Tryz.f207)),.blk 0,.code (cp [1,1,1,1] (bodyOf Tryz.f207))] (FinX Tryz.prog Tryz.f207 [] (i64 r) []) ⟨[(0,i64 a.1),(1,i64 a.2)],[]⟩:=by
 refine loopN_ind (fun _rec0 hrec0 a r h=>?_)
 obtain⟨_t0,t1⟩:=a
 unfold Dspec_l3Gcd_0 at h
 refine x_frk 7 [] onil h (by kernel_rfl) (fun h=>?_) (fun h=>?_)
 ·obtain⟨v2,y2,h⟩:=bm h
  exact x_to 20 [(2,.val (i64 v2))] (ocons (rmOk y2) onil) (hrec0 (t1,v2) r h) 
 ·replace h:=sj h;subst h
  exact x_end 6 [] [] onil onil 
def Dspec_l3Gcd(n:Nat)(a0 a1:Int):Option Int :=
 (Dspec_l3Abs a0).bind fun v0=>(Dspec_l3Abs a1).bind fun v1=>loopN (Dspec_l3Gcd_0 n) n (v0,v1)
theorem Tspec_l3Gcd{Y}(n:Nat)(a0 a1 r:Int)(h:Dspec_l3Gcd n a0 a1=some r):Big Tryz.prog H Y (.call 207 [i64 a0,i64 a1] (lk []) (i64 r) (lk [])):=by
 unfold Dspec_l3Gcd at h
 refine x_call (fn:=Tryz.f207) (c:=bodyOf Tryz.f207) (bs0:=[]) Tryz.func207 (by kernel_rfl) (by kernel_rfl) ?_
 obtain⟨v0,y0,h⟩:=bm h
 obtain⟨v1,y1,h⟩:=bm h
 exact x_to 18 [(2,.call [] [] (i64 v0) []),(2,.call [] [] (i64 v1) [])] (ocons (Tspec_l3Abs (Y:=Y) a0 _ y0) (ocons (Tspec_l3Abs (Y:=Y) a1 _ y1) onil)) (Tspec_l3Gcd_0 n n (v0,v1) r h) 
def Dspec_PlaneOk(n:Nat)(a0:Pl):Option Bool :=
 (Dspec_l3In a0).bind fun v0=>frk v0 (frk (a0.A != 0) ((Dspec_l3Gcd n a0.A a0.B).bind fun v1=>(Dspec_l3Gcd n a0.C a0.D).bind fun v2=>(Dspec_l3Gcd n v1 v2).bind fun v3=>some (v3==1)) (frk (a0.B != 0) ((Dspec_l3Gcd n a0.A a0.B).bind fun v4=>(Dspec_l3Gcd n a0.C a0.D).bind fun v5=>(Dspec_l3Gcd n v4 v5).bind fun v6=>some (v6==1)) (frk (a0.C != 0) ((Dspec_l3Gcd n a0.A a0.B).bind fun v7=>(Dspec_l3Gcd n a0.C a0.D).bind fun v8=>(Dspec_l3Gcd n v7 v8).bind fun v9=>some (v9==1)) (some false)))) (some false)
theorem Tspec_PlaneOk{Y}(n:Nat)(a0:Pl)(r:Bool)(h:Dspec_PlaneOk n a0=some r):Big Tryz.prog H Y (.call 206 [.agg [i64 a0.A,i64 a0.B,i64 a0.C,i64 a0.D]] (lk []) (bl r) (lk [])):=by
 unfold Dspec_PlaneOk at h
 refine x_call (fn:=Tryz.f206) (c:=bodyOf Tryz.f206) (bs0:=[]) Tryz.func206 (by kernel_rfl) (by kernel_rfl) ?_
 obtain⟨v0,y0,h⟩:=bm h
 refine x_frk 10 [(3,.call [] [] (bl v0) [])] (ocons (Tspec_l3In (Y:=Y) a0 _ y0) onil) h (by kernel_rfl) (fun h=>?_) (fun h=>?_)
 ·refine x_frk 4 [] onil h (by kernel_rfl) (fun h=>?_) (fun h=>?_)
  ·obtain⟨v1,y1,h⟩:=bm h
   obtain⟨v2,y2,h⟩:=bm h
   obtain⟨v3,y3,h⟩:=bm h
   replace h:=sj h;subst h
   exact x_end 26 [(15,.call [] [] (i64 v1) []),(4,.call [] [] (i64 v2) []),(0,.call [] [] (i64 v3) [])] [] (ocons (Tspec_l3Gcd (Y:=Y) n a0.A a0.B _ y1) (ocons (Tspec_l3Gcd (Y:=Y) n a0.C a0.D _ y2) (ocons (Tspec_l3Gcd (Y:=Y) n v1 v2 _ y3) onil))) onil 
  ·refine x_frk 5 [] onil h (by kernel_rfl) (fun h=>?_) (fun h=>?_)
   ·obtain⟨v4,y4,h⟩:=bm h
    obtain⟨v5,y5,h⟩:=bm h
    obtain⟨v6,y6,h⟩:=bm h
    replace h:=sj h;subst h
    exact x_end 21 [(10,.call [] [] (i64 v4) []),(4,.call [] [] (i64 v5) []),(0,.call [] [] (i64 v6) [])] [] (ocons (Tspec_l3Gcd (Y:=Y) n a0.A a0.B _ y4) (ocons (Tspec_l3Gcd (Y:=Y) n a0.C a0.D _ y5) (ocons (Tspec_l3Gcd (Y:=Y) n v4 v5 _ y6) onil))) onil 
   ·refine x_frk 6 [] onil h (by kernel_rfl) (fun h=>?_) (fun h=>?_)
    ·obtain⟨v7,y7,h⟩:=bm h
     obtain⟨v8,y8,h⟩:=bm h
     obtain⟨v9,y9,h⟩:=bm h
     replace h:=sj h;subst h
     exact x_end 15 [(4,.call [] [] (i64 v7) []),(4,.call [] [] (i64 v8) []),(0,.call [] [] (i64 v9) [])] [] (ocons (Tspec_l3Gcd (Y:=Y) n a0.A a0.B _ y7) (ocons (Tspec_l3Gcd (Y:=Y) n a0.C a0.D _ y8) (ocons (Tspec_l3Gcd (Y:=Y) n v7 v8 _ y9) onil))) onil 
    ·replace h:=sj h;subst h
     exact x_end 15 [] [] onil onil 
 ·replace h:=sj h;subst h
  exact x_end 30 [] [] onil onil 
def Dspec_l4Cross(a0:Pl)(a1:Pl):Option (Int×Int×Int) :=
 some (w64 ((w64 (a0.B*a1.C))-(w64 (a0.C*a1.B))),w64 ((w64 (a0.C*a1.A))-(w64 (a0.A*a1.C))),w64 ((w64 (a0.A*a1.B))-(w64 (a0.B*a1.A))))
theorem Tspec_l4Cross{Y}(a0:Pl)(a1:Pl)(r:(Int×Int×Int))(h:Dspec_l4Cross a0 a1=some r):Big Tryz.prog H Y (.call 137 [.agg [i64 a0.A,i64 a0.B,i64 a0.C,i64 a0.D],.agg [i64 a1.A,i64 a1.B,i64 a1.C,i64 a1.D]] (lk []) (.agg [i64 r.1,i64 r.2.1,i64 r.2.2]) (lk [])):=by
 unfold Dspec_l4Cross at h
 refine x_call (fn:=Tryz.f137) (c:=bodyOf Tryz.f137) (bs0:=[]) Tryz.func137 (by kernel_rfl) (by kernel_rfl) ?_
 replace h:=sj h;subst h
 exact x_end 44 [] [] onil onil 
def Dspec_l3Sign(a0:Int):Option Int :=
 frk (decide (a0>0)) (some 1) (frk (decide (a0<0)) (some (-1)) (some 0))
theorem Tspec_l3Sign{Y}(a0 r:Int)(h:Dspec_l3Sign a0=some r):Big Tryz.prog H Y (.call 218 [i64 a0] (lk []) (i64 r) (lk [])):=by
 unfold Dspec_l3Sign at h
 refine x_call (fn:=Tryz.f218) (c:=bodyOf Tryz.f218) (bs0:=[]) Tryz.func218 (by kernel_rfl) (by kernel_rfl) ?_
 refine x_frk 12 [] onil h (by kernel_rfl) (fun h=>?_) (fun h=>?_)
 ·replace h:=sj h;subst h
  exact x_end 4 [] [] onil onil 
 ·refine x_frk 6 [] onil h (by kernel_rfl) (fun h=>?_) (fun h=>?_)
  ·replace h:=sj h;subst h
   exact x_end 4 [] [] onil onil 
  ·replace h:=sj h;subst h
   exact x_end 6 [] [] onil onil 
def Dspec_l4Parallel(a0:Pl)(a1:Pl):Option Int :=
 (Dspec_l4Cross a0 a1).bind fun v0=>frk (!(v0.1==0&&(v0.2.1==0&&(v0.2.2==0&&true)))) (some 0) ((Dspec_l3Sign (w64 ((w64 ((w64 (a0.A*a1.A))+(w64 (a0.B*a1.B))))+(w64 (a0.C*a1.C))))).bind fun v1=>some v1)
theorem Tspec_l4Parallel{Y}(a0:Pl)(a1:Pl)(r:Int)(h:Dspec_l4Parallel a0 a1=some r):Big Tryz.prog H Y (.call 237 [.agg [i64 a0.A,i64 a0.B,i64 a0.C,i64 a0.D],.agg [i64 a1.A,i64 a1.B,i64 a1.C,i64 a1.D]] (lk []) (i64 r) (lk [])):=by
 unfold Dspec_l4Parallel at h
 refine x_call (fn:=Tryz.f237) (c:=bodyOf Tryz.f237) (bs0:=[]) Tryz.func237 (by kernel_rfl) (by kernel_rfl) ?_
 obtain⟨v0,y0,h⟩:=bm h
 refine x_frk 15 [(5,.call [] [] (.agg [i64 v0.1,i64 v0.2.1,i64 v0.2.2]) [])] (ocons (Tspec_l4Cross (Y:=Y) a0 a1 _ y0) onil) h (by kernel_rfl) (fun h=>?_) (fun h=>?_)
 ·replace h:=sj h;subst h
  exact x_end 4 [] [] onil onil 
 ·obtain⟨v1,y1,h⟩:=bm h
  replace h:=sj h;subst h
  exact x_end 23 [(17,.call [] [] (i64 v1) [])] [] (ocons (Tspec_l3Sign (Y:=Y) (w64 ((w64 ((w64 (a0.A*a1.A))+(w64 (a0.B*a1.B))))+(w64 (a0.C*a1.C)))) _ y1) onil) onil 
def Dspec_l6Clash2(a0:Pl)(a1:Pl):Option Bool :=
 (Dspec_l4Parallel a0 a1).bind fun v0=>frk (decide (v0≥0)) (some false) ((Dspec_l3Abs a1.A).bind fun v1=>(Dspec_l3Abs a1.B).bind fun v2=>(Dspec_l3Abs a1.C).bind fun v3=>(Dspec_l3Abs a0.A).bind fun v4=>(Dspec_l3Abs a0.B).bind fun v5=>(Dspec_l3Abs a0.C).bind fun v6=>some (decide ((w64 ((w64 ((w64 ((w64 (v1+v2))+v3))*a0.D))+(w64 ((w64 ((w64 (v4+v5))+v6))*a1.D))))≤0)))
theorem Tspec_l6Clash2{Y}(a0:Pl)(a1:Pl)(r:Bool)(h:Dspec_l6Clash2 a0 a1=some r):Big Tryz.prog H Y (.call 203 [.agg [i64 a0.A,i64 a0.B,i64 a0.C,i64 a0.D],.agg [i64 a1.A,i64 a1.B,i64 a1.C,i64 a1.D]] (lk []) (bl r) (lk [])):=by
 unfold Dspec_l6Clash2 at h
 refine x_call (fn:=Tryz.f203) (c:=bodyOf Tryz.f203) (bs0:=[]) Tryz.func203 (by kernel_rfl) (by kernel_rfl) ?_
 obtain⟨v0,y0,h⟩:=bm h
 refine x_frk 14 [(5,.call [] [] (i64 v0) [])] (ocons (Tspec_l4Parallel (Y:=Y) a0 a1 _ y0) onil) h (by kernel_rfl) (fun h=>?_) (fun h=>?_)
 ·replace h:=sj h;subst h
  exact x_end 4 [] [] onil onil 
 ·obtain⟨v1,y1,h⟩:=bm h
  obtain⟨v2,y2,h⟩:=bm h
  obtain⟨v3,y3,h⟩:=bm h
  obtain⟨v4,y4,h⟩:=bm h
  obtain⟨v5,y5,h⟩:=bm h
  obtain⟨v6,y6,h⟩:=bm h
  replace h:=sj h;subst h
  exact x_end 45 [(2,.call [] [] (i64 v1) []),(2,.call [] [] (i64 v2) []),(3,.call [] [] (i64 v3) []),(4,.call [] [] (i64 v4) []),(2,.call [] [] (i64 v5) []),(3,.call [] [] (i64 v6) [])] [] (ocons (Tspec_l3Abs (Y:=Y) a1.A _ y1) (ocons (Tspec_l3Abs (Y:=Y) a1.B _ y2) (ocons (Tspec_l3Abs (Y:=Y) a1.C _ y3) (ocons (Tspec_l3Abs (Y:=Y) a0.A _ y4) (ocons (Tspec_l3Abs (Y:=Y) a0.B _ y5) (ocons (Tspec_l3Abs (Y:=Y) a0.C _ y6) onil)))))) onil 
def Dspec_l4Det3(a0:Pl)(a1:Pl)(a2:Pl):Option Int :=
 (Dspec_l4Cross a1 a2).bind fun v0=>some (w64 ((w64 ((w64 (a0.A*v0.1))+(w64 (a0.B*v0.2.1))))+(w64 (a0.C*v0.2.2))))
theorem Tspec_l4Det3{Y}(a0:Pl)(a1:Pl)(a2:Pl)(r:Int)(h:Dspec_l4Det3 a0 a1 a2=some r):Big Tryz.prog H Y (.call 190 [.agg [i64 a0.A,i64 a0.B,i64 a0.C,i64 a0.D],.agg [i64 a1.A,i64 a1.B,i64 a1.C,i64 a1.D],.agg [i64 a2.A,i64 a2.B,i64 a2.C,i64 a2.D]] (lk []) (i64 r) (lk [])):=by
 unfold Dspec_l4Det3 at h
 refine x_call (fn:=Tryz.f190) (c:=bodyOf Tryz.f190) (bs0:=[]) Tryz.func190 (by kernel_rfl) (by kernel_rfl) ?_
 obtain⟨v0,y0,h⟩:=bm h
 replace h:=sj h;subst h
 exact x_end 36 [(6,.call [] [] (.agg [i64 v0.1,i64 v0.2.1,i64 v0.2.2]) [])] [] (ocons (Tspec_l4Cross (Y:=Y) a1 a2 _ y0) onil) onil 
def Dspec_l6Sum_1(_n:Nat)(rec0:(Bool×Bool×Int×Int)→Option Bool)(t0:List Int)(t1:List Int)(t5 t6:Bool)(t7 t8:Int):Option Bool :=
 (lget t0 t8).bind fun v2=>(Dspec_l3Abs v2).bind fun v3=>(lget t1 t8).bind fun v4=>rec0 (t5,t6,w64 (t7+(w64 (v3*v4))),w64 (t8+1))
theorem Tspec_l6Sum_1{Y}(n:Nat)(rec0:(Bool×Bool×Int×Int)→Option Bool)(t0:List Int)(t1:List Int)(hrec0:∀(a:(Bool×Bool×Int×Int)) (r:Bool),rec0 a=some r→Wk Tryz.prog H Y 239 [.code (cp [1,1,1,1,0,1,0] (bodyOf Tryz.f239)),.blk 0,.code (cp [1,1,1,1,1] (bodyOf Tryz.f239))] (FinX Tryz.prog Tryz.f239 [] (bl r) []) ⟨[(0,.sl false 1 t0.length ((eInt).f t0)),(1,.sl false 1 t1.length ((eInt).f t1)),(5,bl a.1),(6,bl a.2.1),(7,i64 a.2.2.1),(8,i64 a.2.2.2)],[]⟩)(t5 t6:Bool)(t7 t8:Int)(r:Bool)(h:Dspec_l6Sum_1 n rec0 t0 t1 t5 t6 t7 t8=some r):Wk Tryz.prog H Y 239 [.code (cp [1,1,1,1,0,1,0,0,1,0,0,1,1] (bodyOf Tryz.f239)),.blk 1,.code (cp [1,1,1,1,0,1,0,0,1,1] (bodyOf Tryz.f239)),.lp (cp [1,1,1,1,0,1,0] (bodyOf Tryz.f239)),.blk 0,.code (cp [1,1,1,1,1] (bodyOf Tryz.f239))] (FinX Tryz.prog Tryz.f239 [] (bl r) []) ⟨[(0,.sl false 1 t0.length ((eInt).f t0)),(1,.sl false 1 t1.length ((eInt).f t1)),(5,bl t5),(6,bl t6),(7,i64 t7),(8,i64 t8)],[]⟩:=by
 unfold Dspec_l6Sum_1 at h
 obtain⟨v2,y2,h⟩:=bm h
 obtain⟨v3,y3,h⟩:=bm h
 obtain⟨v4,y4,h⟩:=bm h
 exact x_to 22 [(3,.val (.cptr (eInt.c v2++(eInt).f ((t0).drop (Int.toNat t8+1))))),(1,.call [] [] (i64 v3) []),(2,.val (.cptr (eInt.c v4++(eInt).f ((t1).drop (Int.toNat t8+1)))))] (ocons (ix eInt y2) (ocons (Tspec_l3Abs (Y:=Y) v2 _ y3) (ocons (ix eInt y4) onil))) (hrec0 (t5,t6,w64 (t7+(w64 (v3*v4))),w64 (t8+1)) r h) 
def Dspec_l6Sum_0(n:Nat)(rec0:(Bool×Bool×Int×Int)→Option Bool)(t0:List Int)(t1:List Int)(t5 t6:Bool)(t7 t8:Int):Option Bool :=
 frk t6 ((lget t0 t8).bind fun v1=>Dspec_l6Sum_1 n rec0 t0 t1 t5 (decide (v1<0)) t7 t8) (Dspec_l6Sum_1 n rec0 t0 t1 t5 false t7 t8)
theorem Tspec_l6Sum_0{Y}(n:Nat)(rec0:(Bool×Bool×Int×Int)→Option Bool)(t0:List Int)(t1:List Int)(hrec0:∀(a:(Bool×Bool×Int×Int)) (r:Bool),rec0 a=some r→Wk Tryz.prog H Y 239 [.code (cp [1,1,1,1,0,1,0] (bodyOf Tryz.f239)),.blk 0,.code (cp [1,1,1,1,1] (bodyOf Tryz.f239))] (FinX Tryz.prog Tryz.f239 [] (bl r) []) ⟨[(0,.sl false 1 t0.length ((eInt).f t0)),(1,.sl false 1 t1.length ((eInt).f t1)),(5,bl a.1),(6,bl a.2.1),(7,i64 a.2.2.1),(8,i64 a.2.2.2)],[]⟩)(t5 t6:Bool)(t7 t8:Int)(r:Bool)(h:Dspec_l6Sum_0 n rec0 t0 t1 t5 t6 t7 t8=some r):Wk Tryz.prog H Y 239 [.code (cp [1,1,1,1,0,1,0,0,1,0,0,1,0] (bodyOf Tryz.f239)),.code (cp [1,1,1,1,0,1,0,0,1,0,0,1,1] (bodyOf Tryz.f239)),.blk 1,.code (cp [1,1,1,1,0,1,0,0,1,1] (bodyOf Tryz.f239)),.lp (cp [1,1,1,1,0,1,0] (bodyOf Tryz.f239)),.blk 0,.code (cp [1,1,1,1,1] (bodyOf Tryz.f239))] (FinX Tryz.prog Tryz.f239 [] (bl r) []) ⟨[(0,.sl false 1 t0.length ((eInt).f t0)),(1,.sl false 1 t1.length ((eInt).f t1)),(5,bl t5),(6,bl t6),(7,i64 t7),(8,i64 t8)],[]⟩:=by
 unfold Dspec_l6Sum_0 at h
 refine x_frk 3 [] onil h (by kernel_rfl) (fun h=>?_) (fun h=>?_)
 ·obtain⟨v1,y1,h⟩:=bm h
  exact x_to 8 [(2,.val (.cptr (eInt.c v1++(eInt).f ((t0).drop (Int.toNat t8+1)))))] (ocons (ix eInt y1) onil) (Tspec_l6Sum_1 n rec0 t0 t1 hrec0 t5 (decide (v1<0)) t7 t8 r h) 
 ·exact x_to 8 [] onil (Tspec_l6Sum_1 n rec0 t0 t1 hrec0 t5 false t7 t8 r h) 
def Dspec_l6Sum_2(_n:Nat)(t5 t6:Bool)(t7:Int):Option Bool :=
 frk t5 (some (decide (t7≤0))) (frk t6 (some (decide (t7≤0))) (some false))
theorem Tspec_l6Sum_2{Y}(n:Nat)(t5 t6:Bool)(t7:Int)(r:Bool)(h:Dspec_l6Sum_2 n t5 t6 t7=some r):Wk Tryz.prog H Y 239 [.code (cp [1,1,1,1,1,0] (bodyOf Tryz.f239)),.code (cp [1,1,1,1,1,1] (bodyOf Tryz.f239))] (FinX Tryz.prog Tryz.f239 [] (bl r) []) ⟨[(5,bl t5),(6,bl t6),(7,i64 t7)],[]⟩:=by
 unfold Dspec_l6Sum_2 at h
 refine x_frk 3 [] onil h (by kernel_rfl) (fun h=>?_) (fun h=>?_)
 ·replace h:=sj h;subst h
  exact x_end 8 [] [] onil onil 
 ·refine x_frk 3 [] onil h (by kernel_rfl) (fun h=>?_) (fun h=>?_)
  ·replace h:=sj h;subst h
   exact x_end 5 [] [] onil onil 
  ·replace h:=sj h;subst h
   exact x_end 5 [] [] onil onil 
def Dspec_l6Sum_3(n:Nat)(t0:List Int)(t1:List Int)(rec0:(Bool×Bool×Int×Int)→Option Bool)(a:(Bool×Bool×Int×Int)):Option Bool :=
 match a with
 | (t5,t6,t7,t8)=>frk (decide (t8<(t0.length:Int))) (frk t5 ((lget t0 t8).bind fun v0=>Dspec_l6Sum_0 n rec0 t0 t1 (decide (v0>0)) t6 t7 t8) (Dspec_l6Sum_0 n rec0 t0 t1 false t6 t7 t8)) (Dspec_l6Sum_2 n t5 t6 t7)
theorem Tspec_l6Sum_3{Y}(n:Nat)(t0:List Int)(t1:List Int):∀(m:Nat) (a:(Bool×Bool×Int×Int)) (r:Bool),loopN (Dspec_l6Sum_3 n t0 t1) m a=some r→Wk Tryz.prog H Y 239 [.code (cp [1,1,1,1,0,1,0] (bodyOf Tryz.f239)),.blk 0,.code (cp [1,1,1,1,1] (bodyOf Tryz.f239))] (FinX Tryz.prog Tryz.f239 [] (bl r) []) ⟨[(0,.sl false 1 t0.length ((eInt).f t0)),(1,.sl false 1 t1.length ((eInt).f t1)),(5,bl a.1),(6,bl a.2.1),(7,i64 a.2.2.1),(8,i64 a.2.2.2)],[]⟩:=by
 refine loopN_ind (fun rec0 hrec0 a r h=>?_)
 obtain⟨t5,t6,t7,t8⟩:=a
 unfold Dspec_l6Sum_3 at h
 refine x_frk 9 [] onil h (by kernel_rfl) (fun h=>?_) (fun h=>?_)
 ·refine x_frk 7 [] onil h (by kernel_rfl) (fun h=>?_) (fun h=>?_)
  ·obtain⟨v0,y0,h⟩:=bm h
   exact x_to 9 [(2,.val (.cptr (eInt.c v0++(eInt).f ((t0).drop (Int.toNat t8+1)))))] (ocons (ix eInt y0) onil) (Tspec_l6Sum_0 n rec0 t0 t1 hrec0 (decide (v0>0)) t6 t7 t8 r h) 
  ·exact x_to 9 [] onil (Tspec_l6Sum_0 n rec0 t0 t1 hrec0 false t6 t7 t8 r h) 
 ·exact x_to 2 [] onil (Tspec_l6Sum_2 n t5 t6 t7 r h) 
def Dspec_l6Sum(n:Nat)(a0:(List Int))(a1:(List Int)):Option Bool :=
 loopN (Dspec_l6Sum_3 n a0 a1) n (true,true,0,0)
theorem Tspec_l6Sum{Y}(n:Nat)(a0:(List Int))(a1:(List Int))(r:Bool)(h:Dspec_l6Sum n a0 a1=some r):Big Tryz.prog H Y (.call 239 [.sl false 1 a0.length ((eInt).f a0),.sl false 1 a1.length ((eInt).f a1)] (lk []) (bl r) (lk [])):=by
 unfold Dspec_l6Sum at h
 refine x_call (fn:=Tryz.f239) (c:=bodyOf Tryz.f239) (bs0:=[]) Tryz.func239 (by kernel_rfl) (by kernel_rfl) ?_
 exact x_to 22 [] onil (Tspec_l6Sum_3 n a0 a1 n (true,true,0,0) r h) 
def Dspec_l6Clash3_0(n:Nat)(_zg _zh _zi zj _zk _zl _zm zn _zo _zp _zq zr zs _zt _zu zv _zw _zx zy _zz _zaa:Int):Option Bool :=
 (Dspec_l6Sum n [zs,zv,zy] [zj,zn,zr]).bind fun v4=>some v4
theorem Tspec_l6Clash3_0{Y}(n:Nat)(zg zh zi zj zk zl zm zn zo zp zq zr zs zt zu zv zw zx zy zz zaa:Int)(r:Bool)(h:Dspec_l6Clash3_0 n zg zh zi zj zk zl zm zn zo zp zq zr zs zt zu zv zw zx zy zz zaa=some r):Wk Tryz.prog H Y 204 [.code (cp [1,1,1,1,1,0,1,0,0,1,0,0,1,0,0] (bodyOf Tryz.f204)),.code (cp [1,1,1,1,1,0,1,0,0,1,0,0,1,0,1] (bodyOf Tryz.f204)),.blk 1,.code (cp [1,1,1,1,1,0,1,0,0,1,1] (bodyOf Tryz.f204)),.lp (cp [1,1,1,1,1,0,1,0] (bodyOf Tryz.f204)),.blk 0,.code (cp [1,1,1,1,1,1] (bodyOf Tryz.f204))] (FinX Tryz.prog Tryz.f204 [] (bl r) []) ⟨[(3,.ptr 3 0),(4,.ptr 4 0),(5,.ptr 5 0),(7,.ptr 7 0),(8,.ptr 8 0),(9,.ptr 9 0),(10,i64 0)],[(3,⟨true,0,[i64 zg,i64 zh,i64 zi,i64 zj]⟩),(4,⟨true,0,[i64 zk,i64 zl,i64 zm,i64 zn]⟩),(5,⟨true,0,[i64 zo,i64 zp,i64 zq,i64 zr]⟩),(7,⟨true,0,[i64 zs,i64 zt,i64 zu]⟩),(8,⟨true,0,[i64 zv,i64 zw,i64 zx]⟩),(9,⟨true,0,[i64 zy,i64 zz,i64 zaa]⟩)]⟩:=by
 unfold Dspec_l6Clash3_0 at h
 obtain⟨v4,y4,h⟩:=bm h
 replace h:=sj h;subst h
 exact x_end 21 [(17,.call [] [(eInt).f [zj,zn,zr],(eInt).f [zs,zv,zy]] (bl v4) [])] [] (ocons (Tspec_l6Sum (Y:=Y) n [zs,zv,zy] [zj,zn,zr] _ y4) (ocons (len_row (L:=[zs,zv,zy]) eInt) (ocons (Enc.share eInt eInt sInt [zs,zv,zy]) (ocons (len_row (L:=[zj,zn,zr]) eInt) (ocons (Enc.share eInt eInt sInt [zj,zn,zr]) onil))))) onil 
def Dspec_l6Clash3_2(n:Nat)(_zg _zh _zi zj _zk _zl _zm zn _zo _zp _zq zr _zs zt _zu _zv zw _zx _zy zz _zaa:Int):Option Bool :=
 (Dspec_l6Sum n [zt,zw,zz] [zj,zn,zr]).bind fun v6=>some v6
theorem Tspec_l6Clash3_2{Y}(n:Nat)(zg zh zi zj zk zl zm zn zo zp zq zr zs zt zu zv zw zx zy zz zaa:Int)(r:Bool)(h:Dspec_l6Clash3_2 n zg zh zi zj zk zl zm zn zo zp zq zr zs zt zu zv zw zx zy zz zaa=some r):Wk Tryz.prog H Y 204 [.code (cp [1,1,1,1,1,0,1,0,0,1,0,0,1,0,0] (bodyOf Tryz.f204)),.code (cp [1,1,1,1,1,0,1,0,0,1,0,0,1,0,1] (bodyOf Tryz.f204)),.blk 1,.code (cp [1,1,1,1,1,0,1,0,0,1,1] (bodyOf Tryz.f204)),.lp (cp [1,1,1,1,1,0,1,0] (bodyOf Tryz.f204)),.blk 0,.code (cp [1,1,1,1,1,1] (bodyOf Tryz.f204))] (FinX Tryz.prog Tryz.f204 [] (bl r) []) ⟨[(3,.ptr 3 0),(4,.ptr 4 0),(5,.ptr 5 0),(7,.ptr 7 0),(8,.ptr 8 0),(9,.ptr 9 0),(10,i64 1)],[(3,⟨true,0,[i64 zg,i64 zh,i64 zi,i64 zj]⟩),(4,⟨true,0,[i64 zk,i64 zl,i64 zm,i64 zn]⟩),(5,⟨true,0,[i64 zo,i64 zp,i64 zq,i64 zr]⟩),(7,⟨true,0,[i64 zs,i64 zt,i64 zu]⟩),(8,⟨true,0,[i64 zv,i64 zw,i64 zx]⟩),(9,⟨true,0,[i64 zy,i64 zz,i64 zaa]⟩)]⟩:=by
 unfold Dspec_l6Clash3_2 at h
 obtain⟨v6,y6,h⟩:=bm h
 replace h:=sj h;subst h
 exact x_end 21 [(17,.call [] [(eInt).f [zj,zn,zr],(eInt).f [zt,zw,zz]] (bl v6) [])] [] (ocons (Tspec_l6Sum (Y:=Y) n [zt,zw,zz] [zj,zn,zr] _ y6) (ocons (len_row (L:=[zt,zw,zz]) eInt) (ocons (Enc.share eInt eInt sInt [zt,zw,zz]) (ocons (len_row (L:=[zj,zn,zr]) eInt) (ocons (Enc.share eInt eInt sInt [zj,zn,zr]) onil))))) onil 
def Dspec_l6Clash3_4(n:Nat)(_zg _zh _zi zj _zk _zl _zm zn _zo _zp _zq zr _zs _zt zu _zv _zw zx _zy _zz zaa:Int):Option Bool :=
 (Dspec_l6Sum n [zu,zx,zaa] [zj,zn,zr]).bind fun v8=>some v8
theorem Tspec_l6Clash3_4{Y}(n:Nat)(zg zh zi zj zk zl zm zn zo zp zq zr zs zt zu zv zw zx zy zz zaa:Int)(r:Bool)(h:Dspec_l6Clash3_4 n zg zh zi zj zk zl zm zn zo zp zq zr zs zt zu zv zw zx zy zz zaa=some r):Wk Tryz.prog H Y 204 [.code (cp [1,1,1,1,1,0,1,0,0,1,0,0,1,0,0] (bodyOf Tryz.f204)),.code (cp [1,1,1,1,1,0,1,0,0,1,0,0,1,0,1] (bodyOf Tryz.f204)),.blk 1,.code (cp [1,1,1,1,1,0,1,0,0,1,1] (bodyOf Tryz.f204)),.lp (cp [1,1,1,1,1,0,1,0] (bodyOf Tryz.f204)),.blk 0,.code (cp [1,1,1,1,1,1] (bodyOf Tryz.f204))] (FinX Tryz.prog Tryz.f204 [] (bl r) []) ⟨[(3,.ptr 3 0),(4,.ptr 4 0),(5,.ptr 5 0),(7,.ptr 7 0),(8,.ptr 8 0),(9,.ptr 9 0),(10,i64 2)],[(3,⟨true,0,[i64 zg,i64 zh,i64 zi,i64 zj]⟩),(4,⟨true,0,[i64 zk,i64 zl,i64 zm,i64 zn]⟩),(5,⟨true,0,[i64 zo,i64 zp,i64 zq,i64 zr]⟩),(7,⟨true,0,[i64 zs,i64 zt,i64 zu]⟩),(8,⟨true,0,[i64 zv,i64 zw,i64 zx]⟩),(9,⟨true,0,[i64 zy,i64 zz,i64 zaa]⟩)]⟩:=by
 unfold Dspec_l6Clash3_4 at h
 obtain⟨v8,y8,h⟩:=bm h
 replace h:=sj h;subst h
 exact x_end 21 [(17,.call [] [(eInt).f [zj,zn,zr],(eInt).f [zu,zx,zaa]] (bl v8) [])] [] (ocons (Tspec_l6Sum (Y:=Y) n [zu,zx,zaa] [zj,zn,zr] _ y8) (ocons (len_row (L:=[zu,zx,zaa]) eInt) (ocons (Enc.share eInt eInt sInt [zu,zx,zaa]) (ocons (len_row (L:=[zj,zn,zr]) eInt) (ocons (Enc.share eInt eInt sInt [zj,zn,zr]) onil))))) onil 
def Dspec_l6Clash3_5(n:Nat)(t44:Bool)(_zg _zh _zi zj _zk _zl _zm zn _zo _zp _zq zr _zs _zt zu _zv _zw zx _zy _zz zaa:Int):Option Bool :=
 frk t44 ((Dspec_l6Sum n [zu,zx,zaa] [zj,zn,zr]).bind fun v9=>some v9) (some false)
theorem Tspec_l6Clash3_5{Y}(n:Nat)(t44:Bool)(zg zh zi zj zk zl zm zn zo zp zq zr zs zt zu zv zw zx zy zz zaa:Int)(r:Bool)(h:Dspec_l6Clash3_5 n t44 zg zh zi zj zk zl zm zn zo zp zq zr zs zt zu zv zw zx zy zz zaa=some r):Wk Tryz.prog H Y 204 [.code (cp [1,1,1,1,1,0,1,0,0,1,0,0,1] (bodyOf Tryz.f204)),.blk 1,.code (cp [1,1,1,1,1,0,1,0,0,1,1] (bodyOf Tryz.f204)),.lp (cp [1,1,1,1,1,0,1,0] (bodyOf Tryz.f204)),.blk 0,.code (cp [1,1,1,1,1,1] (bodyOf Tryz.f204))] (FinX Tryz.prog Tryz.f204 [] (bl r) []) ⟨[(3,.ptr 3 0),(4,.ptr 4 0),(5,.ptr 5 0),(7,.ptr 7 0),(8,.ptr 8 0),(9,.ptr 9 0),(10,i64 2),(44,bl t44)],[(3,⟨true,0,[i64 zg,i64 zh,i64 zi,i64 zj]⟩),(4,⟨true,0,[i64 zk,i64 zl,i64 zm,i64 zn]⟩),(5,⟨true,0,[i64 zo,i64 zp,i64 zq,i64 zr]⟩),(7,⟨true,0,[i64 zs,i64 zt,i64 zu]⟩),(8,⟨true,0,[i64 zv,i64 zw,i64 zx]⟩),(9,⟨true,0,[i64 zy,i64 zz,i64 zaa]⟩)]⟩:=by
 unfold Dspec_l6Clash3_5 at h
 refine x_frk 0 [] onil h (by kernel_rfl) (fun h=>?_) (fun h=>?_)
 ·obtain⟨v9,y9,h⟩:=bm h
  replace h:=sj h;subst h
  exact x_end 22 [(17,.call [] [(eInt).f [zj,zn,zr],(eInt).f [zu,zx,zaa]] (bl v9) [])] [] (ocons (Tspec_l6Sum (Y:=Y) n [zu,zx,zaa] [zj,zn,zr] _ y9) (ocons (len_row (L:=[zu,zx,zaa]) eInt) (ocons (Enc.share eInt eInt sInt [zu,zx,zaa]) (ocons (len_row (L:=[zj,zn,zr]) eInt) (ocons (Enc.share eInt eInt sInt [zj,zn,zr]) onil))))) onil 
 ·replace h:=sj h;subst h
  exact x_end 21 [] [] onil onil 
def Dspec_l6Clash3_3(n:Nat)(t44:Bool)(zg zh zi zj zk zl zm zn zo zp zq zr zs zt zu zv zw zx zy zz zaa:Int):Option Bool :=
 frk t44 ((Dspec_l6Sum n [zt,zw,zz] [zj,zn,zr]).bind fun v7=>some v7) (frk (zu != 0) (Dspec_l6Clash3_4 n zg zh zi zj zk zl zm zn zo zp zq zr zs zt zu zv zw zx zy zz zaa) (frk (zx != 0) (Dspec_l6Clash3_4 n zg zh zi zj zk zl zm zn zo zp zq zr zs zt zu zv zw zx zy zz zaa) (Dspec_l6Clash3_5 n (zaa != 0) zg zh zi zj zk zl zm zn zo zp zq zr zs zt zu zv zw zx zy zz zaa)))
theorem Tspec_l6Clash3_3{Y}(n:Nat)(t44:Bool)(zg zh zi zj zk zl zm zn zo zp zq zr zs zt zu zv zw zx zy zz zaa:Int)(r:Bool)(h:Dspec_l6Clash3_3 n t44 zg zh zi zj zk zl zm zn zo zp zq zr zs zt zu zv zw zx zy zz zaa=some r):Wk Tryz.prog H Y 204 [.code (cp [1,1,1,1,1,0,1,0,0,1,0,0,1] (bodyOf Tryz.f204)),.blk 1,.code (cp [1,1,1,1,1,0,1,0,0,1,1] (bodyOf Tryz.f204)),.lp (cp [1,1,1,1,1,0,1,0] (bodyOf Tryz.f204)),.blk 0,.code (cp [1,1,1,1,1,1] (bodyOf Tryz.f204))] (FinX Tryz.prog Tryz.f204 [] (bl r) []) ⟨[(3,.ptr 3 0),(4,.ptr 4 0),(5,.ptr 5 0),(7,.ptr 7 0),(8,.ptr 8 0),(9,.ptr 9 0),(10,i64 1),(44,bl t44)],[(3,⟨true,0,[i64 zg,i64 zh,i64 zi,i64 zj]⟩),(4,⟨true,0,[i64 zk,i64 zl,i64 zm,i64 zn]⟩),(5,⟨true,0,[i64 zo,i64 zp,i64 zq,i64 zr]⟩),(7,⟨true,0,[i64 zs,i64 zt,i64 zu]⟩),(8,⟨true,0,[i64 zv,i64 zw,i64 zx]⟩),(9,⟨true,0,[i64 zy,i64 zz,i64 zaa]⟩)]⟩:=by
 unfold Dspec_l6Clash3_3 at h
 refine x_frk 0 [] onil h (by kernel_rfl) (fun h=>?_) (fun h=>?_)
 ·obtain⟨v7,y7,h⟩:=bm h
  replace h:=sj h;subst h
  exact x_end 22 [(17,.call [] [(eInt).f [zj,zn,zr],(eInt).f [zt,zw,zz]] (bl v7) [])] [] (ocons (Tspec_l6Sum (Y:=Y) n [zt,zw,zz] [zj,zn,zr] _ y7) (ocons (len_row (L:=[zt,zw,zz]) eInt) (ocons (Enc.share eInt eInt sInt [zt,zw,zz]) (ocons (len_row (L:=[zj,zn,zr]) eInt) (ocons (Enc.share eInt eInt sInt [zj,zn,zr]) onil))))) onil 
 ·refine x_frk 26 [] onil h (by kernel_rfl) (fun h=>?_) (fun h=>?_)
  ·exact x_to 14 [] onil (Tspec_l6Clash3_4 n zg zh zi zj zk zl zm zn zo zp zq zr zs zt zu zv zw zx zy zz zaa r h) 
  ·refine x_frk 6 [] onil h (by kernel_rfl) (fun h=>?_) (fun h=>?_)
   ·exact x_to 8 [] onil (Tspec_l6Clash3_4 n zg zh zi zj zk zl zm zn zo zp zq zr zs zt zu zv zw zx zy zz zaa r h) 
   ·exact x_to 6 [] onil (Tspec_l6Clash3_5 n (zaa != 0) zg zh zi zj zk zl zm zn zo zp zq zr zs zt zu zv zw zx zy zz zaa r h) 
def Dspec_l6Clash3_1(n:Nat)(t44:Bool)(zg zh zi zj zk zl zm zn zo zp zq zr zs zt zu zv zw zx zy zz zaa:Int):Option Bool :=
 frk t44 ((Dspec_l6Sum n [zs,zv,zy] [zj,zn,zr]).bind fun v5=>some v5) (frk (zt != 0) (Dspec_l6Clash3_2 n zg zh zi zj zk zl zm zn zo zp zq zr zs zt zu zv zw zx zy zz zaa) (frk (zw != 0) (Dspec_l6Clash3_2 n zg zh zi zj zk zl zm zn zo zp zq zr zs zt zu zv zw zx zy zz zaa) (Dspec_l6Clash3_3 n (zz != 0) zg zh zi zj zk zl zm zn zo zp zq zr zs zt zu zv zw zx zy zz zaa)))
theorem Tspec_l6Clash3_1{Y}(n:Nat)(t44:Bool)(zg zh zi zj zk zl zm zn zo zp zq zr zs zt zu zv zw zx zy zz zaa:Int)(r:Bool)(h:Dspec_l6Clash3_1 n t44 zg zh zi zj zk zl zm zn zo zp zq zr zs zt zu zv zw zx zy zz zaa=some r):Wk Tryz.prog H Y 204 [.code (cp [1,1,1,1,1,0,1,0,0,1,0,0,1] (bodyOf Tryz.f204)),.blk 1,.code (cp [1,1,1,1,1,0,1,0,0,1,1] (bodyOf Tryz.f204)),.lp (cp [1,1,1,1,1,0,1,0] (bodyOf Tryz.f204)),.blk 0,.code (cp [1,1,1,1,1,1] (bodyOf Tryz.f204))] (FinX Tryz.prog Tryz.f204 [] (bl r) []) ⟨[(3,.ptr 3 0),(4,.ptr 4 0),(5,.ptr 5 0),(7,.ptr 7 0),(8,.ptr 8 0),(9,.ptr 9 0),(10,i64 0),(44,bl t44)],[(3,⟨true,0,[i64 zg,i64 zh,i64 zi,i64 zj]⟩),(4,⟨true,0,[i64 zk,i64 zl,i64 zm,i64 zn]⟩),(5,⟨true,0,[i64 zo,i64 zp,i64 zq,i64 zr]⟩),(7,⟨true,0,[i64 zs,i64 zt,i64 zu]⟩),(8,⟨true,0,[i64 zv,i64 zw,i64 zx]⟩),(9,⟨true,0,[i64 zy,i64 zz,i64 zaa]⟩)]⟩:=by
 unfold Dspec_l6Clash3_1 at h
 refine x_frk 0 [] onil h (by kernel_rfl) (fun h=>?_) (fun h=>?_)
 ·obtain⟨v5,y5,h⟩:=bm h
  replace h:=sj h;subst h
  exact x_end 22 [(17,.call [] [(eInt).f [zj,zn,zr],(eInt).f [zs,zv,zy]] (bl v5) [])] [] (ocons (Tspec_l6Sum (Y:=Y) n [zs,zv,zy] [zj,zn,zr] _ y5) (ocons (len_row (L:=[zs,zv,zy]) eInt) (ocons (Enc.share eInt eInt sInt [zs,zv,zy]) (ocons (len_row (L:=[zj,zn,zr]) eInt) (ocons (Enc.share eInt eInt sInt [zj,zn,zr]) onil))))) onil 
 ·refine x_frk 26 [] onil h (by kernel_rfl) (fun h=>?_) (fun h=>?_)
  ·exact x_to 14 [] onil (Tspec_l6Clash3_2 n zg zh zi zj zk zl zm zn zo zp zq zr zs zt zu zv zw zx zy zz zaa r h) 
  ·refine x_frk 6 [] onil h (by kernel_rfl) (fun h=>?_) (fun h=>?_)
   ·exact x_to 8 [] onil (Tspec_l6Clash3_2 n zg zh zi zj zk zl zm zn zo zp zq zr zs zt zu zv zw zx zy zz zaa r h) 
   ·exact x_to 6 [] onil (Tspec_l6Clash3_3 n (zz != 0) zg zh zi zj zk zl zm zn zo zp zq zr zs zt zu zv zw zx zy zz zaa r h) 
def Dspec_l6Clash3(n:Nat)(a0:Pl)(a1:Pl)(a2:Pl):Option Bool :=
 (Dspec_l4Det3 a0 a1 a2).bind fun v0=>frk (v0 != 0) (some false) ((Dspec_l4Cross a1 a2).bind fun v1=>(Dspec_l4Cross a2 a0).bind fun v2=>(Dspec_l4Cross a0 a1).bind fun v3=>frk (v1.1 != 0) (Dspec_l6Clash3_0 n a0.A a0.B a0.C a0.D a1.A a1.B a1.C a1.D a2.A a2.B a2.C a2.D v1.1 v1.2.1 v1.2.2 v2.1 v2.2.1 v2.2.2 v3.1 v3.2.1 v3.2.2) (frk (v2.1 != 0) (Dspec_l6Clash3_0 n a0.A a0.B a0.C a0.D a1.A a1.B a1.C a1.D a2.A a2.B a2.C a2.D v1.1 v1.2.1 v1.2.2 v2.1 v2.2.1 v2.2.2 v3.1 v3.2.1 v3.2.2) (Dspec_l6Clash3_1 n (v3.1 != 0) a0.A a0.B a0.C a0.D a1.A a1.B a1.C a1.D a2.A a2.B a2.C a2.D v1.1 v1.2.1 v1.2.2 v2.1 v2.2.1 v2.2.2 v3.1 v3.2.1 v3.2.2)))
theorem Tspec_l6Clash3{Y}(n:Nat)(a0:Pl)(a1:Pl)(a2:Pl)(r:Bool)(h:Dspec_l6Clash3 n a0 a1 a2=some r):Big Tryz.prog H Y (.call 204 [.agg [i64 a0.A,i64 a0.B,i64 a0.C,i64 a0.D],.agg [i64 a1.A,i64 a1.B,i64 a1.C,i64 a1.D],.agg [i64 a2.A,i64 a2.B,i64 a2.C,i64 a2.D]] (lk []) (bl r) (lk [])):=by
 unfold Dspec_l6Clash3 at h
 refine x_call (fn:=Tryz.f204) (c:=bodyOf Tryz.f204) (bs0:=[]) Tryz.func204 (by kernel_rfl) (by kernel_rfl) ?_
 obtain⟨v0,y0,h⟩:=bm h
 refine x_frk 16 [(7,.call [] [] (i64 v0) [])] (ocons (Tspec_l4Det3 (Y:=Y) a0 a1 a2 _ y0) onil) h (by kernel_rfl) (fun h=>?_) (fun h=>?_)
 ·replace h:=sj h;subst h
  exact x_end 4 [] [] onil onil 
 ·obtain⟨v1,y1,h⟩:=bm h
  obtain⟨v2,y2,h⟩:=bm h
  obtain⟨v3,y3,h⟩:=bm h
  refine x_frk 49 [(2,.call [] [] (.agg [i64 v1.1,i64 v1.2.1,i64 v1.2.2]) []),(4,.call [] [] (.agg [i64 v2.1,i64 v2.2.1,i64 v2.2.2]) []),(4,.call [] [] (.agg [i64 v3.1,i64 v3.2.1,i64 v3.2.2]) [])] (ocons (Tspec_l4Cross (Y:=Y) a1 a2 _ y1) (ocons (Tspec_l4Cross (Y:=Y) a2 a0 _ y2) (ocons (Tspec_l4Cross (Y:=Y) a0 a1 _ y3) onil))) h (by kernel_rfl) (fun h=>?_) (fun h=>?_)
  ·exact x_to 14 [] onil (Tspec_l6Clash3_0 n a0.A a0.B a0.C a0.D a1.A a1.B a1.C a1.D a2.A a2.B a2.C a2.D v1.1 v1.2.1 v1.2.2 v2.1 v2.2.1 v2.2.2 v3.1 v3.2.1 v3.2.2 r h) 
  ·refine x_frk 6 [] onil h (by kernel_rfl) (fun h=>?_) (fun h=>?_)
   ·exact x_to 8 [] onil (Tspec_l6Clash3_0 n a0.A a0.B a0.C a0.D a1.A a1.B a1.C a1.D a2.A a2.B a2.C a2.D v1.1 v1.2.1 v1.2.2 v2.1 v2.2.1 v2.2.2 v3.1 v3.2.1 v3.2.2 r h) 
   ·exact x_to 6 [] onil (Tspec_l6Clash3_1 n (v3.1 != 0) a0.A a0.B a0.C a0.D a1.A a1.B a1.C a1.D a2.A a2.B a2.C a2.D v1.1 v1.2.1 v1.2.2 v2.1 v2.2.1 v2.2.2 v3.1 v3.2.1 v3.2.2 r h) 
def Dspec_l6Clash4(n:Nat)(a0:Pl)(a1:Pl)(a2:Pl)(a3:Pl):Option Bool :=
 (Dspec_l4Det3 a1 a2 a3).bind fun v0=>(Dspec_l4Det3 a0 a2 a3).bind fun v1=>(Dspec_l4Det3 a0 a1 a3).bind fun v2=>(Dspec_l4Det3 a0 a1 a2).bind fun v3=>(Dspec_l6Sum n [v0,w64 (0-v1),v2,w64 (0-v3)] [a0.D,a1.D,a2.D,a3.D]).bind fun v4=>some v4
theorem Tspec_l6Clash4{Y}(n:Nat)(a0:Pl)(a1:Pl)(a2:Pl)(a3:Pl)(r:Bool)(h:Dspec_l6Clash4 n a0 a1 a2 a3=some r):Big Tryz.prog H Y (.call 205 [.agg [i64 a0.A,i64 a0.B,i64 a0.C,i64 a0.D],.agg [i64 a1.A,i64 a1.B,i64 a1.C,i64 a1.D],.agg [i64 a2.A,i64 a2.B,i64 a2.C,i64 a2.D],.agg [i64 a3.A,i64 a3.B,i64 a3.C,i64 a3.D]] (lk []) (bl r) (lk [])):=by
 unfold Dspec_l6Clash4 at h
 refine x_call (fn:=Tryz.f205) (c:=bodyOf Tryz.f205) (bs0:=[]) Tryz.func205 (by kernel_rfl) (by kernel_rfl) ?_
 obtain⟨v0,y0,h⟩:=bm h
 obtain⟨v1,y1,h⟩:=bm h
 obtain⟨v2,y2,h⟩:=bm h
 obtain⟨v3,y3,h⟩:=bm h
 obtain⟨v4,y4,h⟩:=bm h
 replace h:=sj h;subst h
 exact x_end 46 [(8,.call [] [] (i64 v0) []),(3,.call [] [] (i64 v1) []),(4,.call [] [] (i64 v2) []),(3,.call [] [] (i64 v3) []),(13,.call [] [(eInt).f [a0.D,a1.D,a2.D,a3.D],(eInt).f [v0,w64 (0-v1),v2,w64 (0-v3)]] (bl v4) [])] [] (ocons (Tspec_l4Det3 (Y:=Y) a1 a2 a3 _ y0) (ocons (Tspec_l4Det3 (Y:=Y) a0 a2 a3 _ y1) (ocons (Tspec_l4Det3 (Y:=Y) a0 a1 a3 _ y2) (ocons (Tspec_l4Det3 (Y:=Y) a0 a1 a2 _ y3) (ocons (Tspec_l6Sum (Y:=Y) n [v0,w64 (0-v1),v2,w64 (0-v3)] [a0.D,a1.D,a2.D,a3.D] _ y4) (ocons (len_row (L:=[v0,w64 (0-v1),v2,w64 (0-v3)]) eInt) (ocons (Enc.share eInt eInt sInt [v0,w64 (0-v1),v2,w64 (0-v3)]) (ocons (len_row (L:=[a0.D,a1.D,a2.D,a3.D]) eInt) (ocons (Enc.share eInt eInt sInt [a0.D,a1.D,a2.D,a3.D]) onil))))))))) onil 
def Dspec_l6With_0(n:Nat)(rec1:Int→Option Bool)(_rec0:Int→Option Bool)(t6:Int)(t0:List Pl)(t5 zg zh zi zj t7:Int)(rec2:Int→Option Bool)(a:Int):Option Bool :=
 match a with
 | t8=>frk (decide (t8<t5)) ((lget t0 t6).bind fun v5=>(lget t0 t7).bind fun v6=>(lget t0 t8).bind fun v7=>(Dspec_l6Clash4 n v5 v6 v7 (Pl.mk zg zh zi zj)).bind fun v8=>frk v8 (some true) (rec2 (w64 (t8+1)))) (rec1 (w64 (t7+1)))
theorem Tspec_l6With_0{Y}(n:Nat)(rec1:Int→Option Bool)(rec0:Int→Option Bool)(t6:Int)(t0:List Pl)(t5 zg zh zi zj:Int)(hrec1:∀(a:Int) (r:Bool),rec1 a=some r→Wk Tryz.prog H Y 152 [.code (cp [1,1,0,1,0,0,1,0,0,1,1,0] (bodyOf Tryz.f152)),.blk 2,.blk 1,.code (cp [1,1,0,1,0,0,1,1] (bodyOf Tryz.f152)),.lp (cp [1,1,0,1,0] (bodyOf Tryz.f152)),.blk 0,.code (cp [1,1,1] (bodyOf Tryz.f152))] (FinX Tryz.prog Tryz.f152 [] (bl r) []) ⟨[(0,.sl false 4 t0.length ((ePl).f t0)),(3,.ptr 3 0),(5,i64 t5),(6,i64 t6),(7,i64 a)],[(3,⟨true,0,[i64 zg,i64 zh,i64 zi,i64 zj]⟩)]⟩)(_hrec0:∀(a:Int) (r:Bool),rec0 a=some r→Wk Tryz.prog H Y 152 [.code (cp [1,1,0,1,0] (bodyOf Tryz.f152)),.blk 0,.code (cp [1,1,1] (bodyOf Tryz.f152))] (FinX Tryz.prog Tryz.f152 [] (bl r) []) ⟨[(0,.sl false 4 t0.length ((ePl).f t0)),(3,.ptr 3 0),(5,i64 t5),(6,i64 a)],[(3,⟨true,0,[i64 zg,i64 zh,i64 zi,i64 zj]⟩)]⟩)(t7:Int):∀(m:Nat) (a:Int) (r:Bool),loopN (Dspec_l6With_0 n rec1 rec0 t6 t0 t5 zg zh zi zj t7) m a=some r→Wk Tryz.prog H Y 152 [.code (cp [1,1,0,1,0,0,1,0,0,1,1,0,0,1,0,0,1,1,0] (bodyOf Tryz.f152)),.blk 4,.blk 3,.code (cp [1,1,0,1,0,0,1,0,0,1,1,0,0,1,1] (bodyOf Tryz.f152)),.lp (cp [1,1,0,1,0,0,1,0,0,1,1,0] (bodyOf Tryz.f152)),.blk 2,.blk 1,.code (cp [1,1,0,1,0,0,1,1] (bodyOf Tryz.f152)),.lp (cp [1,1,0,1,0] (bodyOf Tryz.f152)),.blk 0,.code (cp [1,1,1] (bodyOf Tryz.f152))] (FinX Tryz.prog Tryz.f152 [] (bl r) []) ⟨[(0,.sl false 4 t0.length ((ePl).f t0)),(3,.ptr 3 0),(5,i64 t5),(6,i64 t6),(7,i64 t7),(8,i64 a)],[(3,⟨true,0,[i64 zg,i64 zh,i64 zi,i64 zj]⟩)]⟩:=by
 refine loopN_ind (fun _rec2 hrec2 a r h=>?_)
 obtain⟨t8,rfl⟩:∃x,x=a:=⟨a,rfl⟩
 unfold Dspec_l6With_0 at h
 refine x_frk 8 [] onil h (by kernel_rfl) (fun h=>?_) (fun h=>?_)
 ·obtain⟨v5,y5,h⟩:=bm h
  obtain⟨v6,y6,h⟩:=bm h
  obtain⟨v7,y7,h⟩:=bm h
  obtain⟨v8,y8,h⟩:=bm h
  refine x_frk 20 [(2,.val (.cptr (ePl.c v5++(ePl).f ((t0).drop (Int.toNat t6+1))))),(3,.val (.cptr (ePl.c v6++(ePl).f ((t0).drop (Int.toNat t7+1))))),(3,.val (.cptr (ePl.c v7++(ePl).f ((t0).drop (Int.toNat t8+1))))),(2,.call [] [] (bl v8) [])] (ocons (ix ePl y5) (ocons (ix ePl y6) (ocons (ix ePl y7) (ocons (Tspec_l6Clash4 (Y:=Y) n v5 v6 v7 (Pl.mk zg zh zi zj) _ y8) onil)))) h (by kernel_rfl) (fun h=>?_) (fun h=>?_)
  ·replace h:=sj h;subst h
   exact x_end 4 [] [] onil onil 
  ·exact x_to 8 [] onil (hrec2 (w64 (t8+1)) r h) 
 ·exact x_to 8 [] onil (hrec1 (w64 (t7+1)) r h) 
def Dspec_l6With_1(n:Nat)(rec0:Int→Option Bool)(t0:List Pl)(t5 zg zh zi zj t6:Int)(rec1:Int→Option Bool)(a:Int):Option Bool :=
 match a with
 | t7=>frk (decide (t7<t5)) ((lget t0 t6).bind fun v2=>(lget t0 t7).bind fun v3=>(Dspec_l6Clash3 n v2 v3 (Pl.mk zg zh zi zj)).bind fun v4=>frk v4 (some true) (loopN (Dspec_l6With_0 n rec1 rec0 t6 t0 t5 zg zh zi zj t7) n (w64 (t7+1)))) (rec0 (w64 (t6+1)))
theorem Tspec_l6With_1{Y}(n:Nat)(rec0:Int→Option Bool)(t0:List Pl)(t5 zg zh zi zj:Int)(hrec0:∀(a:Int) (r:Bool),rec0 a=some r→Wk Tryz.prog H Y 152 [.code (cp [1,1,0,1,0] (bodyOf Tryz.f152)),.blk 0,.code (cp [1,1,1] (bodyOf Tryz.f152))] (FinX Tryz.prog Tryz.f152 [] (bl r) []) ⟨[(0,.sl false 4 t0.length ((ePl).f t0)),(3,.ptr 3 0),(5,i64 t5),(6,i64 a)],[(3,⟨true,0,[i64 zg,i64 zh,i64 zi,i64 zj]⟩)]⟩)(t6:Int):∀(m:Nat) (a:Int) (r:Bool),loopN (Dspec_l6With_1 n rec0 t0 t5 zg zh zi zj t6) m a=some r→Wk Tryz.prog H Y 152 [.code (cp [1,1,0,1,0,0,1,0,0,1,1,0] (bodyOf Tryz.f152)),.blk 2,.blk 1,.code (cp [1,1,0,1,0,0,1,1] (bodyOf Tryz.f152)),.lp (cp [1,1,0,1,0] (bodyOf Tryz.f152)),.blk 0,.code (cp [1,1,1] (bodyOf Tryz.f152))] (FinX Tryz.prog Tryz.f152 [] (bl r) []) ⟨[(0,.sl false 4 t0.length ((ePl).f t0)),(3,.ptr 3 0),(5,i64 t5),(6,i64 t6),(7,i64 a)],[(3,⟨true,0,[i64 zg,i64 zh,i64 zi,i64 zj]⟩)]⟩:=by
 refine loopN_ind (fun rec1 hrec1 a r h=>?_)
 obtain⟨t7,rfl⟩:∃x,x=a:=⟨a,rfl⟩
 unfold Dspec_l6With_1 at h
 refine x_frk 8 [] onil h (by kernel_rfl) (fun h=>?_) (fun h=>?_)
 ·obtain⟨v2,y2,h⟩:=bm h
  obtain⟨v3,y3,h⟩:=bm h
  obtain⟨v4,y4,h⟩:=bm h
  refine x_frk 17 [(2,.val (.cptr (ePl.c v2++(ePl).f ((t0).drop (Int.toNat t6+1))))),(3,.val (.cptr (ePl.c v3++(ePl).f ((t0).drop (Int.toNat t7+1))))),(2,.call [] [] (bl v4) [])] (ocons (ix ePl y2) (ocons (ix ePl y3) (ocons (Tspec_l6Clash3 (Y:=Y) n v2 v3 (Pl.mk zg zh zi zj) _ y4) onil))) h (by kernel_rfl) (fun h=>?_) (fun h=>?_)
  ·replace h:=sj h;subst h
   exact x_end 4 [] [] onil onil 
  ·exact x_to 8 [] onil (Tspec_l6With_0 n rec1 rec0 t6 t0 t5 zg zh zi zj hrec1 hrec0 t7 n (w64 (t7+1)) r h) 
 ·exact x_to 8 [] onil (hrec0 (w64 (t6+1)) r h) 
def Dspec_l6With_2(n:Nat)(t0:List Pl)(t5 zg zh zi zj:Int)(rec0:Int→Option Bool)(a:Int):Option Bool :=
 match a with
 | t6=>frk (decide (t6<t5)) ((lget t0 t6).bind fun v0=>(Dspec_l6Clash2 v0 (Pl.mk zg zh zi zj)).bind fun v1=>frk v1 (some true) (loopN (Dspec_l6With_1 n rec0 t0 t5 zg zh zi zj t6) n (w64 (t6+1)))) (some false)
theorem Tspec_l6With_2{Y}(n:Nat)(t0:List Pl)(t5 zg zh zi zj:Int):∀(m:Nat) (a:Int) (r:Bool),loopN (Dspec_l6With_2 n t0 t5 zg zh zi zj) m a=some r→Wk Tryz.prog H Y 152 [.code (cp [1,1,0,1,0] (bodyOf Tryz.f152)),.blk 0,.code (cp [1,1,1] (bodyOf Tryz.f152))] (FinX Tryz.prog Tryz.f152 [] (bl r) []) ⟨[(0,.sl false 4 t0.length ((ePl).f t0)),(3,.ptr 3 0),(5,i64 t5),(6,i64 a)],[(3,⟨true,0,[i64 zg,i64 zh,i64 zi,i64 zj]⟩)]⟩:=by
 refine loopN_ind (fun rec0 hrec0 a r h=>?_)
 obtain⟨t6,rfl⟩:∃x,x=a:=⟨a,rfl⟩
 unfold Dspec_l6With_2 at h
 refine x_frk 8 [] onil h (by kernel_rfl) (fun h=>?_) (fun h=>?_)
 ·obtain⟨v0,y0,h⟩:=bm h
  obtain⟨v1,y1,h⟩:=bm h
  refine x_frk 13 [(2,.val (.cptr (ePl.c v0++(ePl).f ((t0).drop (Int.toNat t6+1))))),(2,.call [] [] (bl v1) [])] (ocons (ix ePl y0) (ocons (Tspec_l6Clash2 (Y:=Y) v0 (Pl.mk zg zh zi zj) _ y1) onil)) h (by kernel_rfl) (fun h=>?_) (fun h=>?_)
  ·replace h:=sj h;subst h
   exact x_end 4 [] [] onil onil 
  ·exact x_to 8 [] onil (Tspec_l6With_1 n rec0 t0 t5 zg zh zi zj hrec0 t6 n (w64 (t6+1)) r h) 
 ·replace h:=sj h;subst h
  exact x_end 5 [] [] onil onil 
def Dspec_l6With(n:Nat)(a0:(List Pl))(a1:Pl):Option Bool :=
 loopN (Dspec_l6With_2 n a0 (a0.length:Int) a1.A a1.B a1.C a1.D) n 0
theorem Tspec_l6With{Y}(n:Nat)(a0:(List Pl))(a1:Pl)(r:Bool)(h:Dspec_l6With n a0 a1=some r):Big Tryz.prog H Y (.call 152 [.sl false 4 a0.length ((ePl).f a0),.agg [i64 a1.A,i64 a1.B,i64 a1.C,i64 a1.D]] (lk []) (bl r) (lk [])):=by
 unfold Dspec_l6With at h
 refine x_call (fn:=Tryz.f152) (c:=bodyOf Tryz.f152) (bs0:=[]) Tryz.func152 (by kernel_rfl) (by kernel_rfl) ?_
 exact x_to 17 [] onil (Tspec_l6With_2 n a0 (a0.length:Int) a1.A a1.B a1.C a1.D n 0 r h) 
def Dspec_l3Flip(a0:Pl):Option Pl :=
 some (Pl.mk (w64 (0-a0.A)) (w64 (0-a0.B)) (w64 (0-a0.C)) (w64 (0-a0.D)))
theorem Tspec_l3Flip{Y}(a0:Pl)(r:Pl)(h:Dspec_l3Flip a0=some r):Big Tryz.prog H Y (.call 153 [.agg [i64 a0.A,i64 a0.B,i64 a0.C,i64 a0.D]] (lk []) (.agg [i64 r.A,i64 r.B,i64 r.C,i64 r.D]) (lk [])):=by
 unfold Dspec_l3Flip at h
 refine x_call (fn:=Tryz.f153) (c:=bodyOf Tryz.f153) (bs0:=[]) Tryz.func153 (by kernel_rfl) (by kernel_rfl) ?_
 replace h:=sj h;subst h
 exact x_end 22 [] [] onil onil 
def Dspec_l8Path(a0:(List Pl))(a1:Pl):Option (List Pl) :=
 chk (apB 32 (0+a0.length)) (chk (apB 32 (([]++a0).length+1)) (some (([]++a0)++[a1])))
theorem Tspec_l8Path{Y}(a0:(List Pl))(a1:Pl)(r:(List Pl))(h:Dspec_l8Path a0 a1=some r):Big Tryz.prog H Y (.call 154 [.sl false 4 a0.length ((ePl).f a0),.agg [i64 a1.A,i64 a1.B,i64 a1.C,i64 a1.D]] (lk []) (.sl true 4 r.length ((ePl).f r)) (lk [])):=by
 unfold Dspec_l8Path at h
 refine x_call (fn:=Tryz.f154) (c:=bodyOf Tryz.f154) (bs0:=[]) Tryz.func154 (by kernel_rfl) (by kernel_rfl) ?_
 obtain⟨c0,h⟩:=chk_some h
 obtain⟨c1,h⟩:=chk_some h
 replace h:=sj h;subst h
 exact x_end 15 [(4,.app false (List.length ([]++a0)) ((ePl).f ([]++a0))),(2,.app false (List.length (([]++a0)++[a1])) ((ePl).f (([]++a0)++[a1])))] [] (ocons (len_row' (L:=[]) ePl) (ocons (app_one (L:=[]) (M:=a0) ePl c0) (ocons (app_new (L:=[]) (M:=a0) ePl) (ocons (app_m (L:=[]) (M:=a0) ePl rfl) (ocons (len_row' (L:=a0) ePl) (ocons (len_row' (L:=([]++a0)) ePl) (ocons (app_one (L:=([]++a0)) (M:=[a1]) ePl c1) (ocons (app_new (L:=([]++a0)) (M:=[a1]) ePl) (ocons (app_m (L:=([]++a0)) (M:=[a1]) ePl rfl) (ocons (len_row' (L:=[a1]) ePl) (ocons (Enc.noOwn ePl (fun _=>rfl) [a1]) onil))))))))))) (ocons (len_row (L:=(([]++a0)++[a1])) ePl) onil) 
def Dspec_l8Look_0(_n:Nat)(self:(Sol×(List Pl))→Option Bool)(t1:List Pl)(t42 _za:Bool)(zb zc zd ze:Int)(zf:List Sol):Option Bool :=
 frk t42 (some false) ((lget zf 0).bind fun v5=>(Dspec_l8Path t1 (Pl.mk zb zc zd ze)).bind fun v6=>(self (v5,v6)).bind fun v7=>frk v7 ((lget zf 1).bind fun v8=>(Dspec_l3Flip (Pl.mk zb zc zd ze)).bind fun v9=>(Dspec_l8Path t1 v9).bind fun v10=>(self (v8,v10)).bind fun v11=>some v11) (some false))
theorem Tspec_l8Look_0{Y}(n:Nat)(self:(Sol×(List Pl))→Option Bool)(hself:∀(a:(Sol×(List Pl))) (r:Bool),self a=some r→Big Tryz.prog H Y (.call 173 [eF a.1,.sl false 4 a.2.length ((ePl).f a.2)] (lk []) (bl r) (lk [])))(t1:List Pl)(t42 za:Bool)(zb zc zd ze:Int)(zf:List Sol)(r:Bool)(h:Dspec_l8Look_0 n self t1 t42 za zb zc zd ze zf=some r):Wk Tryz.prog H Y 173 [.code (cp [1,1,0,1] (bodyOf Tryz.f173)),.code (cp [1,1,1] (bodyOf Tryz.f173))] (FinX Tryz.prog Tryz.f173 [] (bl r) []) ⟨[(1,.sl false 4 t1.length ((ePl).f t1)),(2,.ptr 2 0),(42,bl t42)],[(2,⟨true,0,[bl za,i64 zb,i64 zc,i64 zd,i64 ze,.sl false 6 zf.length ((eSol false).f zf)]⟩)]⟩:=by
 unfold Dspec_l8Look_0 at h
 refine x_frk 0 [] onil h (by kernel_rfl) (fun h=>?_) (fun h=>?_)
 ·replace h:=sj h;subst h
  exact x_end 4 [] [] onil onil 
 ·obtain⟨v5,y5,h⟩:=bm h
  obtain⟨v6,y6,h⟩:=bm h
  obtain⟨v7,y7,h⟩:=bm h
  refine x_frk 13 [(2,.val (.cptr ((eSol false).c v5++(eSol false).f ((zf).drop (Int.toNat 0+1))))),(4,.call [] [] (.sl false 4 v6.length ((ePl).f v6)) []),(0,.call [] [] (bl v7) [])] (ocons (ix (eSol false) y5) (ocons (shSl (L:=v6) ePl ePl sPl (Tspec_l8Path (Y:=Y) t1 (Pl.mk zb zc zd ze) _ y6)) (ocons (hself (v5,v6) _ y7) onil))) h (by kernel_rfl) (fun h=>?_) (fun h=>?_)
  ·obtain⟨v8,y8,h⟩:=bm h
   obtain⟨v9,y9,h⟩:=bm h
   obtain⟨v10,y10,h⟩:=bm h
   obtain⟨v11,y11,h⟩:=bm h
   replace h:=sj h;subst h
   exact x_end 13 [(2,.val (.cptr ((eSol false).c v8++(eSol false).f ((zf).drop (Int.toNat 1+1))))),(4,.call [] [] (.agg [i64 v9.A,i64 v9.B,i64 v9.C,i64 v9.D]) []),(0,.call [] [] (.sl false 4 v10.length ((ePl).f v10)) []),(0,.call [] [] (bl v11) [])] [] (ocons (ix (eSol false) y8) (ocons (Tspec_l3Flip (Y:=Y) (Pl.mk zb zc zd ze) _ y9) (ocons (shSl (L:=v10) ePl ePl sPl (Tspec_l8Path (Y:=Y) t1 v9 _ y10)) (ocons (hself (v8,v10) _ y11) onil)))) onil 
  ·replace h:=sj h;subst h
   exact x_end 13 [] [] onil onil 
def Dspec_l8Look_b(n:Nat)(self:(Sol×(List Pl))→Option Bool)(a:(Sol×(List Pl))):Option Bool :=
 match a with
 | (a0,a1)=>(Dspec_l8Leaf a0).bind fun v0=>frk v0 (some (a0.pl.A==0&&(a0.pl.B==0&&(a0.pl.C==0&&(a0.pl.D==0&&true))))) (frk ((a0.kids.length:Int) != 2) (some false) (frk a0.inn (some false) ((Dspec_PlaneOk n a0.pl).bind fun v1=>frk (!v1) (some false) (frk ((a1.length:Int)==24) (some false) ((Dspec_l6With n a1 a0.pl).bind fun v2=>frk v2 (some false) ((Dspec_l3Flip a0.pl).bind fun v3=>(Dspec_l6With n a1 v3).bind fun v4=>Dspec_l8Look_0 n self a1 v4 a0.inn a0.pl.A a0.pl.B a0.pl.C a0.pl.D a0.kids))))))
def Dspec_l8Look(n:Nat)(a0:Sol)(a1:(List Pl)):Option Bool:=loopN (Dspec_l8Look_b n) n (a0,a1)
theorem Tspec_l8Look_b{Y}(n:Nat):∀(m:Nat) (a:(Sol×(List Pl))) (r:Bool),loopN (Dspec_l8Look_b n) m a=some r→∀(_:Unit),Big Tryz.prog H Y (.call 173 [eF a.1,.sl false 4 a.2.length ((ePl).f a.2)] (lk []) (bl r) (lk [])):=by
 refine loopN_ind (fun self hs a r h=>?_)
 have hself:∀(a:(Sol×(List Pl))) (r:Bool),self a=some r→Big Tryz.prog H Y (.call 173 [eF a.1,.sl false 4 a.2.length ((ePl).f a.2)] (lk []) (bl r) (lk [])):=fun a r h=>hs a r h ()
 intro _
 obtain⟨a0,a1⟩:=a
 unfold Dspec_l8Look_b at h
 refine x_call (fn:=Tryz.f173) (c:=bodyOf Tryz.f173) (bs0:=[]) Tryz.func173 (by kernel_rfl) (by kernel_rfl) ?_
 obtain⟨v0,y0,h⟩:=bm h
 refine x_frk 11 [(3,.call [] [] (bl v0) [])] (ocons (Tspec_l8Leaf (Y:=Y) a0 _ y0) onil) h (by kernel_rfl) (fun h=>?_) (fun h=>?_)
 ·replace h:=sj h;subst h
  exact x_end 8 [] [] onil onil 
 ·refine x_frk 9 [] onil h (by kernel_rfl) (fun h=>?_) (fun h=>?_)
  ·replace h:=sj h;subst h
   exact x_end 33 [] [] onil onil 
  ·refine x_frk 4 [] onil h (by kernel_rfl) (fun h=>?_) (fun h=>?_)
   ·replace h:=sj h;subst h
    exact x_end 29 [] [] onil onil 
   ·obtain⟨v1,y1,h⟩:=bm h
    refine x_frk 6 [(2,.call [] [] (bl v1) [])] (ocons (Tspec_PlaneOk (Y:=Y) n a0.pl _ y1) onil) h (by kernel_rfl) (fun h=>?_) (fun h=>?_)
    ·replace h:=sj h;subst h
     exact x_end 23 [] [] onil onil 
    ·refine x_frk 5 [] onil h (by kernel_rfl) (fun h=>?_) (fun h=>?_)
     ·replace h:=sj h;subst h
      exact x_end 18 [] [] onil onil 
     ·obtain⟨v2,y2,h⟩:=bm h
      refine x_frk 6 [(3,.call [] [] (bl v2) [])] (ocons (Tspec_l6With (Y:=Y) n a1 a0.pl _ y2) onil) h (by kernel_rfl) (fun h=>?_) (fun h=>?_)
      ·replace h:=sj h;subst h
       exact x_end 12 [] [] onil onil 
      ·obtain⟨v3,y3,h⟩:=bm h
       obtain⟨v4,y4,h⟩:=bm h
       exact x_to 7 [(3,.call [] [] (.agg [i64 v3.A,i64 v3.B,i64 v3.C,i64 v3.D]) []),(0,.call [] [] (bl v4) [])] (ocons (Tspec_l3Flip (Y:=Y) a0.pl _ y3) (ocons (Tspec_l6With (Y:=Y) n a1 v3 _ y4) onil)) (Tspec_l8Look_0 n self hself a1 v4 a0.inn a0.pl.A a0.pl.B a0.pl.C a0.pl.D a0.kids r h) 
theorem Tspec_l8Look{Y}(n:Nat)(a0:Sol)(a1:(List Pl))(r:Bool)(h:Dspec_l8Look n a0 a1=some r):Big Tryz.prog H Y (.call 173 [eF a0,.sl false 4 a1.length ((ePl).f a1)] (lk []) (bl r) (lk [])):=Tspec_l8Look_b n n (a0,a1) r h ()
def Dspec_SolidOk(n:Nat)(a0:Sol):Option Bool :=
 (Dspec_l8Count n a0 301).bind fun v0=>frk (decide (v0≤300)) ((Dspec_l8Look n a0 []).bind fun v1=>some v1) (some false)
theorem Tspec_SolidOk{Y}(n:Nat)(a0:Sol)(r:Bool)(h:Dspec_SolidOk n a0=some r):Big Tryz.prog H Y (.call 104 [eF a0] (lk []) (bl r) (lk [])):=by
 unfold Dspec_SolidOk at h
 refine x_call (fn:=Tryz.f104) (c:=bodyOf Tryz.f104) (bs0:=[]) Tryz.func104 (by kernel_rfl) (by kernel_rfl) ?_
 obtain⟨v0,y0,h⟩:=bm h
 refine x_frk 11 [(3,.call [] [] (i64 v0) [])] (ocons (Tspec_l8Count (Y:=Y) n a0 301 _ y0) onil) h (by kernel_rfl) (fun h=>?_) (fun h=>?_)
 ·obtain⟨v1,y1,h⟩:=bm h
  replace h:=sj h;subst h
  exact x_end 6 [(2,.call [] [(ePl).f []] (bl v1) [])] [] (ocons (Tspec_l8Look (Y:=Y) n a0 [] _ y1) (ocons (len_row (L:=[]) ePl) (ocons (Enc.share ePl ePl sPl []) onil))) onil 
 ·replace h:=sj h;subst h
  exact x_end 6 [] [] onil onil 
def Dspec_l20None(a0:Sol):Option Bool :=
 frk (!a0.inn) (frk (a0.pl.A==0&&(a0.pl.B==0&&(a0.pl.C==0&&(a0.pl.D==0&&true)))) (some ((a0.kids.length:Int)==0)) (some false)) (some false)
theorem Tspec_l20None{Y}(a0:Sol)(r:Bool)(h:Dspec_l20None a0=some r):Big Tryz.prog H Y (.call 115 [eF a0] (lk []) (bl r) (lk [])):=by
 unfold Dspec_l20None at h
 refine x_call (fn:=Tryz.f115) (c:=bodyOf Tryz.f115) (bs0:=[]) Tryz.func115 (by kernel_rfl) (by kernel_rfl) ?_
 refine x_frk 11 [] onil h (by kernel_rfl) (fun h=>?_) (fun h=>?_)
 ·refine x_frk 6 [] onil h (by kernel_rfl) (fun h=>?_) (fun h=>?_)
  ·replace h:=sj h;subst h
   exact x_end 7 [] [] onil onil 
  ·replace h:=sj h;subst h
   exact x_end 7 [] [] onil onil 
 ·replace h:=sj h;subst h
  exact x_end 13 [] [] onil onil 
def Dspec_DeskOk_7(n:Nat)(t3:Int)(t35:Bool)(a0:Dsk):Option Bool :=
 frk t35 (some false) ((Dspec_l8Count n a0.1.2.2.2.2.2.2.2 301).bind fun v23=>some (decide ((w64 (t3+v23))≤900)))
theorem Tspec_DeskOk_7{Y}(n:Nat)(t3:Int)(t35:Bool)(a0:Dsk)(r:Bool)(h:Dspec_DeskOk_7 n t3 t35 a0=some r):Wk Tryz.prog H Y 50 [.code (cp [1,1,0,1,0,0,1,0,0,0,1] (bodyOf Tryz.f50)),.code (cp [1,1,0,1,0,0,1,0,0,1] (bodyOf Tryz.f50)),.blk 1,.code (cp [1,1,0,1,0,0,1,1] (bodyOf Tryz.f50)),.lp (cp [1,1,0,1,0] (bodyOf Tryz.f50)),.blk 0,.code (cp [1,1,1] (bodyOf Tryz.f50))] (FinX Tryz.prog Tryz.f50 [] (bl r) []) ⟨[(1,.ptr 1 0),(3,i64 t3),(4,i64 7),(35,bl t35)],[(1,⟨true,0,(cT38 a0)⟩)]⟩:=by
 unfold Dspec_DeskOk_7 at h
 refine x_frk 0 [] onil h (by kernel_rfl) (fun h=>?_) (fun h=>?_)
 ·replace h:=sj h;subst h
  exact x_end 4 [] [] onil onil 
 ·obtain⟨v23,y23,h⟩:=bm h
  replace h:=sj h;subst h
  exact x_end 33 [(5,.call [] [] (i64 v23) [])] [] (ocons (Tspec_l8Count (Y:=Y) n a0.1.2.2.2.2.2.2.2 301 _ y23) onil) onil 
def Dspec_DeskOk_8(n:Nat)(t3:Int)(a0:Dsk):Option Bool :=
 (Dspec_l8Count n a0.1.2.2.2.2.2.2.2 301).bind fun v24=>some (decide ((w64 (t3+v24))≤900))
theorem Tspec_DeskOk_8{Y}(n:Nat)(t3:Int)(a0:Dsk)(r:Bool)(h:Dspec_DeskOk_8 n t3 a0=some r):Wk Tryz.prog H Y 50 [.code (cp [1,1,0,1,0,0,1,0,0,1] (bodyOf Tryz.f50)),.blk 1,.code (cp [1,1,0,1,0,0,1,1] (bodyOf Tryz.f50)),.lp (cp [1,1,0,1,0] (bodyOf Tryz.f50)),.blk 0,.code (cp [1,1,1] (bodyOf Tryz.f50))] (FinX Tryz.prog Tryz.f50 [] (bl r) []) ⟨[(1,.ptr 1 0),(3,i64 t3),(4,i64 7)],[(1,⟨true,0,(cT38 a0)⟩)]⟩:=by
 unfold Dspec_DeskOk_8 at h
 obtain⟨v24,y24,h⟩:=bm h
 replace h:=sj h;subst h
 exact x_end 32 [(5,.call [] [] (i64 v24) [])] [] (ocons (Tspec_l8Count (Y:=Y) n a0.1.2.2.2.2.2.2.2 301 _ y24) onil) onil 
def Dspec_DeskOk_6(n:Nat)(t3:Int)(t35:Bool)(a0:Dsk):Option Bool :=
 frk t35 (some false) ((Dspec_l8Count n a0.1.2.2.2.2.2.2.1 301).bind fun v20=>frk a0.2.2.2.2.2.2.2.2 ((Dspec_SolidOk n a0.1.2.2.2.2.2.2.2).bind fun v21=>frk (!v21) (some false) (frk (!a0.2.2.2.2.2.2.2.2) ((Dspec_l20None a0.1.2.2.2.2.2.2.2).bind fun v22=>Dspec_DeskOk_7 n (w64 (t3+v20)) (!v22) a0) (Dspec_DeskOk_8 n (w64 (t3+v20)) a0))) (frk (!a0.2.2.2.2.2.2.2.2) ((Dspec_l20None a0.1.2.2.2.2.2.2.2).bind fun v25=>Dspec_DeskOk_7 n (w64 (t3+v20)) (!v25) a0) (Dspec_DeskOk_8 n (w64 (t3+v20)) a0)))
theorem Tspec_DeskOk_6{Y}(n:Nat)(t3:Int)(t35:Bool)(a0:Dsk)(r:Bool)(h:Dspec_DeskOk_6 n t3 t35 a0=some r):Wk Tryz.prog H Y 50 [.code (cp [1,1,0,1,0,0,1,0,0,0,1] (bodyOf Tryz.f50)),.code (cp [1,1,0,1,0,0,1,0,0,1] (bodyOf Tryz.f50)),.blk 1,.code (cp [1,1,0,1,0,0,1,1] (bodyOf Tryz.f50)),.lp (cp [1,1,0,1,0] (bodyOf Tryz.f50)),.blk 0,.code (cp [1,1,1] (bodyOf Tryz.f50))] (FinX Tryz.prog Tryz.f50 [] (bl r) []) ⟨[(1,.ptr 1 0),(3,i64 t3),(4,i64 6),(35,bl t35)],[(1,⟨true,0,(cT38 a0)⟩)]⟩:=by
 unfold Dspec_DeskOk_6 at h
 refine x_frk 0 [] onil h (by kernel_rfl) (fun h=>?_) (fun h=>?_)
 ·replace h:=sj h;subst h
  exact x_end 4 [] [] onil onil 
 ·obtain⟨v20,y20,h⟩:=bm h
  refine x_frk 37 [(5,.call [] [] (i64 v20) [])] (ocons (Tspec_l8Count (Y:=Y) n a0.1.2.2.2.2.2.2.1 301 _ y20) onil) h (by kernel_rfl) (fun h=>?_) (fun h=>?_)
  ·obtain⟨v21,y21,h⟩:=bm h
   refine x_frk 8 [(4,.call [] [] (bl v21) [])] (ocons (Tspec_SolidOk (Y:=Y) n a0.1.2.2.2.2.2.2.2 _ y21) onil) h (by kernel_rfl) (fun h=>?_) (fun h=>?_)
   ·replace h:=sj h;subst h
    exact x_end 20 [] [] onil onil 
   ·refine x_frk 6 [] onil h (by kernel_rfl) (fun h=>?_) (fun h=>?_)
    ·obtain⟨v22,y22,h⟩:=bm h
     exact x_to 9 [(4,.call [] [] (bl v22) [])] (ocons (Tspec_l20None (Y:=Y) a0.1.2.2.2.2.2.2.2 _ y22) onil) (Tspec_DeskOk_7 n (w64 (t3+v20)) (!v22) a0 r h) 
    ·exact x_to 11 [] onil (Tspec_DeskOk_8 n (w64 (t3+v20)) a0 r h) 
  ·refine x_frk 14 [] onil h (by kernel_rfl) (fun h=>?_) (fun h=>?_)
   ·obtain⟨v25,y25,h⟩:=bm h
    exact x_to 9 [(4,.call [] [] (bl v25) [])] (ocons (Tspec_l20None (Y:=Y) a0.1.2.2.2.2.2.2.2 _ y25) onil) (Tspec_DeskOk_7 n (w64 (t3+v20)) (!v25) a0 r h) 
   ·exact x_to 11 [] onil (Tspec_DeskOk_8 n (w64 (t3+v20)) a0 r h) 
def Dspec_DeskOk_9(n:Nat)(t3:Int)(a0:Dsk):Option Bool :=
 (Dspec_l8Count n a0.1.2.2.2.2.2.2.1 301).bind fun v26=>frk a0.2.2.2.2.2.2.2.2 ((Dspec_SolidOk n a0.1.2.2.2.2.2.2.2).bind fun v27=>frk (!v27) (some false) (frk (!a0.2.2.2.2.2.2.2.2) ((Dspec_l20None a0.1.2.2.2.2.2.2.2).bind fun v28=>Dspec_DeskOk_7 n (w64 (t3+v26)) (!v28) a0) (Dspec_DeskOk_8 n (w64 (t3+v26)) a0))) (frk (!a0.2.2.2.2.2.2.2.2) ((Dspec_l20None a0.1.2.2.2.2.2.2.2).bind fun v29=>Dspec_DeskOk_7 n (w64 (t3+v26)) (!v29) a0) (Dspec_DeskOk_8 n (w64 (t3+v26)) a0))
theorem Tspec_DeskOk_9{Y}(n:Nat)(t3:Int)(a0:Dsk)(r:Bool)(h:Dspec_DeskOk_9 n t3 a0=some r):Wk Tryz.prog H Y 50 [.code (cp [1,1,0,1,0,0,1,0,0,1] (bodyOf Tryz.f50)),.blk 1,.code (cp [1,1,0,1,0,0,1,1] (bodyOf Tryz.f50)),.lp (cp [1,1,0,1,0] (bodyOf Tryz.f50)),.blk 0,.code (cp [1,1,1] (bodyOf Tryz.f50))] (FinX Tryz.prog Tryz.f50 [] (bl r) []) ⟨[(1,.ptr 1 0),(3,i64 t3),(4,i64 6)],[(1,⟨true,0,(cT38 a0)⟩)]⟩:=by
 unfold Dspec_DeskOk_9 at h
 obtain⟨v26,y26,h⟩:=bm h
 refine x_frk 36 [(5,.call [] [] (i64 v26) [])] (ocons (Tspec_l8Count (Y:=Y) n a0.1.2.2.2.2.2.2.1 301 _ y26) onil) h (by kernel_rfl) (fun h=>?_) (fun h=>?_)
 ·obtain⟨v27,y27,h⟩:=bm h
  refine x_frk 8 [(4,.call [] [] (bl v27) [])] (ocons (Tspec_SolidOk (Y:=Y) n a0.1.2.2.2.2.2.2.2 _ y27) onil) h (by kernel_rfl) (fun h=>?_) (fun h=>?_)
  ·replace h:=sj h;subst h
   exact x_end 20 [] [] onil onil 
  ·refine x_frk 6 [] onil h (by kernel_rfl) (fun h=>?_) (fun h=>?_)
   ·obtain⟨v28,y28,h⟩:=bm h
    exact x_to 9 [(4,.call [] [] (bl v28) [])] (ocons (Tspec_l20None (Y:=Y) a0.1.2.2.2.2.2.2.2 _ y28) onil) (Tspec_DeskOk_7 n (w64 (t3+v26)) (!v28) a0 r h) 
   ·exact x_to 11 [] onil (Tspec_DeskOk_8 n (w64 (t3+v26)) a0 r h) 
 ·refine x_frk 14 [] onil h (by kernel_rfl) (fun h=>?_) (fun h=>?_)
  ·obtain⟨v29,y29,h⟩:=bm h
   exact x_to 9 [(4,.call [] [] (bl v29) [])] (ocons (Tspec_l20None (Y:=Y) a0.1.2.2.2.2.2.2.2 _ y29) onil) (Tspec_DeskOk_7 n (w64 (t3+v26)) (!v29) a0 r h) 
  ·exact x_to 11 [] onil (Tspec_DeskOk_8 n (w64 (t3+v26)) a0 r h) 
def Dspec_DeskOk_5(n:Nat)(t3:Int)(t35:Bool)(a0:Dsk):Option Bool :=
 frk t35 (some false) ((Dspec_l8Count n a0.1.2.2.2.2.2.1 301).bind fun v17=>frk a0.2.2.2.2.2.2.2.1 ((Dspec_SolidOk n a0.1.2.2.2.2.2.2.1).bind fun v18=>frk (!v18) (some false) (frk (!a0.2.2.2.2.2.2.2.1) ((Dspec_l20None a0.1.2.2.2.2.2.2.1).bind fun v19=>Dspec_DeskOk_6 n (w64 (t3+v17)) (!v19) a0) (Dspec_DeskOk_9 n (w64 (t3+v17)) a0))) (frk (!a0.2.2.2.2.2.2.2.1) ((Dspec_l20None a0.1.2.2.2.2.2.2.1).bind fun v30=>Dspec_DeskOk_6 n (w64 (t3+v17)) (!v30) a0) (Dspec_DeskOk_9 n (w64 (t3+v17)) a0)))
theorem Tspec_DeskOk_5{Y}(n:Nat)(t3:Int)(t35:Bool)(a0:Dsk)(r:Bool)(h:Dspec_DeskOk_5 n t3 t35 a0=some r):Wk Tryz.prog H Y 50 [.code (cp [1,1,0,1,0,0,1,0,0,0,1] (bodyOf Tryz.f50)),.code (cp [1,1,0,1,0,0,1,0,0,1] (bodyOf Tryz.f50)),.blk 1,.code (cp [1,1,0,1,0,0,1,1] (bodyOf Tryz.f50)),.lp (cp [1,1,0,1,0] (bodyOf Tryz.f50)),.blk 0,.code (cp [1,1,1] (bodyOf Tryz.f50))] (FinX Tryz.prog Tryz.f50 [] (bl r) []) ⟨[(1,.ptr 1 0),(3,i64 t3),(4,i64 5),(35,bl t35)],[(1,⟨true,0,(cT38 a0)⟩)]⟩:=by
 unfold Dspec_DeskOk_5 at h
 refine x_frk 0 [] onil h (by kernel_rfl) (fun h=>?_) (fun h=>?_)
 ·replace h:=sj h;subst h
  exact x_end 4 [] [] onil onil 
 ·obtain⟨v17,y17,h⟩:=bm h
  refine x_frk 37 [(5,.call [] [] (i64 v17) [])] (ocons (Tspec_l8Count (Y:=Y) n a0.1.2.2.2.2.2.1 301 _ y17) onil) h (by kernel_rfl) (fun h=>?_) (fun h=>?_)
  ·obtain⟨v18,y18,h⟩:=bm h
   refine x_frk 8 [(4,.call [] [] (bl v18) [])] (ocons (Tspec_SolidOk (Y:=Y) n a0.1.2.2.2.2.2.2.1 _ y18) onil) h (by kernel_rfl) (fun h=>?_) (fun h=>?_)
   ·replace h:=sj h;subst h
    exact x_end 20 [] [] onil onil 
   ·refine x_frk 6 [] onil h (by kernel_rfl) (fun h=>?_) (fun h=>?_)
    ·obtain⟨v19,y19,h⟩:=bm h
     exact x_to 9 [(4,.call [] [] (bl v19) [])] (ocons (Tspec_l20None (Y:=Y) a0.1.2.2.2.2.2.2.1 _ y19) onil) (Tspec_DeskOk_6 n (w64 (t3+v17)) (!v19) a0 r h) 
    ·exact x_to 11 [] onil (Tspec_DeskOk_9 n (w64 (t3+v17)) a0 r h) 
  ·refine x_frk 14 [] onil h (by kernel_rfl) (fun h=>?_) (fun h=>?_)
   ·obtain⟨v30,y30,h⟩:=bm h
    exact x_to 9 [(4,.call [] [] (bl v30) [])] (ocons (Tspec_l20None (Y:=Y) a0.1.2.2.2.2.2.2.1 _ y30) onil) (Tspec_DeskOk_6 n (w64 (t3+v17)) (!v30) a0 r h) 
   ·exact x_to 11 [] onil (Tspec_DeskOk_9 n (w64 (t3+v17)) a0 r h) 
def Dspec_DeskOk_10(n:Nat)(t3:Int)(a0:Dsk):Option Bool :=
 (Dspec_l8Count n a0.1.2.2.2.2.2.1 301).bind fun v31=>frk a0.2.2.2.2.2.2.2.1 ((Dspec_SolidOk n a0.1.2.2.2.2.2.2.1).bind fun v32=>frk (!v32) (some false) (frk (!a0.2.2.2.2.2.2.2.1) ((Dspec_l20None a0.1.2.2.2.2.2.2.1).bind fun v33=>Dspec_DeskOk_6 n (w64 (t3+v31)) (!v33) a0) (Dspec_DeskOk_9 n (w64 (t3+v31)) a0))) (frk (!a0.2.2.2.2.2.2.2.1) ((Dspec_l20None a0.1.2.2.2.2.2.2.1).bind fun v34=>Dspec_DeskOk_6 n (w64 (t3+v31)) (!v34) a0) (Dspec_DeskOk_9 n (w64 (t3+v31)) a0))
theorem Tspec_DeskOk_10{Y}(n:Nat)(t3:Int)(a0:Dsk)(r:Bool)(h:Dspec_DeskOk_10 n t3 a0=some r):Wk Tryz.prog H Y 50 [.code (cp [1,1,0,1,0,0,1,0,0,1] (bodyOf Tryz.f50)),.blk 1,.code (cp [1,1,0,1,0,0,1,1] (bodyOf Tryz.f50)),.lp (cp [1,1,0,1,0] (bodyOf Tryz.f50)),.blk 0,.code (cp [1,1,1] (bodyOf Tryz.f50))] (FinX Tryz.prog Tryz.f50 [] (bl r) []) ⟨[(1,.ptr 1 0),(3,i64 t3),(4,i64 5)],[(1,⟨true,0,(cT38 a0)⟩)]⟩:=by
 unfold Dspec_DeskOk_10 at h
 obtain⟨v31,y31,h⟩:=bm h
 refine x_frk 36 [(5,.call [] [] (i64 v31) [])] (ocons (Tspec_l8Count (Y:=Y) n a0.1.2.2.2.2.2.1 301 _ y31) onil) h (by kernel_rfl) (fun h=>?_) (fun h=>?_)
 ·obtain⟨v32,y32,h⟩:=bm h
  refine x_frk 8 [(4,.call [] [] (bl v32) [])] (ocons (Tspec_SolidOk (Y:=Y) n a0.1.2.2.2.2.2.2.1 _ y32) onil) h (by kernel_rfl) (fun h=>?_) (fun h=>?_)
  ·replace h:=sj h;subst h
   exact x_end 20 [] [] onil onil 
  ·refine x_frk 6 [] onil h (by kernel_rfl) (fun h=>?_) (fun h=>?_)
   ·obtain⟨v33,y33,h⟩:=bm h
    exact x_to 9 [(4,.call [] [] (bl v33) [])] (ocons (Tspec_l20None (Y:=Y) a0.1.2.2.2.2.2.2.1 _ y33) onil) (Tspec_DeskOk_6 n (w64 (t3+v31)) (!v33) a0 r h) 
   ·exact x_to 11 [] onil (Tspec_DeskOk_9 n (w64 (t3+v31)) a0 r h) 
 ·refine x_frk 14 [] onil h (by kernel_rfl) (fun h=>?_) (fun h=>?_)
  ·obtain⟨v34,y34,h⟩:=bm h
   exact x_to 9 [(4,.call [] [] (bl v34) [])] (ocons (Tspec_l20None (Y:=Y) a0.1.2.2.2.2.2.2.1 _ y34) onil) (Tspec_DeskOk_6 n (w64 (t3+v31)) (!v34) a0 r h) 
  ·exact x_to 11 [] onil (Tspec_DeskOk_9 n (w64 (t3+v31)) a0 r h) 
def Dspec_DeskOk_4(n:Nat)(t3:Int)(t35:Bool)(a0:Dsk):Option Bool :=
 frk t35 (some false) ((Dspec_l8Count n a0.1.2.2.2.2.1 301).bind fun v14=>frk a0.2.2.2.2.2.2.1 ((Dspec_SolidOk n a0.1.2.2.2.2.2.1).bind fun v15=>frk (!v15) (some false) (frk (!a0.2.2.2.2.2.2.1) ((Dspec_l20None a0.1.2.2.2.2.2.1).bind fun v16=>Dspec_DeskOk_5 n (w64 (t3+v14)) (!v16) a0) (Dspec_DeskOk_10 n (w64 (t3+v14)) a0))) (frk (!a0.2.2.2.2.2.2.1) ((Dspec_l20None a0.1.2.2.2.2.2.1).bind fun v35=>Dspec_DeskOk_5 n (w64 (t3+v14)) (!v35) a0) (Dspec_DeskOk_10 n (w64 (t3+v14)) a0)))
theorem Tspec_DeskOk_4{Y}(n:Nat)(t3:Int)(t35:Bool)(a0:Dsk)(r:Bool)(h:Dspec_DeskOk_4 n t3 t35 a0=some r):Wk Tryz.prog H Y 50 [.code (cp [1,1,0,1,0,0,1,0,0,0,1] (bodyOf Tryz.f50)),.code (cp [1,1,0,1,0,0,1,0,0,1] (bodyOf Tryz.f50)),.blk 1,.code (cp [1,1,0,1,0,0,1,1] (bodyOf Tryz.f50)),.lp (cp [1,1,0,1,0] (bodyOf Tryz.f50)),.blk 0,.code (cp [1,1,1] (bodyOf Tryz.f50))] (FinX Tryz.prog Tryz.f50 [] (bl r) []) ⟨[(1,.ptr 1 0),(3,i64 t3),(4,i64 4),(35,bl t35)],[(1,⟨true,0,(cT38 a0)⟩)]⟩:=by
 unfold Dspec_DeskOk_4 at h
 refine x_frk 0 [] onil h (by kernel_rfl) (fun h=>?_) (fun h=>?_)
 ·replace h:=sj h;subst h
  exact x_end 4 [] [] onil onil 
 ·obtain⟨v14,y14,h⟩:=bm h
  refine x_frk 37 [(5,.call [] [] (i64 v14) [])] (ocons (Tspec_l8Count (Y:=Y) n a0.1.2.2.2.2.1 301 _ y14) onil) h (by kernel_rfl) (fun h=>?_) (fun h=>?_)
  ·obtain⟨v15,y15,h⟩:=bm h
   refine x_frk 8 [(4,.call [] [] (bl v15) [])] (ocons (Tspec_SolidOk (Y:=Y) n a0.1.2.2.2.2.2.1 _ y15) onil) h (by kernel_rfl) (fun h=>?_) (fun h=>?_)
   ·replace h:=sj h;subst h
    exact x_end 20 [] [] onil onil 
   ·refine x_frk 6 [] onil h (by kernel_rfl) (fun h=>?_) (fun h=>?_)
    ·obtain⟨v16,y16,h⟩:=bm h
     exact x_to 9 [(4,.call [] [] (bl v16) [])] (ocons (Tspec_l20None (Y:=Y) a0.1.2.2.2.2.2.1 _ y16) onil) (Tspec_DeskOk_5 n (w64 (t3+v14)) (!v16) a0 r h) 
    ·exact x_to 11 [] onil (Tspec_DeskOk_10 n (w64 (t3+v14)) a0 r h) 
  ·refine x_frk 14 [] onil h (by kernel_rfl) (fun h=>?_) (fun h=>?_)
   ·obtain⟨v35,y35,h⟩:=bm h
    exact x_to 9 [(4,.call [] [] (bl v35) [])] (ocons (Tspec_l20None (Y:=Y) a0.1.2.2.2.2.2.1 _ y35) onil) (Tspec_DeskOk_5 n (w64 (t3+v14)) (!v35) a0 r h) 
   ·exact x_to 11 [] onil (Tspec_DeskOk_10 n (w64 (t3+v14)) a0 r h) 
def Dspec_DeskOk_11(n:Nat)(t3:Int)(a0:Dsk):Option Bool :=
 (Dspec_l8Count n a0.1.2.2.2.2.1 301).bind fun v36=>frk a0.2.2.2.2.2.2.1 ((Dspec_SolidOk n a0.1.2.2.2.2.2.1).bind fun v37=>frk (!v37) (some false) (frk (!a0.2.2.2.2.2.2.1) ((Dspec_l20None a0.1.2.2.2.2.2.1).bind fun v38=>Dspec_DeskOk_5 n (w64 (t3+v36)) (!v38) a0) (Dspec_DeskOk_10 n (w64 (t3+v36)) a0))) (frk (!a0.2.2.2.2.2.2.1) ((Dspec_l20None a0.1.2.2.2.2.2.1).bind fun v39=>Dspec_DeskOk_5 n (w64 (t3+v36)) (!v39) a0) (Dspec_DeskOk_10 n (w64 (t3+v36)) a0))
theorem Tspec_DeskOk_11{Y}(n:Nat)(t3:Int)(a0:Dsk)(r:Bool)(h:Dspec_DeskOk_11 n t3 a0=some r):Wk Tryz.prog H Y 50 [.code (cp [1,1,0,1,0,0,1,0,0,1] (bodyOf Tryz.f50)),.blk 1,.code (cp [1,1,0,1,0,0,1,1] (bodyOf Tryz.f50)),.lp (cp [1,1,0,1,0] (bodyOf Tryz.f50)),.blk 0,.code (cp [1,1,1] (bodyOf Tryz.f50))] (FinX Tryz.prog Tryz.f50 [] (bl r) []) ⟨[(1,.ptr 1 0),(3,i64 t3),(4,i64 4)],[(1,⟨true,0,(cT38 a0)⟩)]⟩:=by
 unfold Dspec_DeskOk_11 at h
 obtain⟨v36,y36,h⟩:=bm h
 refine x_frk 36 [(5,.call [] [] (i64 v36) [])] (ocons (Tspec_l8Count (Y:=Y) n a0.1.2.2.2.2.1 301 _ y36) onil) h (by kernel_rfl) (fun h=>?_) (fun h=>?_)
 ·obtain⟨v37,y37,h⟩:=bm h
  refine x_frk 8 [(4,.call [] [] (bl v37) [])] (ocons (Tspec_SolidOk (Y:=Y) n a0.1.2.2.2.2.2.1 _ y37) onil) h (by kernel_rfl) (fun h=>?_) (fun h=>?_)
  ·replace h:=sj h;subst h
   exact x_end 20 [] [] onil onil 
  ·refine x_frk 6 [] onil h (by kernel_rfl) (fun h=>?_) (fun h=>?_)
   ·obtain⟨v38,y38,h⟩:=bm h
    exact x_to 9 [(4,.call [] [] (bl v38) [])] (ocons (Tspec_l20None (Y:=Y) a0.1.2.2.2.2.2.1 _ y38) onil) (Tspec_DeskOk_5 n (w64 (t3+v36)) (!v38) a0 r h) 
   ·exact x_to 11 [] onil (Tspec_DeskOk_10 n (w64 (t3+v36)) a0 r h) 
 ·refine x_frk 14 [] onil h (by kernel_rfl) (fun h=>?_) (fun h=>?_)
  ·obtain⟨v39,y39,h⟩:=bm h
   exact x_to 9 [(4,.call [] [] (bl v39) [])] (ocons (Tspec_l20None (Y:=Y) a0.1.2.2.2.2.2.1 _ y39) onil) (Tspec_DeskOk_5 n (w64 (t3+v36)) (!v39) a0 r h) 
  ·exact x_to 11 [] onil (Tspec_DeskOk_10 n (w64 (t3+v36)) a0 r h) 
def Dspec_DeskOk_3(n:Nat)(t3:Int)(t35:Bool)(a0:Dsk):Option Bool :=
 frk t35 (some false) ((Dspec_l8Count n a0.1.2.2.2.1 301).bind fun v11=>frk a0.2.2.2.2.2.1 ((Dspec_SolidOk n a0.1.2.2.2.2.1).bind fun v12=>frk (!v12) (some false) (frk (!a0.2.2.2.2.2.1) ((Dspec_l20None a0.1.2.2.2.2.1).bind fun v13=>Dspec_DeskOk_4 n (w64 (t3+v11)) (!v13) a0) (Dspec_DeskOk_11 n (w64 (t3+v11)) a0))) (frk (!a0.2.2.2.2.2.1) ((Dspec_l20None a0.1.2.2.2.2.1).bind fun v40=>Dspec_DeskOk_4 n (w64 (t3+v11)) (!v40) a0) (Dspec_DeskOk_11 n (w64 (t3+v11)) a0)))
theorem Tspec_DeskOk_3{Y}(n:Nat)(t3:Int)(t35:Bool)(a0:Dsk)(r:Bool)(h:Dspec_DeskOk_3 n t3 t35 a0=some r):Wk Tryz.prog H Y 50 [.code (cp [1,1,0,1,0,0,1,0,0,0,1] (bodyOf Tryz.f50)),.code (cp [1,1,0,1,0,0,1,0,0,1] (bodyOf Tryz.f50)),.blk 1,.code (cp [1,1,0,1,0,0,1,1] (bodyOf Tryz.f50)),.lp (cp [1,1,0,1,0] (bodyOf Tryz.f50)),.blk 0,.code (cp [1,1,1] (bodyOf Tryz.f50))] (FinX Tryz.prog Tryz.f50 [] (bl r) []) ⟨[(1,.ptr 1 0),(3,i64 t3),(4,i64 3),(35,bl t35)],[(1,⟨true,0,(cT38 a0)⟩)]⟩:=by
 unfold Dspec_DeskOk_3 at h
 refine x_frk 0 [] onil h (by kernel_rfl) (fun h=>?_) (fun h=>?_)
 ·replace h:=sj h;subst h
  exact x_end 4 [] [] onil onil 
 ·obtain⟨v11,y11,h⟩:=bm h
  refine x_frk 37 [(5,.call [] [] (i64 v11) [])] (ocons (Tspec_l8Count (Y:=Y) n a0.1.2.2.2.1 301 _ y11) onil) h (by kernel_rfl) (fun h=>?_) (fun h=>?_)
  ·obtain⟨v12,y12,h⟩:=bm h
   refine x_frk 8 [(4,.call [] [] (bl v12) [])] (ocons (Tspec_SolidOk (Y:=Y) n a0.1.2.2.2.2.1 _ y12) onil) h (by kernel_rfl) (fun h=>?_) (fun h=>?_)
   ·replace h:=sj h;subst h
    exact x_end 20 [] [] onil onil 
   ·refine x_frk 6 [] onil h (by kernel_rfl) (fun h=>?_) (fun h=>?_)
    ·obtain⟨v13,y13,h⟩:=bm h
     exact x_to 9 [(4,.call [] [] (bl v13) [])] (ocons (Tspec_l20None (Y:=Y) a0.1.2.2.2.2.1 _ y13) onil) (Tspec_DeskOk_4 n (w64 (t3+v11)) (!v13) a0 r h) 
    ·exact x_to 11 [] onil (Tspec_DeskOk_11 n (w64 (t3+v11)) a0 r h) 
  ·refine x_frk 14 [] onil h (by kernel_rfl) (fun h=>?_) (fun h=>?_)
   ·obtain⟨v40,y40,h⟩:=bm h
    exact x_to 9 [(4,.call [] [] (bl v40) [])] (ocons (Tspec_l20None (Y:=Y) a0.1.2.2.2.2.1 _ y40) onil) (Tspec_DeskOk_4 n (w64 (t3+v11)) (!v40) a0 r h) 
   ·exact x_to 11 [] onil (Tspec_DeskOk_11 n (w64 (t3+v11)) a0 r h) 
def Dspec_DeskOk_12(n:Nat)(t3:Int)(a0:Dsk):Option Bool :=
 (Dspec_l8Count n a0.1.2.2.2.1 301).bind fun v41=>frk a0.2.2.2.2.2.1 ((Dspec_SolidOk n a0.1.2.2.2.2.1).bind fun v42=>frk (!v42) (some false) (frk (!a0.2.2.2.2.2.1) ((Dspec_l20None a0.1.2.2.2.2.1).bind fun v43=>Dspec_DeskOk_4 n (w64 (t3+v41)) (!v43) a0) (Dspec_DeskOk_11 n (w64 (t3+v41)) a0))) (frk (!a0.2.2.2.2.2.1) ((Dspec_l20None a0.1.2.2.2.2.1).bind fun v44=>Dspec_DeskOk_4 n (w64 (t3+v41)) (!v44) a0) (Dspec_DeskOk_11 n (w64 (t3+v41)) a0))
theorem Tspec_DeskOk_12{Y}(n:Nat)(t3:Int)(a0:Dsk)(r:Bool)(h:Dspec_DeskOk_12 n t3 a0=some r):Wk Tryz.prog H Y 50 [.code (cp [1,1,0,1,0,0,1,0,0,1] (bodyOf Tryz.f50)),.blk 1,.code (cp [1,1,0,1,0,0,1,1] (bodyOf Tryz.f50)),.lp (cp [1,1,0,1,0] (bodyOf Tryz.f50)),.blk 0,.code (cp [1,1,1] (bodyOf Tryz.f50))] (FinX Tryz.prog Tryz.f50 [] (bl r) []) ⟨[(1,.ptr 1 0),(3,i64 t3),(4,i64 3)],[(1,⟨true,0,(cT38 a0)⟩)]⟩:=by
 unfold Dspec_DeskOk_12 at h
 obtain⟨v41,y41,h⟩:=bm h
 refine x_frk 36 [(5,.call [] [] (i64 v41) [])] (ocons (Tspec_l8Count (Y:=Y) n a0.1.2.2.2.1 301 _ y41) onil) h (by kernel_rfl) (fun h=>?_) (fun h=>?_)
 ·obtain⟨v42,y42,h⟩:=bm h
  refine x_frk 8 [(4,.call [] [] (bl v42) [])] (ocons (Tspec_SolidOk (Y:=Y) n a0.1.2.2.2.2.1 _ y42) onil) h (by kernel_rfl) (fun h=>?_) (fun h=>?_)
  ·replace h:=sj h;subst h
   exact x_end 20 [] [] onil onil 
  ·refine x_frk 6 [] onil h (by kernel_rfl) (fun h=>?_) (fun h=>?_)
   ·obtain⟨v43,y43,h⟩:=bm h
    exact x_to 9 [(4,.call [] [] (bl v43) [])] (ocons (Tspec_l20None (Y:=Y) a0.1.2.2.2.2.1 _ y43) onil) (Tspec_DeskOk_4 n (w64 (t3+v41)) (!v43) a0 r h) 
   ·exact x_to 11 [] onil (Tspec_DeskOk_11 n (w64 (t3+v41)) a0 r h) 
 ·refine x_frk 14 [] onil h (by kernel_rfl) (fun h=>?_) (fun h=>?_)
  ·obtain⟨v44,y44,h⟩:=bm h
   exact x_to 9 [(4,.call [] [] (bl v44) [])] (ocons (Tspec_l20None (Y:=Y) a0.1.2.2.2.2.1 _ y44) onil) (Tspec_DeskOk_4 n (w64 (t3+v41)) (!v44) a0 r h) 
  ·exact x_to 11 [] onil (Tspec_DeskOk_11 n (w64 (t3+v41)) a0 r h) 
def Dspec_DeskOk_2(n:Nat)(t3:Int)(t35:Bool)(a0:Dsk):Option Bool :=
 frk t35 (some false) ((Dspec_l8Count n a0.1.2.2.1 301).bind fun v8=>frk a0.2.2.2.2.1 ((Dspec_SolidOk n a0.1.2.2.2.1).bind fun v9=>frk (!v9) (some false) (frk (!a0.2.2.2.2.1) ((Dspec_l20None a0.1.2.2.2.1).bind fun v10=>Dspec_DeskOk_3 n (w64 (t3+v8)) (!v10) a0) (Dspec_DeskOk_12 n (w64 (t3+v8)) a0))) (frk (!a0.2.2.2.2.1) ((Dspec_l20None a0.1.2.2.2.1).bind fun v45=>Dspec_DeskOk_3 n (w64 (t3+v8)) (!v45) a0) (Dspec_DeskOk_12 n (w64 (t3+v8)) a0)))
theorem Tspec_DeskOk_2{Y}(n:Nat)(t3:Int)(t35:Bool)(a0:Dsk)(r:Bool)(h:Dspec_DeskOk_2 n t3 t35 a0=some r):Wk Tryz.prog H Y 50 [.code (cp [1,1,0,1,0,0,1,0,0,0,1] (bodyOf Tryz.f50)),.code (cp [1,1,0,1,0,0,1,0,0,1] (bodyOf Tryz.f50)),.blk 1,.code (cp [1,1,0,1,0,0,1,1] (bodyOf Tryz.f50)),.lp (cp [1,1,0,1,0] (bodyOf Tryz.f50)),.blk 0,.code (cp [1,1,1] (bodyOf Tryz.f50))] (FinX Tryz.prog Tryz.f50 [] (bl r) []) ⟨[(1,.ptr 1 0),(3,i64 t3),(4,i64 2),(35,bl t35)],[(1,⟨true,0,(cT38 a0)⟩)]⟩:=by
 unfold Dspec_DeskOk_2 at h
 refine x_frk 0 [] onil h (by kernel_rfl) (fun h=>?_) (fun h=>?_)
 ·replace h:=sj h;subst h
  exact x_end 4 [] [] onil onil 
 ·obtain⟨v8,y8,h⟩:=bm h
  refine x_frk 37 [(5,.call [] [] (i64 v8) [])] (ocons (Tspec_l8Count (Y:=Y) n a0.1.2.2.1 301 _ y8) onil) h (by kernel_rfl) (fun h=>?_) (fun h=>?_)
  ·obtain⟨v9,y9,h⟩:=bm h
   refine x_frk 8 [(4,.call [] [] (bl v9) [])] (ocons (Tspec_SolidOk (Y:=Y) n a0.1.2.2.2.1 _ y9) onil) h (by kernel_rfl) (fun h=>?_) (fun h=>?_)
   ·replace h:=sj h;subst h
    exact x_end 20 [] [] onil onil 
   ·refine x_frk 6 [] onil h (by kernel_rfl) (fun h=>?_) (fun h=>?_)
    ·obtain⟨v10,y10,h⟩:=bm h
     exact x_to 9 [(4,.call [] [] (bl v10) [])] (ocons (Tspec_l20None (Y:=Y) a0.1.2.2.2.1 _ y10) onil) (Tspec_DeskOk_3 n (w64 (t3+v8)) (!v10) a0 r h) 
    ·exact x_to 11 [] onil (Tspec_DeskOk_12 n (w64 (t3+v8)) a0 r h) 
  ·refine x_frk 14 [] onil h (by kernel_rfl) (fun h=>?_) (fun h=>?_)
   ·obtain⟨v45,y45,h⟩:=bm h
    exact x_to 9 [(4,.call [] [] (bl v45) [])] (ocons (Tspec_l20None (Y:=Y) a0.1.2.2.2.1 _ y45) onil) (Tspec_DeskOk_3 n (w64 (t3+v8)) (!v45) a0 r h) 
   ·exact x_to 11 [] onil (Tspec_DeskOk_12 n (w64 (t3+v8)) a0 r h) 
def Dspec_DeskOk_13(n:Nat)(t3:Int)(a0:Dsk):Option Bool :=
 (Dspec_l8Count n a0.1.2.2.1 301).bind fun v46=>frk a0.2.2.2.2.1 ((Dspec_SolidOk n a0.1.2.2.2.1).bind fun v47=>frk (!v47) (some false) (frk (!a0.2.2.2.2.1) ((Dspec_l20None a0.1.2.2.2.1).bind fun v48=>Dspec_DeskOk_3 n (w64 (t3+v46)) (!v48) a0) (Dspec_DeskOk_12 n (w64 (t3+v46)) a0))) (frk (!a0.2.2.2.2.1) ((Dspec_l20None a0.1.2.2.2.1).bind fun v49=>Dspec_DeskOk_3 n (w64 (t3+v46)) (!v49) a0) (Dspec_DeskOk_12 n (w64 (t3+v46)) a0))
theorem Tspec_DeskOk_13{Y}(n:Nat)(t3:Int)(a0:Dsk)(r:Bool)(h:Dspec_DeskOk_13 n t3 a0=some r):Wk Tryz.prog H Y 50 [.code (cp [1,1,0,1,0,0,1,0,0,1] (bodyOf Tryz.f50)),.blk 1,.code (cp [1,1,0,1,0,0,1,1] (bodyOf Tryz.f50)),.lp (cp [1,1,0,1,0] (bodyOf Tryz.f50)),.blk 0,.code (cp [1,1,1] (bodyOf Tryz.f50))] (FinX Tryz.prog Tryz.f50 [] (bl r) []) ⟨[(1,.ptr 1 0),(3,i64 t3),(4,i64 2)],[(1,⟨true,0,(cT38 a0)⟩)]⟩:=by
 unfold Dspec_DeskOk_13 at h
 obtain⟨v46,y46,h⟩:=bm h
 refine x_frk 36 [(5,.call [] [] (i64 v46) [])] (ocons (Tspec_l8Count (Y:=Y) n a0.1.2.2.1 301 _ y46) onil) h (by kernel_rfl) (fun h=>?_) (fun h=>?_)
 ·obtain⟨v47,y47,h⟩:=bm h
  refine x_frk 8 [(4,.call [] [] (bl v47) [])] (ocons (Tspec_SolidOk (Y:=Y) n a0.1.2.2.2.1 _ y47) onil) h (by kernel_rfl) (fun h=>?_) (fun h=>?_)
  ·replace h:=sj h;subst h
   exact x_end 20 [] [] onil onil 
  ·refine x_frk 6 [] onil h (by kernel_rfl) (fun h=>?_) (fun h=>?_)
   ·obtain⟨v48,y48,h⟩:=bm h
    exact x_to 9 [(4,.call [] [] (bl v48) [])] (ocons (Tspec_l20None (Y:=Y) a0.1.2.2.2.1 _ y48) onil) (Tspec_DeskOk_3 n (w64 (t3+v46)) (!v48) a0 r h) 
   ·exact x_to 11 [] onil (Tspec_DeskOk_12 n (w64 (t3+v46)) a0 r h) 
 ·refine x_frk 14 [] onil h (by kernel_rfl) (fun h=>?_) (fun h=>?_)
  ·obtain⟨v49,y49,h⟩:=bm h
   exact x_to 9 [(4,.call [] [] (bl v49) [])] (ocons (Tspec_l20None (Y:=Y) a0.1.2.2.2.1 _ y49) onil) (Tspec_DeskOk_3 n (w64 (t3+v46)) (!v49) a0 r h) 
  ·exact x_to 11 [] onil (Tspec_DeskOk_12 n (w64 (t3+v46)) a0 r h) 
def Dspec_DeskOk_1(n:Nat)(t3:Int)(t35:Bool)(a0:Dsk):Option Bool :=
 frk t35 (some false) ((Dspec_l8Count n a0.1.2.1 301).bind fun v5=>frk a0.2.2.2.1 ((Dspec_SolidOk n a0.1.2.2.1).bind fun v6=>frk (!v6) (some false) (frk (!a0.2.2.2.1) ((Dspec_l20None a0.1.2.2.1).bind fun v7=>Dspec_DeskOk_2 n (w64 (t3+v5)) (!v7) a0) (Dspec_DeskOk_13 n (w64 (t3+v5)) a0))) (frk (!a0.2.2.2.1) ((Dspec_l20None a0.1.2.2.1).bind fun v50=>Dspec_DeskOk_2 n (w64 (t3+v5)) (!v50) a0) (Dspec_DeskOk_13 n (w64 (t3+v5)) a0)))
theorem Tspec_DeskOk_1{Y}(n:Nat)(t3:Int)(t35:Bool)(a0:Dsk)(r:Bool)(h:Dspec_DeskOk_1 n t3 t35 a0=some r):Wk Tryz.prog H Y 50 [.code (cp [1,1,0,1,0,0,1,0,0,0,1] (bodyOf Tryz.f50)),.code (cp [1,1,0,1,0,0,1,0,0,1] (bodyOf Tryz.f50)),.blk 1,.code (cp [1,1,0,1,0,0,1,1] (bodyOf Tryz.f50)),.lp (cp [1,1,0,1,0] (bodyOf Tryz.f50)),.blk 0,.code (cp [1,1,1] (bodyOf Tryz.f50))] (FinX Tryz.prog Tryz.f50 [] (bl r) []) ⟨[(1,.ptr 1 0),(3,i64 t3),(4,i64 1),(35,bl t35)],[(1,⟨true,0,(cT38 a0)⟩)]⟩:=by
 unfold Dspec_DeskOk_1 at h
 refine x_frk 0 [] onil h (by kernel_rfl) (fun h=>?_) (fun h=>?_)
 ·replace h:=sj h;subst h
  exact x_end 4 [] [] onil onil 
 ·obtain⟨v5,y5,h⟩:=bm h
  refine x_frk 37 [(5,.call [] [] (i64 v5) [])] (ocons (Tspec_l8Count (Y:=Y) n a0.1.2.1 301 _ y5) onil) h (by kernel_rfl) (fun h=>?_) (fun h=>?_)
  ·obtain⟨v6,y6,h⟩:=bm h
   refine x_frk 8 [(4,.call [] [] (bl v6) [])] (ocons (Tspec_SolidOk (Y:=Y) n a0.1.2.2.1 _ y6) onil) h (by kernel_rfl) (fun h=>?_) (fun h=>?_)
   ·replace h:=sj h;subst h
    exact x_end 20 [] [] onil onil 
   ·refine x_frk 6 [] onil h (by kernel_rfl) (fun h=>?_) (fun h=>?_)
    ·obtain⟨v7,y7,h⟩:=bm h
     exact x_to 9 [(4,.call [] [] (bl v7) [])] (ocons (Tspec_l20None (Y:=Y) a0.1.2.2.1 _ y7) onil) (Tspec_DeskOk_2 n (w64 (t3+v5)) (!v7) a0 r h) 
    ·exact x_to 11 [] onil (Tspec_DeskOk_13 n (w64 (t3+v5)) a0 r h) 
  ·refine x_frk 14 [] onil h (by kernel_rfl) (fun h=>?_) (fun h=>?_)
   ·obtain⟨v50,y50,h⟩:=bm h
    exact x_to 9 [(4,.call [] [] (bl v50) [])] (ocons (Tspec_l20None (Y:=Y) a0.1.2.2.1 _ y50) onil) (Tspec_DeskOk_2 n (w64 (t3+v5)) (!v50) a0 r h) 
   ·exact x_to 11 [] onil (Tspec_DeskOk_13 n (w64 (t3+v5)) a0 r h) 
def Dspec_DeskOk_14(n:Nat)(t3:Int)(a0:Dsk):Option Bool :=
 (Dspec_l8Count n a0.1.2.1 301).bind fun v51=>frk a0.2.2.2.1 ((Dspec_SolidOk n a0.1.2.2.1).bind fun v52=>frk (!v52) (some false) (frk (!a0.2.2.2.1) ((Dspec_l20None a0.1.2.2.1).bind fun v53=>Dspec_DeskOk_2 n (w64 (t3+v51)) (!v53) a0) (Dspec_DeskOk_13 n (w64 (t3+v51)) a0))) (frk (!a0.2.2.2.1) ((Dspec_l20None a0.1.2.2.1).bind fun v54=>Dspec_DeskOk_2 n (w64 (t3+v51)) (!v54) a0) (Dspec_DeskOk_13 n (w64 (t3+v51)) a0))
theorem Tspec_DeskOk_14{Y}(n:Nat)(t3:Int)(a0:Dsk)(r:Bool)(h:Dspec_DeskOk_14 n t3 a0=some r):Wk Tryz.prog H Y 50 [.code (cp [1,1,0,1,0,0,1,0,0,1] (bodyOf Tryz.f50)),.blk 1,.code (cp [1,1,0,1,0,0,1,1] (bodyOf Tryz.f50)),.lp (cp [1,1,0,1,0] (bodyOf Tryz.f50)),.blk 0,.code (cp [1,1,1] (bodyOf Tryz.f50))] (FinX Tryz.prog Tryz.f50 [] (bl r) []) ⟨[(1,.ptr 1 0),(3,i64 t3),(4,i64 1)],[(1,⟨true,0,(cT38 a0)⟩)]⟩:=by
 unfold Dspec_DeskOk_14 at h
 obtain⟨v51,y51,h⟩:=bm h
 refine x_frk 36 [(5,.call [] [] (i64 v51) [])] (ocons (Tspec_l8Count (Y:=Y) n a0.1.2.1 301 _ y51) onil) h (by kernel_rfl) (fun h=>?_) (fun h=>?_)
 ·obtain⟨v52,y52,h⟩:=bm h
  refine x_frk 8 [(4,.call [] [] (bl v52) [])] (ocons (Tspec_SolidOk (Y:=Y) n a0.1.2.2.1 _ y52) onil) h (by kernel_rfl) (fun h=>?_) (fun h=>?_)
  ·replace h:=sj h;subst h
   exact x_end 20 [] [] onil onil 
  ·refine x_frk 6 [] onil h (by kernel_rfl) (fun h=>?_) (fun h=>?_)
   ·obtain⟨v53,y53,h⟩:=bm h
    exact x_to 9 [(4,.call [] [] (bl v53) [])] (ocons (Tspec_l20None (Y:=Y) a0.1.2.2.1 _ y53) onil) (Tspec_DeskOk_2 n (w64 (t3+v51)) (!v53) a0 r h) 
   ·exact x_to 11 [] onil (Tspec_DeskOk_13 n (w64 (t3+v51)) a0 r h) 
 ·refine x_frk 14 [] onil h (by kernel_rfl) (fun h=>?_) (fun h=>?_)
  ·obtain⟨v54,y54,h⟩:=bm h
   exact x_to 9 [(4,.call [] [] (bl v54) [])] (ocons (Tspec_l20None (Y:=Y) a0.1.2.2.1 _ y54) onil) (Tspec_DeskOk_2 n (w64 (t3+v51)) (!v54) a0 r h) 
  ·exact x_to 11 [] onil (Tspec_DeskOk_13 n (w64 (t3+v51)) a0 r h) 
def Dspec_DeskOk_0(n:Nat)(t35:Bool)(a0:Dsk):Option Bool :=
 frk t35 (some false) ((Dspec_l8Count n a0.1.1 301).bind fun v2=>frk a0.2.2.1 ((Dspec_SolidOk n a0.1.2.1).bind fun v3=>frk (!v3) (some false) (frk (!a0.2.2.1) ((Dspec_l20None a0.1.2.1).bind fun v4=>Dspec_DeskOk_1 n (w64 (0+v2)) (!v4) a0) (Dspec_DeskOk_14 n (w64 (0+v2)) a0))) (frk (!a0.2.2.1) ((Dspec_l20None a0.1.2.1).bind fun v55=>Dspec_DeskOk_1 n (w64 (0+v2)) (!v55) a0) (Dspec_DeskOk_14 n (w64 (0+v2)) a0)))
theorem Tspec_DeskOk_0{Y}(n:Nat)(t35:Bool)(a0:Dsk)(r:Bool)(h:Dspec_DeskOk_0 n t35 a0=some r):Wk Tryz.prog H Y 50 [.code (cp [1,1,0,1,0,0,1,0,0,0,1] (bodyOf Tryz.f50)),.code (cp [1,1,0,1,0,0,1,0,0,1] (bodyOf Tryz.f50)),.blk 1,.code (cp [1,1,0,1,0,0,1,1] (bodyOf Tryz.f50)),.lp (cp [1,1,0,1,0] (bodyOf Tryz.f50)),.blk 0,.code (cp [1,1,1] (bodyOf Tryz.f50))] (FinX Tryz.prog Tryz.f50 [] (bl r) []) ⟨[(1,.ptr 1 0),(3,i64 0),(4,i64 0),(35,bl t35)],[(1,⟨true,0,(cT38 a0)⟩)]⟩:=by
 unfold Dspec_DeskOk_0 at h
 refine x_frk 0 [] onil h (by kernel_rfl) (fun h=>?_) (fun h=>?_)
 ·replace h:=sj h;subst h
  exact x_end 4 [] [] onil onil 
 ·obtain⟨v2,y2,h⟩:=bm h
  refine x_frk 37 [(5,.call [] [] (i64 v2) [])] (ocons (Tspec_l8Count (Y:=Y) n a0.1.1 301 _ y2) onil) h (by kernel_rfl) (fun h=>?_) (fun h=>?_)
  ·obtain⟨v3,y3,h⟩:=bm h
   refine x_frk 8 [(4,.call [] [] (bl v3) [])] (ocons (Tspec_SolidOk (Y:=Y) n a0.1.2.1 _ y3) onil) h (by kernel_rfl) (fun h=>?_) (fun h=>?_)
   ·replace h:=sj h;subst h
    exact x_end 20 [] [] onil onil 
   ·refine x_frk 6 [] onil h (by kernel_rfl) (fun h=>?_) (fun h=>?_)
    ·obtain⟨v4,y4,h⟩:=bm h
     exact x_to 9 [(4,.call [] [] (bl v4) [])] (ocons (Tspec_l20None (Y:=Y) a0.1.2.1 _ y4) onil) (Tspec_DeskOk_1 n (w64 (0+v2)) (!v4) a0 r h) 
    ·exact x_to 11 [] onil (Tspec_DeskOk_14 n (w64 (0+v2)) a0 r h) 
  ·refine x_frk 14 [] onil h (by kernel_rfl) (fun h=>?_) (fun h=>?_)
   ·obtain⟨v55,y55,h⟩:=bm h
    exact x_to 9 [(4,.call [] [] (bl v55) [])] (ocons (Tspec_l20None (Y:=Y) a0.1.2.1 _ y55) onil) (Tspec_DeskOk_1 n (w64 (0+v2)) (!v55) a0 r h) 
   ·exact x_to 11 [] onil (Tspec_DeskOk_14 n (w64 (0+v2)) a0 r h) 
def Dspec_DeskOk_15(n:Nat)(a0:Dsk):Option Bool :=
 (Dspec_l8Count n a0.1.1 301).bind fun v56=>frk a0.2.2.1 ((Dspec_SolidOk n a0.1.2.1).bind fun v57=>frk (!v57) (some false) (frk (!a0.2.2.1) ((Dspec_l20None a0.1.2.1).bind fun v58=>Dspec_DeskOk_1 n (w64 (0+v56)) (!v58) a0) (Dspec_DeskOk_14 n (w64 (0+v56)) a0))) (frk (!a0.2.2.1) ((Dspec_l20None a0.1.2.1).bind fun v59=>Dspec_DeskOk_1 n (w64 (0+v56)) (!v59) a0) (Dspec_DeskOk_14 n (w64 (0+v56)) a0))
theorem Tspec_DeskOk_15{Y}(n:Nat)(a0:Dsk)(r:Bool)(h:Dspec_DeskOk_15 n a0=some r):Wk Tryz.prog H Y 50 [.code (cp [1,1,0,1,0,0,1,0,0,1] (bodyOf Tryz.f50)),.blk 1,.code (cp [1,1,0,1,0,0,1,1] (bodyOf Tryz.f50)),.lp (cp [1,1,0,1,0] (bodyOf Tryz.f50)),.blk 0,.code (cp [1,1,1] (bodyOf Tryz.f50))] (FinX Tryz.prog Tryz.f50 [] (bl r) []) ⟨[(1,.ptr 1 0),(3,i64 0),(4,i64 0)],[(1,⟨true,0,(cT38 a0)⟩)]⟩:=by
 unfold Dspec_DeskOk_15 at h
 obtain⟨v56,y56,h⟩:=bm h
 refine x_frk 36 [(5,.call [] [] (i64 v56) [])] (ocons (Tspec_l8Count (Y:=Y) n a0.1.1 301 _ y56) onil) h (by kernel_rfl) (fun h=>?_) (fun h=>?_)
 ·obtain⟨v57,y57,h⟩:=bm h
  refine x_frk 8 [(4,.call [] [] (bl v57) [])] (ocons (Tspec_SolidOk (Y:=Y) n a0.1.2.1 _ y57) onil) h (by kernel_rfl) (fun h=>?_) (fun h=>?_)
  ·replace h:=sj h;subst h
   exact x_end 20 [] [] onil onil 
  ·refine x_frk 6 [] onil h (by kernel_rfl) (fun h=>?_) (fun h=>?_)
   ·obtain⟨v58,y58,h⟩:=bm h
    exact x_to 9 [(4,.call [] [] (bl v58) [])] (ocons (Tspec_l20None (Y:=Y) a0.1.2.1 _ y58) onil) (Tspec_DeskOk_1 n (w64 (0+v56)) (!v58) a0 r h) 
   ·exact x_to 11 [] onil (Tspec_DeskOk_14 n (w64 (0+v56)) a0 r h) 
 ·refine x_frk 14 [] onil h (by kernel_rfl) (fun h=>?_) (fun h=>?_)
  ·obtain⟨v59,y59,h⟩:=bm h
   exact x_to 9 [(4,.call [] [] (bl v59) [])] (ocons (Tspec_l20None (Y:=Y) a0.1.2.1 _ y59) onil) (Tspec_DeskOk_1 n (w64 (0+v56)) (!v59) a0 r h) 
  ·exact x_to 11 [] onil (Tspec_DeskOk_14 n (w64 (0+v56)) a0 r h) 
def Dspec_DeskOk(n:Nat)(a0:Dsk):Option Bool :=
 frk a0.2.1 ((Dspec_SolidOk n a0.1.1).bind fun v0=>frk (!v0) (some false) (frk (!a0.2.1) ((Dspec_l20None a0.1.1).bind fun v1=>Dspec_DeskOk_0 n (!v1) a0) (Dspec_DeskOk_15 n a0))) (frk (!a0.2.1) ((Dspec_l20None a0.1.1).bind fun v60=>Dspec_DeskOk_0 n (!v60) a0) (Dspec_DeskOk_15 n a0))
theorem Tspec_DeskOk{Y}(n:Nat)(a0:Dsk)(r:Bool)(h:Dspec_DeskOk n a0=some r):Big Tryz.prog H Y (.call 50 [.agg (cT38 a0)] (lk []) (bl r) (lk [])):=by
 unfold Dspec_DeskOk at h
 refine x_call (fn:=Tryz.f50) (c:=bodyOf Tryz.f50) (bs0:=[]) Tryz.func50 (by kernel_rfl) (by kernel_rfl) ?_
 refine x_frk 34 [] onil h (by kernel_rfl) (fun h=>?_) (fun h=>?_)
 ·obtain⟨v0,y0,h⟩:=bm h
  refine x_frk 8 [(4,.call [] [] (bl v0) [])] (ocons (Tspec_SolidOk (Y:=Y) n a0.1.1 _ y0) onil) h (by kernel_rfl) (fun h=>?_) (fun h=>?_)
  ·replace h:=sj h;subst h
   exact x_end 20 [] [] onil onil 
  ·refine x_frk 6 [] onil h (by kernel_rfl) (fun h=>?_) (fun h=>?_)
   ·obtain⟨v1,y1,h⟩:=bm h
    exact x_to 9 [(4,.call [] [] (bl v1) [])] (ocons (Tspec_l20None (Y:=Y) a0.1.1 _ y1) onil) (Tspec_DeskOk_0 n (!v1) a0 r h) 
   ·exact x_to 11 [] onil (Tspec_DeskOk_15 n a0 r h) 
 ·refine x_frk 14 [] onil h (by kernel_rfl) (fun h=>?_) (fun h=>?_)
  ·obtain⟨v60,y60,h⟩:=bm h
   exact x_to 9 [(4,.call [] [] (bl v60) [])] (ocons (Tspec_l20None (Y:=Y) a0.1.1 _ y60) onil) (Tspec_DeskOk_0 n (!v60) a0 r h) 
  ·exact x_to 11 [] onil (Tspec_DeskOk_15 n a0 r h) 
def Dspec_l8Copy_0(_n:Nat)(self:Sol→Option Sol)(_zab:Bool)(_zac _zad _zae _zaf:Int)(zag:List Sol)(_za:Bool)(_zb _zc _zd _ze:Int)(zg:Bool)(zh zi zj zah:Int)(rec0:(Int×List Sol)→Option Sol)(a:(Int×List Sol)):Option Sol :=
 match a with
 | (t4,l635)=>frk (decide (t4<(zag.length:Int))) ((lget zag t4).bind fun v0=>(self v0).bind fun v1=>chk (apB 64 (l635.length+1)) (rec0 (w64 (t4+1),(l635++[v1])))) (some (Sol.mk zg (Pl.mk zh zi zj zah) l635))
theorem Tspec_l8Copy_0{Y}(n:Nat)(self:Sol→Option Sol)(hself:∀(a:Sol) (r:Sol),self a=some r→Big Tryz.prog H Y (.call 117 [eF a] (lk []) (eS r) (lk [])))(zab:Bool)(zac zad zae zaf:Int)(zag:List Sol)(za:Bool)(zb zc zd ze:Int)(zg:Bool)(zh zi zj zah:Int):∀(m:Nat) (a:(Int×List Sol)) (r:Sol),loopN (Dspec_l8Copy_0 n self zab zac zad zae zaf zag za zb zc zd ze zg zh zi zj zah) m a=some r→Wk Tryz.prog H Y 117 [.code (cp [1,1,0,1,0] (bodyOf Tryz.f117)),.blk 0,.code (cp [1,1,1] (bodyOf Tryz.f117))] (FinX Tryz.prog Tryz.f117 [] (eS r) []) ⟨[(1,.ptr 1 0),(2,.ptr 2 0),(3,.ptr 3 0),(4,i64 a.1)],[(1,⟨true,0,[bl zab,i64 zac,i64 zad,i64 zae,i64 zaf,.sl false 6 zag.length ((eSol false).f zag)]⟩),(2,⟨true,0,[bl za,i64 zb,i64 zc,i64 zd,i64 ze,.nil]⟩),(3,⟨true,0,[bl zg,i64 zh,i64 zi,i64 zj,i64 zah,.msl 635 a.2.length]⟩),(635,⟨true,6,(eSol true).f a.2⟩)]⟩:=by
 refine loopN_ind (fun _rec0 hrec0 a r h=>?_)
 obtain⟨t4,l635⟩:=a
 unfold Dspec_l8Copy_0 at h
 refine x_frk 10 [] onil h (by kernel_rfl) (fun h=>?_) (fun h=>?_)
 ·obtain⟨v0,y0,h⟩:=bm h
  obtain⟨v1,y1,h⟩:=bm h
  obtain⟨c2,h⟩:=chk_some h
  exact x_to 26 [(5,.val (.cptr ((eSol false).c v0++(eSol false).f ((zag).drop (Int.toNat t4+1))))),(1,.call [] [] (eS v1) []),(1,.fixb 25 ⟨true,6,(eSol true).f [v1]⟩),(0,.app true (List.length (l635++[v1])) ((eSol true).f (l635++[v1]))),(5,.ren 26 635)] (ocons (ix (eSol false) y0) (ocons (hself v0 _ y1) (ocons (boxSol true true [v1]) (ocons (len_row' (L:=l635) (eSol true)) (ocons (app_one (L:=l635) (M:=[v1]) (eSol true) c2) (ocons (app_new (L:=l635) (M:=[v1]) (eSol true)) (ocons (app_m (L:=l635) (M:=[v1]) (eSol true) rfl) (ocons (len_row' (L:=[v1]) (eSol true)) (ocons (show 26<1000∧635<1000 by decide) onil))))))))) (hrec0 (w64 (t4+1),(l635++[v1])) r h) 
 ·replace h:=sj h;subst h
  exact x_end 6 [] [] onil (ocons (len_row (L:=l635) (eSol true)) onil) 
def Dspec_l8Copy_b(n:Nat)(self:Sol→Option Sol)(a:Sol):Option Sol :=
 match a with
 | a0=>loopN (Dspec_l8Copy_0 n self a0.inn a0.pl.A a0.pl.B a0.pl.C a0.pl.D a0.kids false 0 0 0 0 a0.inn a0.pl.A a0.pl.B a0.pl.C a0.pl.D) n (0,[])
def Dspec_l8Copy(n:Nat)(a0:Sol):Option Sol:=loopN (Dspec_l8Copy_b n) n a0
theorem Tspec_l8Copy_b{Y}(n:Nat):∀(m:Nat) (a:Sol) (r:Sol),loopN (Dspec_l8Copy_b n) m a=some r→∀(_:Unit),Big Tryz.prog H Y (.call 117 [eF a] (lk []) (eS r) (lk [])):=by
 refine loopN_ind (fun self hs a r h=>?_)
 have hself:∀(a:Sol) (r:Sol),self a=some r→Big Tryz.prog H Y (.call 117 [eF a] (lk []) (eS r) (lk [])):=fun a r h=>hs a r h ()
 intro _
 obtain⟨a0,rfl⟩:∃x,x=a:=⟨a,rfl⟩
 unfold Dspec_l8Copy_b at h
 refine x_call (fn:=Tryz.f117) (c:=bodyOf Tryz.f117) (bs0:=[]) Tryz.func117 (by kernel_rfl) (by kernel_rfl) ?_
 exact x_to 22 [(9,.virtc 3 ⟨true,0,[bl a0.inn,i64 a0.pl.A,i64 a0.pl.B,i64 a0.pl.C,i64 a0.pl.D,.nil]⟩ 5 635 6)] (ocons (rflB ⟨true,0,[bl a0.inn,i64 a0.pl.A,i64 a0.pl.B,i64 a0.pl.C,i64 a0.pl.D,.nil]⟩) (ocons (⟨rfl,rfl,by decide,by decide,by decide⟩:(⟨true,0,[bl a0.inn,i64 a0.pl.A,i64 a0.pl.B,i64 a0.pl.C,i64 a0.pl.D,.nil]⟩:Box).cs[5]?=some .nil∧(⟨true,0,[bl a0.inn,i64 a0.pl.A,i64 a0.pl.B,i64 a0.pl.C,i64 a0.pl.D,.nil]⟩:Box).sz=0∧3≠635∧635<1000∧6≠0) onil)) (Tspec_l8Copy_0 n self hself a0.inn a0.pl.A a0.pl.B a0.pl.C a0.pl.D a0.kids false 0 0 0 0 a0.inn a0.pl.A a0.pl.B a0.pl.C a0.pl.D n (0,[]) r h) 
theorem Tspec_l8Copy{Y}(n:Nat)(a0:Sol)(r:Sol)(h:Dspec_l8Copy n a0=some r):Big Tryz.prog H Y (.call 117 [eF a0] (lk []) (eS r) (lk [])):=Tspec_l8Copy_b n n a0 r h ()
def Dspec_l20Copy(n:Nat)(a0:Dsk):Option Dsk :=
 (Dspec_l8Copy n a0.1.1).bind fun v0=>(Dspec_l8Copy n a0.1.2.1).bind fun v1=>(Dspec_l8Copy n a0.1.2.2.1).bind fun v2=>(Dspec_l8Copy n a0.1.2.2.2.1).bind fun v3=>(Dspec_l8Copy n a0.1.2.2.2.2.1).bind fun v4=>(Dspec_l8Copy n a0.1.2.2.2.2.2.1).bind fun v5=>(Dspec_l8Copy n a0.1.2.2.2.2.2.2.1).bind fun v6=>(Dspec_l8Copy n a0.1.2.2.2.2.2.2.2).bind fun v7=>some ((v0,v1,v2,v3,v4,v5,v6,v7),a0.2)
theorem Tspec_l20Copy{Y}(n:Nat)(a0:Dsk)(r:Dsk)(h:Dspec_l20Copy n a0=some r):Big Tryz.prog H Y (.call 53 [.agg (cT38 a0)] (lk []) (.agg (cT38o r)) (lk [])):=by
 unfold Dspec_l20Copy at h
 refine x_call (fn:=Tryz.f53) (c:=bodyOf Tryz.f53) (bs0:=[]) Tryz.func53 (by kernel_rfl) (by kernel_rfl) ?_
 obtain⟨v0,y0,h⟩:=bm h
 obtain⟨v1,y1,h⟩:=bm h
 obtain⟨v2,y2,h⟩:=bm h
 obtain⟨v3,y3,h⟩:=bm h
 obtain⟨v4,y4,h⟩:=bm h
 obtain⟨v5,y5,h⟩:=bm h
 obtain⟨v6,y6,h⟩:=bm h
 obtain⟨v7,y7,h⟩:=bm h
 replace h:=sj h;subst h
 exact x_end 263 [(13,.call [] [] (eS v0) []),(13,.call [] [] (eS v1) []),(13,.call [] [] (eS v2) []),(13,.call [] [] (eS v3) []),(13,.call [] [] (eS v4) []),(13,.call [] [] (eS v5) []),(13,.call [] [] (eS v6) []),(13,.call [] [] (eS v7) [])] [] (ocons (Tspec_l8Copy (Y:=Y) n a0.1.1 _ y0) (ocons (Tspec_l8Copy (Y:=Y) n a0.1.2.1 _ y1) (ocons (Tspec_l8Copy (Y:=Y) n a0.1.2.2.1 _ y2) (ocons (Tspec_l8Copy (Y:=Y) n a0.1.2.2.2.1 _ y3) (ocons (Tspec_l8Copy (Y:=Y) n a0.1.2.2.2.2.1 _ y4) (ocons (Tspec_l8Copy (Y:=Y) n a0.1.2.2.2.2.2.1 _ y5) (ocons (Tspec_l8Copy (Y:=Y) n a0.1.2.2.2.2.2.2.1 _ y6) (ocons (Tspec_l8Copy (Y:=Y) n a0.1.2.2.2.2.2.2.2 _ y7) onil)))))))) onil 
def Dspec_l20At(a0:Int):Option Bool :=
 (Dspec_l1In a0 0 7).bind fun v0=>some v0
theorem Tspec_l20At{Y}(a0:Int)(r:Bool)(h:Dspec_l20At a0=some r):Big Tryz.prog H Y (.call 51 [i64 a0] (lk []) (bl r) (lk [])):=by
 unfold Dspec_l20At at h
 refine x_call (fn:=Tryz.f51) (c:=bodyOf Tryz.f51) (bs0:=[]) Tryz.func51 (by kernel_rfl) (by kernel_rfl) ?_
 obtain⟨v0,y0,h⟩:=bm h
 replace h:=sj h;subst h
 exact x_end 10 [(2,.call [] [] (bl v0) [])] [] (ocons (Tspec_l1In (Y:=Y) a0 0 7 _ y0) onil) onil 
def Dspec_Leaf(a0:Bool):Option Sol :=
 some (Sol.mk a0 (Pl.mk 0 0 0 0) [])
theorem Tspec_Leaf{Y}(a0:Bool)(r:Sol)(h:Dspec_Leaf a0=some r):Big Tryz.prog H Y (.call 118 [bl a0] (lk []) (eS r) (lk [])):=by
 unfold Dspec_Leaf at h
 refine x_call (fn:=Tryz.f118) (c:=bodyOf Tryz.f118) (bs0:=[]) Tryz.func118 (by kernel_rfl) (by kernel_rfl) ?_
 replace h:=sj h;subst h
 exact x_end 10 [] [(true,6)] onil onil 
def Dspec_l11In(a0:Int)(a1 a2:Bool):Option Bool :=
 frk (a0==1) (frk a1 (some a2) (some false)) (frk (a0==2) (frk a1 (some true) (some a2)) (frk (a0==3) (frk a1 (some (!a2)) (some false)) (some (!(a1==a2)))))
theorem Tspec_l11In{Y}(a0:Int)(a1 a2 r:Bool)(h:Dspec_l11In a0 a1 a2=some r):Big Tryz.prog H Y (.call 216 [i64 a0,bl a1,bl a2] (lk []) (bl r) (lk [])):=by
 unfold Dspec_l11In at h
 refine x_call (fn:=Tryz.f216) (c:=bodyOf Tryz.f216) (bs0:=[]) Tryz.func216 (by kernel_rfl) (by kernel_rfl) ?_
 refine x_frk 15 [] onil h (by kernel_rfl) (fun h=>?_) (fun h=>?_)
 ·refine x_frk 4 [] onil h (by kernel_rfl) (fun h=>?_) (fun h=>?_)
  ·replace h:=sj h;subst h
   exact x_end 4 [] [] onil onil 
  ·replace h:=sj h;subst h
   exact x_end 4 [] [] onil onil 
 ·refine x_frk 5 [] onil h (by kernel_rfl) (fun h=>?_) (fun h=>?_)
  ·refine x_frk 4 [] onil h (by kernel_rfl) (fun h=>?_) (fun h=>?_)
   ·replace h:=sj h;subst h
    exact x_end 4 [] [] onil onil 
   ·replace h:=sj h;subst h
    exact x_end 4 [] [] onil onil 
  ·refine x_frk 5 [] onil h (by kernel_rfl) (fun h=>?_) (fun h=>?_)
   ·refine x_frk 4 [] onil h (by kernel_rfl) (fun h=>?_) (fun h=>?_)
    ·replace h:=sj h;subst h
     exact x_end 5 [] [] onil onil 
    ·replace h:=sj h;subst h
     exact x_end 5 [] [] onil onil 
   ·replace h:=sj h;subst h
    exact x_end 9 [] [] onil onil 
def Dspec_l8Nodeo1o2(a0:Pl)(a1:Sol)(a2:Sol):Option Sol :=
 some (Sol.mk false a0 [a1,a2])
theorem Tspec_l8Nodeo1o2{Y}(a0:Pl)(a1:Sol)(a2:Sol)(r:Sol)(h:Dspec_l8Nodeo1o2 a0 a1 a2=some r):Big Tryz.prog H Y (.call 122 [.agg [i64 a0.A,i64 a0.B,i64 a0.C,i64 a0.D],eS a1,eS a2] (lk []) (eS r) (lk [])):=by
 unfold Dspec_l8Nodeo1o2 at h
 refine x_call (fn:=Tryz.f122) (c:=bodyOf Tryz.f122) (bs0:=[]) Tryz.func122 (by kernel_rfl) (by kernel_rfl) ?_
 replace h:=sj h;subst h
 exact x_end 17 [(8,.fixb 10 ⟨true,6,(eSol true).f [a1,a2]⟩)] [] (ocons (boxSol true true [a1,a2]) onil) (ocons (len_row (L:=[a1,a2]) (eSol true)) onil) 
def Dspec_l11Nodeo1o2_0(t19:Bool)(zg zh zi zj:Int)(zk:Bool)(zl zm zn zai:Int)(zaj:List Sol)(zo:Bool)(zp zq zr zak:Int)(zal:List Sol)(_zam:Bool)(_zan _zao _zap _zaq:Int):Option Sol :=
 frk t19 ((Dspec_Leaf zk).bind fun v2=>some v2) ((Dspec_l8Nodeo1o2 (Pl.mk zg zh zi zj) (Sol.mk zk (Pl.mk zl zm zn zai) zaj) (Sol.mk zo (Pl.mk zp zq zr zak) zal)).bind fun v3=>some v3)
theorem Tspec_l11Nodeo1o2_0{Y}(t19:Bool)(zg zh zi zj:Int)(zk:Bool)(zl zm zn zai:Int)(zaj:List Sol)(zo:Bool)(zp zq zr zak:Int)(zal:List Sol)(zam:Bool)(zan zao zap zaq:Int)(r:Sol)(h:Dspec_l11Nodeo1o2_0 t19 zg zh zi zj zk zl zm zn zai zaj zo zp zq zr zak zal zam zan zao zap zaq=some r):Wk Tryz.prog H Y 183 [.code (cp [1,0,1] (bodyOf Tryz.f183)),.code (cp [1,1] (bodyOf Tryz.f183))] (FinX Tryz.prog Tryz.f183 [] (eS r) []) ⟨[(3,.ptr 3 0),(4,.ptr 4 0),(5,.ptr 5 0),(6,.ptr 6 0),(19,bl t19)],[(3,⟨true,0,[i64 zg,i64 zh,i64 zi,i64 zj]⟩),(4,⟨true,0,[bl zk,i64 zl,i64 zm,i64 zn,i64 zai,.sl true 6 zaj.length ((eSol true).f zaj)]⟩),(5,⟨true,0,[bl zo,i64 zp,i64 zq,i64 zr,i64 zak,.sl true 6 zal.length ((eSol true).f zal)]⟩),(6,⟨true,0,[bl zam,i64 zan,i64 zao,i64 zap,i64 zaq,.nil]⟩)]⟩:=by
 unfold Dspec_l11Nodeo1o2_0 at h
 refine x_frk 0 [] onil h (by kernel_rfl) (fun h=>?_) (fun h=>?_)
 ·obtain⟨v2,y2,h⟩:=bm h
  replace h:=sj h;subst h
  exact x_end 7 [(2,.call [] [] (eS v2) [])] [] (ocons (Tspec_Leaf (Y:=Y) zk _ y2) onil) onil 
 ·obtain⟨v3,y3,h⟩:=bm h
  replace h:=sj h;subst h
  exact x_end 9 [(3,.call [] [] (eS v3) [])] [] (ocons (Tspec_l8Nodeo1o2 (Y:=Y) (Pl.mk zg zh zi zj) (Sol.mk zk (Pl.mk zl zm zn zai) zaj) (Sol.mk zo (Pl.mk zp zq zr zak) zal) _ y3) onil) onil 
def Dspec_l11Nodeo1o2_1(zg zh zi zj:Int)(zk:Bool)(zl zm zn zai:Int)(zaj:List Sol)(zo:Bool)(zp zq zr zak:Int)(zal:List Sol)(_zam:Bool)(_zan _zao _zap _zaq:Int):Option Sol :=
 (Dspec_l8Nodeo1o2 (Pl.mk zg zh zi zj) (Sol.mk zk (Pl.mk zl zm zn zai) zaj) (Sol.mk zo (Pl.mk zp zq zr zak) zal)).bind fun v4=>some v4
theorem Tspec_l11Nodeo1o2_1{Y}(zg zh zi zj:Int)(zk:Bool)(zl zm zn zai:Int)(zaj:List Sol)(zo:Bool)(zp zq zr zak:Int)(zal:List Sol)(zam:Bool)(zan zao zap zaq:Int)(r:Sol)(h:Dspec_l11Nodeo1o2_1 zg zh zi zj zk zl zm zn zai zaj zo zp zq zr zak zal zam zan zao zap zaq=some r):Wk Tryz.prog H Y 183 [.code (cp [1,1,0] (bodyOf Tryz.f183)),.code (cp [1,1,1] (bodyOf Tryz.f183))] (FinX Tryz.prog Tryz.f183 [] (eS r) []) ⟨[(3,.ptr 3 0),(4,.ptr 4 0),(5,.ptr 5 0),(6,.ptr 6 0)],[(3,⟨true,0,[i64 zg,i64 zh,i64 zi,i64 zj]⟩),(4,⟨true,0,[bl zk,i64 zl,i64 zm,i64 zn,i64 zai,.sl true 6 zaj.length ((eSol true).f zaj)]⟩),(5,⟨true,0,[bl zo,i64 zp,i64 zq,i64 zr,i64 zak,.sl true 6 zal.length ((eSol true).f zal)]⟩),(6,⟨true,0,[bl zam,i64 zan,i64 zao,i64 zap,i64 zaq,.nil]⟩)]⟩:=by
 unfold Dspec_l11Nodeo1o2_1 at h
 obtain⟨v4,y4,h⟩:=bm h
 replace h:=sj h;subst h
 exact x_end 7 [(3,.call [] [] (eS v4) [])] [] (ocons (Tspec_l8Nodeo1o2 (Y:=Y) (Pl.mk zg zh zi zj) (Sol.mk zk (Pl.mk zl zm zn zai) zaj) (Sol.mk zo (Pl.mk zp zq zr zak) zal) _ y4) onil) onil 
def Dspec_l11Nodeo1o2(a0:Pl)(a1:Sol)(a2:Sol):Option Sol :=
 (Dspec_l8Leaf a1).bind fun v0=>frk v0 ((Dspec_l8Leaf a2).bind fun v1=>frk v1 (Dspec_l11Nodeo1o2_0 (a1.inn==a2.inn) a0.A a0.B a0.C a0.D a1.inn a1.pl.A a1.pl.B a1.pl.C a1.pl.D a1.kids a2.inn a2.pl.A a2.pl.B a2.pl.C a2.pl.D a2.kids false 0 0 0 0) (Dspec_l11Nodeo1o2_1 a0.A a0.B a0.C a0.D a1.inn a1.pl.A a1.pl.B a1.pl.C a1.pl.D a1.kids a2.inn a2.pl.A a2.pl.B a2.pl.C a2.pl.D a2.kids false 0 0 0 0)) (Dspec_l11Nodeo1o2_1 a0.A a0.B a0.C a0.D a1.inn a1.pl.A a1.pl.B a1.pl.C a1.pl.D a1.kids a2.inn a2.pl.A a2.pl.B a2.pl.C a2.pl.D a2.kids false 0 0 0 0)
theorem Tspec_l11Nodeo1o2{Y}(a0:Pl)(a1:Sol)(a2:Sol)(r:Sol)(h:Dspec_l11Nodeo1o2 a0 a1 a2=some r):Big Tryz.prog H Y (.call 183 [.agg [i64 a0.A,i64 a0.B,i64 a0.C,i64 a0.D],eS a1,eS a2] (lk []) (eS r) (lk [])):=by
 unfold Dspec_l11Nodeo1o2 at h
 refine x_call (fn:=Tryz.f183) (c:=bodyOf Tryz.f183) (bs0:=[]) Tryz.func183 (by kernel_rfl) (by kernel_rfl) ?_
 obtain⟨v0,y0,h⟩:=bm h
 refine x_frk 13 [(4,.rows [(eSol false).f a1.kids]),(0,.call [] [] (bl v0) [])] (ocons (Enc.share (eSol true) (eSol false) (sSol true) a1.kids) (ocons (Tspec_l8Leaf (Y:=Y) a1 _ y0) onil)) h (by kernel_rfl) (fun h=>?_) (fun h=>?_)
 ·obtain⟨v1,y1,h⟩:=bm h
  refine x_frk 4 [(0,.rows [(eSol false).f a2.kids]),(0,.call [] [] (bl v1) [])] (ocons (Enc.share (eSol true) (eSol false) (sSol true) a2.kids) (ocons (Tspec_l8Leaf (Y:=Y) a2 _ y1) onil)) h (by kernel_rfl) (fun h=>?_) (fun h=>?_)
  ·exact x_to 7 [] onil (Tspec_l11Nodeo1o2_0 (a1.inn==a2.inn) a0.A a0.B a0.C a0.D a1.inn a1.pl.A a1.pl.B a1.pl.C a1.pl.D a1.kids a2.inn a2.pl.A a2.pl.B a2.pl.C a2.pl.D a2.kids false 0 0 0 0 r h) 
  ·exact x_to 10 [] onil (Tspec_l11Nodeo1o2_1 a0.A a0.B a0.C a0.D a1.inn a1.pl.A a1.pl.B a1.pl.C a1.pl.D a1.kids a2.inn a2.pl.A a2.pl.B a2.pl.C a2.pl.D a2.kids false 0 0 0 0 r h) 
 ·exact x_to 14 [] onil (Tspec_l11Nodeo1o2_1 a0.A a0.B a0.C a0.D a1.inn a1.pl.A a1.pl.B a1.pl.C a1.pl.D a1.kids a2.inn a2.pl.A a2.pl.B a2.pl.C a2.pl.D a2.kids false 0 0 0 0 r h) 
def Dspec_l11Take_2(_n:Nat)(_self1:((Int×Bool)×Bool×Sol×(List Pl))→Option (Sol×(Int×Bool)))(_zv:Bool)(_zw _zx _zar _zas zat:Int)(zau:Bool):Option (Sol×(Int×Bool)) :=
 (Dspec_Leaf false).bind fun v10=>some (v10,(zat,zau))
theorem Tspec_l11Take_2{Y}(n:Nat)(self1:((Int×Bool)×Bool×Sol×(List Pl))→Option (Sol×(Int×Bool)))(_hself1:∀(a:((Int×Bool)×Bool×Sol×(List Pl))) (r:(Sol×(Int×Bool))),self1 a=some r→Big Tryz.prog H Y (.call 182 [.ptr 1000 0,bl a.2.1,eF a.2.2.1,.sl false 4 a.2.2.2.length ((ePl).f a.2.2.2)] (lk [(1000,⟨true,0,[i64 a.1.1,bl a.1.2]⟩)]) (eS r.1) (lk [(1000,⟨true,0,[i64 r.2.1,bl r.2.2]⟩)])))(zv:Bool)(zw zx zar zas zat:Int)(zau:Bool)(r:(Sol×(Int×Bool)))(h:Dspec_l11Take_2 n self1 zv zw zx zar zas zat zau=some r):Wk Tryz.prog H Y 182 [.code (cp [1,1,1,1,0,0,1,1,1,1,1,0,1,0] (bodyOf Tryz.f182)),.code (cp [1,1,1,1,0,0,1,1,1,1,1,0,1,1] (bodyOf Tryz.f182)),.blk 0,.code (cp [1,1,1,1,1] (bodyOf Tryz.f182))] (FinX Tryz.prog Tryz.f182 [(1000,⟨true,0,[.bad,.bad]⟩)] (eS r.1) [(1000,⟨true,0,[i64 r.2.1,bl r.2.2]⟩)]) ⟨[(8,.ptr 8 0)],[(8,⟨true,0,[bl zv,i64 zw,i64 zx,i64 zar,i64 zas,.nil]⟩),(1000,⟨true,0,[i64 zat,bl zau]⟩)]⟩:=by
 unfold Dspec_l11Take_2 at h
 obtain⟨v10,y10,h⟩:=bm h
 replace h:=sj h;subst h
 exact x_end 4 [(0,.call [] [] (eS v10) [])] [] (ocons (Tspec_Leaf (Y:=Y) false _ y10) onil) onil 
def Dspec_l11Take_3(_n:Nat)(self1:((Int×Bool)×Bool×Sol×(List Pl))→Option (Sol×(Int×Bool)))(t1:Bool)(t3:List Pl)(t62 _zam:Bool)(zan zao zap zaq:Int)(zav:List Sol)(_zv:Bool)(_zw _zx _zar _zas zat:Int)(zau:Bool):Option (Sol×(Int×Bool)) :=
 frk t62 ((Dspec_Leaf false).bind fun v11=>some (v11,(zat,true))) ((lget zav 0).bind fun v12=>(Dspec_l8Path t3 (Pl.mk zan zao zap zaq)).bind fun v13=>(self1 ((zat,zau),t1,v12,v13)).bind fun v14=>(lget zav 1).bind fun v15=>(Dspec_l3Flip (Pl.mk zan zao zap zaq)).bind fun v16=>(Dspec_l8Path t3 v16).bind fun v17=>(self1 (v14.2,t1,v15,v17)).bind fun v18=>(Dspec_l11Nodeo1o2 (Pl.mk zan zao zap zaq) v14.1 v18.1).bind fun v19=>some (v19,v18.2))
theorem Tspec_l11Take_3{Y}(n:Nat)(self1:((Int×Bool)×Bool×Sol×(List Pl))→Option (Sol×(Int×Bool)))(hself1:∀(a:((Int×Bool)×Bool×Sol×(List Pl))) (r:(Sol×(Int×Bool))),self1 a=some r→Big Tryz.prog H Y (.call 182 [.ptr 1000 0,bl a.2.1,eF a.2.2.1,.sl false 4 a.2.2.2.length ((ePl).f a.2.2.2)] (lk [(1000,⟨true,0,[i64 a.1.1,bl a.1.2]⟩)]) (eS r.1) (lk [(1000,⟨true,0,[i64 r.2.1,bl r.2.2]⟩)])))(t1:Bool)(t3:List Pl)(t62 zam:Bool)(zan zao zap zaq:Int)(zav:List Sol)(zv:Bool)(zw zx zar zas zat:Int)(zau:Bool)(r:(Sol×(Int×Bool)))(h:Dspec_l11Take_3 n self1 t1 t3 t62 zam zan zao zap zaq zav zv zw zx zar zas zat zau=some r):Wk Tryz.prog H Y 182 [.code (cp [1,1,1,1,0,0,1,1,1,1,1] (bodyOf Tryz.f182)),.blk 0,.code (cp [1,1,1,1,1] (bodyOf Tryz.f182))] (FinX Tryz.prog Tryz.f182 [(1000,⟨true,0,[.bad,.bad]⟩)] (eS r.1) [(1000,⟨true,0,[i64 r.2.1,bl r.2.2]⟩)]) ⟨[(0,.ptr 1000 0),(1,bl t1),(3,.sl false 4 t3.length ((ePl).f t3)),(6,.ptr 6 0),(8,.ptr 8 0),(62,bl t62)],[(6,⟨true,0,[bl zam,i64 zan,i64 zao,i64 zap,i64 zaq,.sl false 6 zav.length ((eSol false).f zav)]⟩),(8,⟨true,0,[bl zv,i64 zw,i64 zx,i64 zar,i64 zas,.nil]⟩),(1000,⟨true,0,[i64 zat,bl zau]⟩)]⟩:=by
 unfold Dspec_l11Take_3 at h
 refine x_frk 0 [] onil h (by kernel_rfl) (fun h=>?_) (fun h=>?_)
 ·obtain⟨v11,y11,h⟩:=bm h
  replace h:=sj h;subst h
  exact x_end 12 [(4,.call [] [] (eS v11) [])] [] (ocons (Tspec_Leaf (Y:=Y) false _ y11) onil) onil 
 ·obtain⟨v12,y12,h⟩:=bm h
  obtain⟨v13,y13,h⟩:=bm h
  obtain⟨v14,y14,h⟩:=bm h
  obtain⟨v15,y15,h⟩:=bm h
  obtain⟨v16,y16,h⟩:=bm h
  obtain⟨v17,y17,h⟩:=bm h
  obtain⟨v18,y18,h⟩:=bm h
  obtain⟨v19,y19,h⟩:=bm h
  replace h:=sj h;subst h
  exact x_end 38 [(4,.val (.cptr ((eSol false).c v12++(eSol false).f ((zav).drop (Int.toNat 0+1))))),(4,.call [] [] (.sl false 4 v13.length ((ePl).f v13)) []),(0,.call [] [] (eS v14.1) [(1000,⟨true,0,[i64 v14.2.1,bl v14.2.2]⟩)]),(9,.val (.cptr ((eSol false).c v15++(eSol false).f ((zav).drop (Int.toNat 1+1))))),(4,.call [] [] (.agg [i64 v16.A,i64 v16.B,i64 v16.C,i64 v16.D]) []),(0,.call [] [] (.sl false 4 v17.length ((ePl).f v17)) []),(0,.call [] [] (eS v18.1) [(1000,⟨true,0,[i64 v18.2.1,bl v18.2.2]⟩)]),(0,.call [] [] (eS v19) [])] [] (ocons (ix (eSol false) y12) (ocons (shSl (L:=v13) ePl ePl sPl (Tspec_l8Path (Y:=Y) t3 (Pl.mk zan zao zap zaq) _ y13)) (ocons (hself1 ((zat,zau),t1,v12,v13) _ y14) (ocons (ix (eSol false) y15) (ocons (Tspec_l3Flip (Y:=Y) (Pl.mk zan zao zap zaq) _ y16) (ocons (shSl (L:=v17) ePl ePl sPl (Tspec_l8Path (Y:=Y) t3 v16 _ y17)) (ocons (hself1 (v14.2,t1,v15,v17) _ y18) (ocons (Tspec_l11Nodeo1o2 (Y:=Y) (Pl.mk zan zao zap zaq) v14.1 v18.1 _ y19) onil)))))))) onil 
def Dspec_l11Take_1(n:Nat)(self1:((Int×Bool)×Bool×Sol×(List Pl))→Option (Sol×(Int×Bool)))(t1:Bool)(t3:List Pl)(t48 zam:Bool)(zan zao zap zaq:Int)(zav:List Sol)(zv:Bool)(zw zx zar zas zat:Int)(zau:Bool):Option (Sol×(Int×Bool)) :=
 frk t48 ((lget zav 1).bind fun v8=>(self1 ((zat,zau),t1,v8,t3)).bind fun v9=>some v9) (frk zau (Dspec_l11Take_2 n self1 zv zw zx zar zas zat true) (Dspec_l11Take_3 n self1 t1 t3 ((t3.length:Int)==24) zam zan zao zap zaq zav zv zw zx zar zas zat zau))
theorem Tspec_l11Take_1{Y}(n:Nat)(self1:((Int×Bool)×Bool×Sol×(List Pl))→Option (Sol×(Int×Bool)))(hself1:∀(a:((Int×Bool)×Bool×Sol×(List Pl))) (r:(Sol×(Int×Bool))),self1 a=some r→Big Tryz.prog H Y (.call 182 [.ptr 1000 0,bl a.2.1,eF a.2.2.1,.sl false 4 a.2.2.2.length ((ePl).f a.2.2.2)] (lk [(1000,⟨true,0,[i64 a.1.1,bl a.1.2]⟩)]) (eS r.1) (lk [(1000,⟨true,0,[i64 r.2.1,bl r.2.2]⟩)])))(t1:Bool)(t3:List Pl)(t48 zam:Bool)(zan zao zap zaq:Int)(zav:List Sol)(zv:Bool)(zw zx zar zas zat:Int)(zau:Bool)(r:(Sol×(Int×Bool)))(h:Dspec_l11Take_1 n self1 t1 t3 t48 zam zan zao zap zaq zav zv zw zx zar zas zat zau=some r):Wk Tryz.prog H Y 182 [.code (cp [1,1,1,1,0,0,1,1,1] (bodyOf Tryz.f182)),.blk 0,.code (cp [1,1,1,1,1] (bodyOf Tryz.f182))] (FinX Tryz.prog Tryz.f182 [(1000,⟨true,0,[.bad,.bad]⟩)] (eS r.1) [(1000,⟨true,0,[i64 r.2.1,bl r.2.2]⟩)]) ⟨[(0,.ptr 1000 0),(1,bl t1),(3,.sl false 4 t3.length ((ePl).f t3)),(6,.ptr 6 0),(8,.ptr 8 0),(48,bl t48)],[(6,⟨true,0,[bl zam,i64 zan,i64 zao,i64 zap,i64 zaq,.sl false 6 zav.length ((eSol false).f zav)]⟩),(8,⟨true,0,[bl zv,i64 zw,i64 zx,i64 zar,i64 zas,.nil]⟩),(1000,⟨true,0,[i64 zat,bl zau]⟩)]⟩:=by
 unfold Dspec_l11Take_1 at h
 refine x_frk 0 [] onil h (by kernel_rfl) (fun h=>?_) (fun h=>?_)
 ·obtain⟨v8,y8,h⟩:=bm h
  obtain⟨v9,y9,h⟩:=bm h
  replace h:=sj h;subst h
  exact x_end 12 [(4,.val (.cptr ((eSol false).c v8++(eSol false).f ((zav).drop (Int.toNat 1+1))))),(2,.call [] [] (eS v9.1) [(1000,⟨true,0,[i64 v9.2.1,bl v9.2.2]⟩)])] [] (ocons (ix (eSol false) y8) (ocons (hself1 ((zat,zau),t1,v8,t3) _ y9) onil)) onil 
 ·refine x_frk 7 [] onil h (by kernel_rfl) (fun h=>?_) (fun h=>?_)
  ·exact x_to 15 [] onil (Tspec_l11Take_2 n self1 hself1 zv zw zx zar zas zat true r h) 
  ·exact x_to 6 [] onil (Tspec_l11Take_3 n self1 hself1 t1 t3 ((t3.length:Int)==24) zam zan zao zap zaq zav zv zw zx zar zas zat zau r h) 
def Dspec_l11Take_4(n:Nat)(self1:((Int×Bool)×Bool×Sol×(List Pl))→Option (Sol×(Int×Bool)))(t1:Bool)(t3:List Pl)(zam:Bool)(zan zao zap zaq:Int)(zav:List Sol)(zv:Bool)(zw zx zar zas zat:Int)(zau:Bool):Option (Sol×(Int×Bool)) :=
 frk zau (Dspec_l11Take_2 n self1 zv zw zx zar zas zat true) (Dspec_l11Take_3 n self1 t1 t3 ((t3.length:Int)==24) zam zan zao zap zaq zav zv zw zx zar zas zat zau)
theorem Tspec_l11Take_4{Y}(n:Nat)(self1:((Int×Bool)×Bool×Sol×(List Pl))→Option (Sol×(Int×Bool)))(hself1:∀(a:((Int×Bool)×Bool×Sol×(List Pl))) (r:(Sol×(Int×Bool))),self1 a=some r→Big Tryz.prog H Y (.call 182 [.ptr 1000 0,bl a.2.1,eF a.2.2.1,.sl false 4 a.2.2.2.length ((ePl).f a.2.2.2)] (lk [(1000,⟨true,0,[i64 a.1.1,bl a.1.2]⟩)]) (eS r.1) (lk [(1000,⟨true,0,[i64 r.2.1,bl r.2.2]⟩)])))(t1:Bool)(t3:List Pl)(zam:Bool)(zan zao zap zaq:Int)(zav:List Sol)(zv:Bool)(zw zx zar zas zat:Int)(zau:Bool)(r:(Sol×(Int×Bool)))(h:Dspec_l11Take_4 n self1 t1 t3 zam zan zao zap zaq zav zv zw zx zar zas zat zau=some r):Wk Tryz.prog H Y 182 [.code (cp [1,1,1,1,0,0,1,1,1,1,0] (bodyOf Tryz.f182)),.code (cp [1,1,1,1,0,0,1,1,1,1,1] (bodyOf Tryz.f182)),.blk 0,.code (cp [1,1,1,1,1] (bodyOf Tryz.f182))] (FinX Tryz.prog Tryz.f182 [(1000,⟨true,0,[.bad,.bad]⟩)] (eS r.1) [(1000,⟨true,0,[i64 r.2.1,bl r.2.2]⟩)]) ⟨[(0,.ptr 1000 0),(1,bl t1),(3,.sl false 4 t3.length ((ePl).f t3)),(6,.ptr 6 0),(8,.ptr 8 0)],[(6,⟨true,0,[bl zam,i64 zan,i64 zao,i64 zap,i64 zaq,.sl false 6 zav.length ((eSol false).f zav)]⟩),(8,⟨true,0,[bl zv,i64 zw,i64 zx,i64 zar,i64 zas,.nil]⟩),(1000,⟨true,0,[i64 zat,bl zau]⟩)]⟩:=by
 unfold Dspec_l11Take_4 at h
 refine x_frk 6 [] onil h (by kernel_rfl) (fun h=>?_) (fun h=>?_)
 ·exact x_to 15 [] onil (Tspec_l11Take_2 n self1 hself1 zv zw zx zar zas zat true r h) 
 ·exact x_to 6 [] onil (Tspec_l11Take_3 n self1 hself1 t1 t3 ((t3.length:Int)==24) zam zan zao zap zaq zav zv zw zx zar zas zat zau r h) 
def Dspec_l11Take_0(n:Nat)(self1:((Int×Bool)×Bool×Sol×(List Pl))→Option (Sol×(Int×Bool)))(t1:Bool)(t3:List Pl)(t9 t10 t34 zam:Bool)(zan zao zap zaq:Int)(zav:List Sol)(zv:Bool)(zw zx zar zas zat:Int)(zau:Bool):Option (Sol×(Int×Bool)) :=
 frk t34 ((lget zav 0).bind fun v6=>(self1 ((zat,zau),t1,v6,t3)).bind fun v7=>some v7) (frk t10 (Dspec_l11Take_1 n self1 t1 t3 (!t9) zam zan zao zap zaq zav zv zw zx zar zas zat zau) (Dspec_l11Take_4 n self1 t1 t3 zam zan zao zap zaq zav zv zw zx zar zas zat zau))
theorem Tspec_l11Take_0{Y}(n:Nat)(self1:((Int×Bool)×Bool×Sol×(List Pl))→Option (Sol×(Int×Bool)))(hself1:∀(a:((Int×Bool)×Bool×Sol×(List Pl))) (r:(Sol×(Int×Bool))),self1 a=some r→Big Tryz.prog H Y (.call 182 [.ptr 1000 0,bl a.2.1,eF a.2.2.1,.sl false 4 a.2.2.2.length ((ePl).f a.2.2.2)] (lk [(1000,⟨true,0,[i64 a.1.1,bl a.1.2]⟩)]) (eS r.1) (lk [(1000,⟨true,0,[i64 r.2.1,bl r.2.2]⟩)])))(t1:Bool)(t3:List Pl)(t9 t10 t34 zam:Bool)(zan zao zap zaq:Int)(zav:List Sol)(zv:Bool)(zw zx zar zas zat:Int)(zau:Bool)(r:(Sol×(Int×Bool)))(h:Dspec_l11Take_0 n self1 t1 t3 t9 t10 t34 zam zan zao zap zaq zav zv zw zx zar zas zat zau=some r):Wk Tryz.prog H Y 182 [.code (cp [1,1,1,1,0,0,1] (bodyOf Tryz.f182)),.blk 0,.code (cp [1,1,1,1,1] (bodyOf Tryz.f182))] (FinX Tryz.prog Tryz.f182 [(1000,⟨true,0,[.bad,.bad]⟩)] (eS r.1) [(1000,⟨true,0,[i64 r.2.1,bl r.2.2]⟩)]) ⟨[(0,.ptr 1000 0),(1,bl t1),(3,.sl false 4 t3.length ((ePl).f t3)),(6,.ptr 6 0),(8,.ptr 8 0),(9,bl t9),(10,bl t10),(34,bl t34)],[(6,⟨true,0,[bl zam,i64 zan,i64 zao,i64 zap,i64 zaq,.sl false 6 zav.length ((eSol false).f zav)]⟩),(8,⟨true,0,[bl zv,i64 zw,i64 zx,i64 zar,i64 zas,.nil]⟩),(1000,⟨true,0,[i64 zat,bl zau]⟩)]⟩:=by
 unfold Dspec_l11Take_0 at h
 refine x_frk 0 [] onil h (by kernel_rfl) (fun h=>?_) (fun h=>?_)
 ·obtain⟨v6,y6,h⟩:=bm h
  obtain⟨v7,y7,h⟩:=bm h
  replace h:=sj h;subst h
  exact x_end 12 [(4,.val (.cptr ((eSol false).c v6++(eSol false).f ((zav).drop (Int.toNat 0+1))))),(2,.call [] [] (eS v7.1) [(1000,⟨true,0,[i64 v7.2.1,bl v7.2.2]⟩)])] [] (ocons (ix (eSol false) y6) (ocons (hself1 ((zat,zau),t1,v6,t3) _ y7) onil)) onil 
 ·refine x_frk 4 [] onil h (by kernel_rfl) (fun h=>?_) (fun h=>?_)
  ·exact x_to 5 [] onil (Tspec_l11Take_1 n self1 hself1 t1 t3 (!t9) zam zan zao zap zaq zav zv zw zx zar zas zat zau r h) 
  ·exact x_to 7 [] onil (Tspec_l11Take_4 n self1 hself1 t1 t3 zam zan zao zap zaq zav zv zw zx zar zas zat zau r h) 
def Dspec_l11Take_5(n:Nat)(self1:((Int×Bool)×Bool×Sol×(List Pl))→Option (Sol×(Int×Bool)))(t1:Bool)(t3:List Pl)(t9 t10 zam:Bool)(zan zao zap zaq:Int)(zav:List Sol)(zv:Bool)(zw zx zar zas zat:Int)(zau:Bool):Option (Sol×(Int×Bool)) :=
 frk t10 (Dspec_l11Take_1 n self1 t1 t3 (!t9) zam zan zao zap zaq zav zv zw zx zar zas zat zau) (Dspec_l11Take_4 n self1 t1 t3 zam zan zao zap zaq zav zv zw zx zar zas zat zau)
theorem Tspec_l11Take_5{Y}(n:Nat)(self1:((Int×Bool)×Bool×Sol×(List Pl))→Option (Sol×(Int×Bool)))(hself1:∀(a:((Int×Bool)×Bool×Sol×(List Pl))) (r:(Sol×(Int×Bool))),self1 a=some r→Big Tryz.prog H Y (.call 182 [.ptr 1000 0,bl a.2.1,eF a.2.2.1,.sl false 4 a.2.2.2.length ((ePl).f a.2.2.2)] (lk [(1000,⟨true,0,[i64 a.1.1,bl a.1.2]⟩)]) (eS r.1) (lk [(1000,⟨true,0,[i64 r.2.1,bl r.2.2]⟩)])))(t1:Bool)(t3:List Pl)(t9 t10 zam:Bool)(zan zao zap zaq:Int)(zav:List Sol)(zv:Bool)(zw zx zar zas zat:Int)(zau:Bool)(r:(Sol×(Int×Bool)))(h:Dspec_l11Take_5 n self1 t1 t3 t9 t10 zam zan zao zap zaq zav zv zw zx zar zas zat zau=some r):Wk Tryz.prog H Y 182 [.code (cp [1,1,1,1,0,0,1,1,0] (bodyOf Tryz.f182)),.code (cp [1,1,1,1,0,0,1,1,1] (bodyOf Tryz.f182)),.blk 0,.code (cp [1,1,1,1,1] (bodyOf Tryz.f182))] (FinX Tryz.prog Tryz.f182 [(1000,⟨true,0,[.bad,.bad]⟩)] (eS r.1) [(1000,⟨true,0,[i64 r.2.1,bl r.2.2]⟩)]) ⟨[(0,.ptr 1000 0),(1,bl t1),(3,.sl false 4 t3.length ((ePl).f t3)),(6,.ptr 6 0),(8,.ptr 8 0),(9,bl t9),(10,bl t10)],[(6,⟨true,0,[bl zam,i64 zan,i64 zao,i64 zap,i64 zaq,.sl false 6 zav.length ((eSol false).f zav)]⟩),(8,⟨true,0,[bl zv,i64 zw,i64 zx,i64 zar,i64 zas,.nil]⟩),(1000,⟨true,0,[i64 zat,bl zau]⟩)]⟩:=by
 unfold Dspec_l11Take_5 at h
 refine x_frk 3 [] onil h (by kernel_rfl) (fun h=>?_) (fun h=>?_)
 ·exact x_to 5 [] onil (Tspec_l11Take_1 n self1 hself1 t1 t3 (!t9) zam zan zao zap zaq zav zv zw zx zar zas zat zau r h) 
 ·exact x_to 7 [] onil (Tspec_l11Take_4 n self1 hself1 t1 t3 zam zan zao zap zaq zav zv zw zx zar zas zat zau r h) 
def Dspec_l11Take_b(n:Nat)(self1:((Int×Bool)×Bool×Sol×(List Pl))→Option (Sol×(Int×Bool)))(a:((Int×Bool)×Bool×Sol×(List Pl))):Option (Sol×(Int×Bool)) :=
 match a with
 | (a0,a1,a2,a3)=>(Dspec_l8Leaf a2).bind fun v0=>frk v0 ((Dspec_l11In a0.1 a1 a2.inn).bind fun v1=>(Dspec_Leaf v1).bind fun v2=>some (v2,a0)) ((Dspec_l6With n a3 a2.pl).bind fun v3=>(Dspec_l3Flip a2.pl).bind fun v4=>(Dspec_l6With n a3 v4).bind fun v5=>frk (!v3) (Dspec_l11Take_0 n self1 a1 a3 (!v3) (!v5) (!(!v5)) a2.inn a2.pl.A a2.pl.B a2.pl.C a2.pl.D a2.kids false 0 0 0 0 a0.1 a0.2) (Dspec_l11Take_5 n self1 a1 a3 (!v3) (!v5) a2.inn a2.pl.A a2.pl.B a2.pl.C a2.pl.D a2.kids false 0 0 0 0 a0.1 a0.2))
def Dspec_l11Take(n:Nat)(a0:(Int×Bool))(a1:Bool)(a2:Sol)(a3:(List Pl)):Option (Sol×(Int×Bool)):=loopN (Dspec_l11Take_b n) n (a0,a1,a2,a3)
theorem Tspec_l11Take_b{Y}(n:Nat):∀(m:Nat) (a:((Int×Bool)×Bool×Sol×(List Pl))) (r:(Sol×(Int×Bool))),loopN (Dspec_l11Take_b n) m a=some r→∀(_:Unit),Big Tryz.prog H Y (.call 182 [.ptr 1000 0,bl a.2.1,eF a.2.2.1,.sl false 4 a.2.2.2.length ((ePl).f a.2.2.2)] (lk [(1000,⟨true,0,[i64 a.1.1,bl a.1.2]⟩)]) (eS r.1) (lk [(1000,⟨true,0,[i64 r.2.1,bl r.2.2]⟩)])):=by
 refine loopN_ind (fun self1 hs a r h=>?_)
 have hself1:∀(a:((Int×Bool)×Bool×Sol×(List Pl))) (r:(Sol×(Int×Bool))),self1 a=some r→Big Tryz.prog H Y (.call 182 [.ptr 1000 0,bl a.2.1,eF a.2.2.1,.sl false 4 a.2.2.2.length ((ePl).f a.2.2.2)] (lk [(1000,⟨true,0,[i64 a.1.1,bl a.1.2]⟩)]) (eS r.1) (lk [(1000,⟨true,0,[i64 r.2.1,bl r.2.2]⟩)])):=fun a r h=>hs a r h ()
 intro _
 obtain⟨a0,a1,a2,a3⟩:=a
 unfold Dspec_l11Take_b at h
 refine x_call (fn:=Tryz.f182) (c:=bodyOf Tryz.f182) (bs0:=[(1000,⟨true,0,[.bad,.bad]⟩)]) Tryz.func182 (by kernel_rfl) (by kernel_rfl) ?_
 obtain⟨v0,y0,h⟩:=bm h
 refine x_frk 11 [(3,.call [] [] (bl v0) [])] (ocons (Tspec_l8Leaf (Y:=Y) a2 _ y0) onil) h (by kernel_rfl) (fun h=>?_) (fun h=>?_)
 ·obtain⟨v1,y1,h⟩:=bm h
  obtain⟨v2,y2,h⟩:=bm h
  replace h:=sj h;subst h
  exact x_end 13 [(7,.call [] [] (bl v1) []),(0,.call [] [] (eS v2) [])] [] (ocons (Tspec_l11In (Y:=Y) a0.1 a1 a2.inn _ y1) (ocons (Tspec_Leaf (Y:=Y) v1 _ y2) onil)) onil 
 ·obtain⟨v3,y3,h⟩:=bm h
  obtain⟨v4,y4,h⟩:=bm h
  obtain⟨v5,y5,h⟩:=bm h
  refine x_frk 26 [(3,.call [] [] (bl v3) []),(5,.call [] [] (.agg [i64 v4.A,i64 v4.B,i64 v4.C,i64 v4.D]) []),(0,.call [] [] (bl v5) [])] (ocons (Tspec_l6With (Y:=Y) n a3 a2.pl _ y3) (ocons (Tspec_l3Flip (Y:=Y) a2.pl _ y4) (ocons (Tspec_l6With (Y:=Y) n a3 v4 _ y5) onil))) h (by kernel_rfl) (fun h=>?_) (fun h=>?_)
  ·exact x_to 5 [] onil (Tspec_l11Take_0 n self1 hself1 a1 a3 (!v3) (!v5) (!(!v5)) a2.inn a2.pl.A a2.pl.B a2.pl.C a2.pl.D a2.kids false 0 0 0 0 a0.1 a0.2 r h) 
  ·exact x_to 7 [] onil (Tspec_l11Take_5 n self1 hself1 a1 a3 (!v3) (!v5) a2.inn a2.pl.A a2.pl.B a2.pl.C a2.pl.D a2.kids false 0 0 0 0 a0.1 a0.2 r h) 
theorem Tspec_l11Take{Y}(n:Nat)(a0:(Int×Bool))(a1:Bool)(a2:Sol)(a3:(List Pl))(r:(Sol×(Int×Bool)))(h:Dspec_l11Take n a0 a1 a2 a3=some r):Big Tryz.prog H Y (.call 182 [.ptr 1000 0,bl a1,eF a2,.sl false 4 a3.length ((ePl).f a3)] (lk [(1000,⟨true,0,[i64 a0.1,bl a0.2]⟩)]) (eS r.1) (lk [(1000,⟨true,0,[i64 r.2.1,bl r.2.2]⟩)])):=Tspec_l11Take_b n n (a0,a1,a2,a3) r h ()
def Dspec_l11Both_b(n:Nat)(self:((Int×Bool)×Sol×Sol×(List Pl))→Option (Sol×(Int×Bool)))(a:((Int×Bool)×Sol×Sol×(List Pl))):Option (Sol×(Int×Bool)) :=
 match a with
 | (a0,a1,a2,a3)=>(Dspec_l8Leaf a1).bind fun v0=>frk v0 ((Dspec_l11Take n a0 a1.inn a2 a3).bind fun v1=>some v1) ((lget a1.kids 0).bind fun v2=>(Dspec_l8Path a3 a1.pl).bind fun v3=>(self (a0,v2,a2,v3)).bind fun v4=>(lget a1.kids 1).bind fun v5=>(Dspec_l3Flip a1.pl).bind fun v6=>(Dspec_l8Path a3 v6).bind fun v7=>(self (v4.2,v5,a2,v7)).bind fun v8=>(Dspec_l11Nodeo1o2 a1.pl v4.1 v8.1).bind fun v9=>some (v9,v8.2))
def Dspec_l11Both(n:Nat)(a0:(Int×Bool))(a1:Sol)(a2:Sol)(a3:(List Pl)):Option (Sol×(Int×Bool)):=loopN (Dspec_l11Both_b n) n (a0,a1,a2,a3)
theorem Tspec_l11Both_b{Y}(n:Nat):∀(m:Nat) (a:((Int×Bool)×Sol×Sol×(List Pl))) (r:(Sol×(Int×Bool))),loopN (Dspec_l11Both_b n) m a=some r→∀(_:Unit),Big Tryz.prog H Y (.call 119 [.ptr 1000 0,eF a.2.1,eF a.2.2.1,.sl false 4 a.2.2.2.length ((ePl).f a.2.2.2)] (lk [(1000,⟨true,0,[i64 a.1.1,bl a.1.2]⟩)]) (eS r.1) (lk [(1000,⟨true,0,[i64 r.2.1,bl r.2.2]⟩)])):=by
 refine loopN_ind (fun self hs a r h=>?_)
 have hself:∀(a:((Int×Bool)×Sol×Sol×(List Pl))) (r:(Sol×(Int×Bool))),self a=some r→Big Tryz.prog H Y (.call 119 [.ptr 1000 0,eF a.2.1,eF a.2.2.1,.sl false 4 a.2.2.2.length ((ePl).f a.2.2.2)] (lk [(1000,⟨true,0,[i64 a.1.1,bl a.1.2]⟩)]) (eS r.1) (lk [(1000,⟨true,0,[i64 r.2.1,bl r.2.2]⟩)])):=fun a r h=>hs a r h ()
 intro _
 obtain⟨a0,a1,a2,a3⟩:=a
 unfold Dspec_l11Both_b at h
 refine x_call (fn:=Tryz.f119) (c:=bodyOf Tryz.f119) (bs0:=[(1000,⟨true,0,[.bad,.bad]⟩)]) Tryz.func119 (by kernel_rfl) (by kernel_rfl) ?_
 obtain⟨v0,y0,h⟩:=bm h
 refine x_frk 12 [(4,.call [] [] (bl v0) [])] (ocons (Tspec_l8Leaf (Y:=Y) a1 _ y0) onil) h (by kernel_rfl) (fun h=>?_) (fun h=>?_)
 ·obtain⟨v1,y1,h⟩:=bm h
  replace h:=sj h;subst h
  exact x_end 10 [(5,.call [] [] (eS v1.1) [(1000,⟨true,0,[i64 v1.2.1,bl v1.2.2]⟩)])] [] (ocons (Tspec_l11Take (Y:=Y) n a0 a1.inn a2 a3 _ y1) onil) onil 
 ·obtain⟨v2,y2,h⟩:=bm h
  obtain⟨v3,y3,h⟩:=bm h
  obtain⟨v4,y4,h⟩:=bm h
  obtain⟨v5,y5,h⟩:=bm h
  obtain⟨v6,y6,h⟩:=bm h
  obtain⟨v7,y7,h⟩:=bm h
  obtain⟨v8,y8,h⟩:=bm h
  obtain⟨v9,y9,h⟩:=bm h
  replace h:=sj h;subst h
  exact x_end 37 [(3,.val (.cptr ((eSol false).c v2++(eSol false).f ((a1.kids).drop (Int.toNat 0+1))))),(5,.call [] [] (.sl false 4 v3.length ((ePl).f v3)) []),(0,.call [] [] (eS v4.1) [(1000,⟨true,0,[i64 v4.2.1,bl v4.2.2]⟩)]),(8,.val (.cptr ((eSol false).c v5++(eSol false).f ((a1.kids).drop (Int.toNat 1+1))))),(5,.call [] [] (.agg [i64 v6.A,i64 v6.B,i64 v6.C,i64 v6.D]) []),(0,.call [] [] (.sl false 4 v7.length ((ePl).f v7)) []),(0,.call [] [] (eS v8.1) [(1000,⟨true,0,[i64 v8.2.1,bl v8.2.2]⟩)]),(0,.call [] [] (eS v9) [])] [] (ocons (ix (eSol false) y2) (ocons (shSl (L:=v3) ePl ePl sPl (Tspec_l8Path (Y:=Y) a3 a1.pl _ y3)) (ocons (hself (a0,v2,a2,v3) _ y4) (ocons (ix (eSol false) y5) (ocons (Tspec_l3Flip (Y:=Y) a1.pl _ y6) (ocons (shSl (L:=v7) ePl ePl sPl (Tspec_l8Path (Y:=Y) a3 v6 _ y7)) (ocons (hself (v4.2,v5,a2,v7) _ y8) (ocons (Tspec_l11Nodeo1o2 (Y:=Y) a1.pl v4.1 v8.1 _ y9) onil)))))))) onil 
theorem Tspec_l11Both{Y}(n:Nat)(a0:(Int×Bool))(a1:Sol)(a2:Sol)(a3:(List Pl))(r:(Sol×(Int×Bool)))(h:Dspec_l11Both n a0 a1 a2 a3=some r):Big Tryz.prog H Y (.call 119 [.ptr 1000 0,eF a1,eF a2,.sl false 4 a3.length ((ePl).f a3)] (lk [(1000,⟨true,0,[i64 a0.1,bl a0.2]⟩)]) (eS r.1) (lk [(1000,⟨true,0,[i64 r.2.1,bl r.2.2]⟩)])):=Tspec_l11Both_b n n (a0,a1,a2,a3) r h ()
def Dspec_Put_0(_n:Nat)(_zam:Bool)(_zan _zao _zap _zaq:Int):Option (Sol×Bool) :=
 (Dspec_Leaf false).bind fun v1=>some (v1,false)
theorem Tspec_Put_0{Y}(n:Nat)(zam:Bool)(zan zao zap zaq:Int)(r:(Sol×Bool))(h:Dspec_Put_0 n zam zan zao zap zaq=some r):Wk Tryz.prog H Y 54 [.code (cp [1,0,1,0,0] (bodyOf Tryz.f54)),.code (cp [1,0,1,0,1] (bodyOf Tryz.f54)),.code (cp [1,1] (bodyOf Tryz.f54))] (FinX Tryz.prog Tryz.f54 [] (.tup [eS r.1,bl r.2]) []) ⟨[(6,.ptr 6 0)],[(6,⟨true,0,[bl zam,i64 zan,i64 zao,i64 zap,i64 zaq,.nil]⟩)]⟩:=by
 unfold Dspec_Put_0 at h
 obtain⟨v1,y1,h⟩:=bm h
 replace h:=sj h;subst h
 exact x_end 5 [(0,.call [] [] (eS v1) [])] [] (ocons (Tspec_Leaf (Y:=Y) false _ y1) onil) onil 
def Dspec_Put_2(_n:Nat)(_zam:Bool)(_zan _zao _zap _zaq:Int):Option (Sol×Bool) :=
 (Dspec_Leaf false).bind fun v6=>some (v6,false)
theorem Tspec_Put_2{Y}(n:Nat)(zam:Bool)(zan zao zap zaq:Int)(r:(Sol×Bool))(h:Dspec_Put_2 n zam zan zao zap zaq=some r):Wk Tryz.prog H Y 54 [.code (cp [1,1,1,1,0,1,0,0] (bodyOf Tryz.f54)),.code (cp [1,1,1,1,0,1,0,1] (bodyOf Tryz.f54)),.code (cp [1,1,1,1,1] (bodyOf Tryz.f54))] (FinX Tryz.prog Tryz.f54 [] (.tup [eS r.1,bl r.2]) []) ⟨[(6,.ptr 6 0)],[(6,⟨true,0,[bl zam,i64 zan,i64 zao,i64 zap,i64 zaq,.nil]⟩)]⟩:=by
 unfold Dspec_Put_2 at h
 obtain⟨v6,y6,h⟩:=bm h
 replace h:=sj h;subst h
 exact x_end 5 [(0,.call [] [] (eS v6) [])] [] (ocons (Tspec_Leaf (Y:=Y) false _ y6) onil) onil 
def Dspec_Put_3(_n:Nat)(t40 _zam:Bool)(_zan _zao _zap _zaq:Int)(zy:Bool)(zz zaa zaw zax:Int)(zay:List Sol):Option (Sol×Bool) :=
 frk t40 ((Dspec_Leaf false).bind fun v8=>some (v8,false)) (some ((Sol.mk zy (Pl.mk zz zaa zaw zax) zay),true))
theorem Tspec_Put_3{Y}(n:Nat)(t40 zam:Bool)(zan zao zap zaq:Int)(zy:Bool)(zz zaa zaw zax:Int)(zay:List Sol)(r:(Sol×Bool))(h:Dspec_Put_3 n t40 zam zan zao zap zaq zy zz zaa zaw zax zay=some r):Wk Tryz.prog H Y 54 [.code (cp [1,1,1,1,0,1] (bodyOf Tryz.f54)),.code (cp [1,1,1,1,1] (bodyOf Tryz.f54))] (FinX Tryz.prog Tryz.f54 [] (.tup [eS r.1,bl r.2]) []) ⟨[(6,.ptr 6 0),(9,.ptr 9 0),(40,bl t40)],[(6,⟨true,0,[bl zam,i64 zan,i64 zao,i64 zap,i64 zaq,.nil]⟩),(9,⟨true,0,[bl zy,i64 zz,i64 zaa,i64 zaw,i64 zax,.sl true 6 zay.length ((eSol true).f zay)]⟩)]⟩:=by
 unfold Dspec_Put_3 at h
 refine x_frk 0 [] onil h (by kernel_rfl) (fun h=>?_) (fun h=>?_)
 ·obtain⟨v8,y8,h⟩:=bm h
  replace h:=sj h;subst h
  exact x_end 6 [(0,.call [] [] (eS v8) [])] [] (ocons (Tspec_Leaf (Y:=Y) false _ y8) onil) onil 
 ·replace h:=sj h;subst h
  exact x_end 7 [] [] onil onil 
def Dspec_Put_1(n:Nat)(t2:Int)(t22 zg:Bool)(zh zi zj zah:Int)(zaz:List Sol)(zk:Bool)(zl zm zn zai:Int)(zaj:List Sol)(zam:Bool)(zan zao zap zaq:Int):Option (Sol×Bool) :=
 frk t22 ((Dspec_Leaf false).bind fun v4=>some (v4,false)) ((Dspec_l11Both n (t2,false) (Sol.mk zg (Pl.mk zh zi zj zah) zaz) (Sol.mk zk (Pl.mk zl zm zn zai) zaj) []).bind fun v5=>frk v5.2.2 (Dspec_Put_2 n zam zan zao zap zaq) ((Dspec_l8Count n v5.1 301).bind fun v7=>Dspec_Put_3 n (decide (v7>300)) zam zan zao zap zaq v5.1.inn v5.1.pl.A v5.1.pl.B v5.1.pl.C v5.1.pl.D v5.1.kids))
theorem Tspec_Put_1{Y}(n:Nat)(t2:Int)(t22 zg:Bool)(zh zi zj zah:Int)(zaz:List Sol)(zk:Bool)(zl zm zn zai:Int)(zaj:List Sol)(zam:Bool)(zan zao zap zaq:Int)(r:(Sol×Bool))(h:Dspec_Put_1 n t2 t22 zg zh zi zj zah zaz zk zl zm zn zai zaj zam zan zao zap zaq=some r):Wk Tryz.prog H Y 54 [.code (cp [1,0,1] (bodyOf Tryz.f54)),.code (cp [1,1] (bodyOf Tryz.f54))] (FinX Tryz.prog Tryz.f54 [] (.tup [eS r.1,bl r.2]) []) ⟨[(2,i64 t2),(3,.ptr 3 0),(4,.ptr 4 0),(6,.ptr 6 0),(22,bl t22)],[(3,⟨true,0,[bl zg,i64 zh,i64 zi,i64 zj,i64 zah,.sl false 6 zaz.length ((eSol false).f zaz)]⟩),(4,⟨true,0,[bl zk,i64 zl,i64 zm,i64 zn,i64 zai,.sl false 6 zaj.length ((eSol false).f zaj)]⟩),(6,⟨true,0,[bl zam,i64 zan,i64 zao,i64 zap,i64 zaq,.nil]⟩)]⟩:=by
 unfold Dspec_Put_1 at h
 refine x_frk 0 [] onil h (by kernel_rfl) (fun h=>?_) (fun h=>?_)
 ·obtain⟨v4,y4,h⟩:=bm h
  replace h:=sj h;subst h
  exact x_end 6 [(0,.call [] [] (eS v4) [])] [] (ocons (Tspec_Leaf (Y:=Y) false _ y4) onil) onil 
 ·obtain⟨v5,y5,h⟩:=bm h
  refine x_frk 26 [(8,.call [] [(ePl).f []] (eS v5.1) [(1000,⟨true,0,[i64 v5.2.1,bl v5.2.2]⟩)])] (ocons (Tspec_l11Both (Y:=Y) n (t2,false) (Sol.mk zg (Pl.mk zh zi zj zah) zaz) (Sol.mk zk (Pl.mk zl zm zn zai) zaj) [] _ y5) (ocons (len_row (L:=[]) ePl) (ocons (Enc.share ePl ePl sPl []) (ocons (show hasSh (eS v5.1)=false by simp[eS,hasSh,hasShL,nSh,nShI,nShB,nShP,nShT,nShN,nShPs]) onil)))) h (by kernel_rfl) (fun h=>?_) (fun h=>?_)
  ·exact x_to 7 [] onil (Tspec_Put_2 n zam zan zao zap zaq r h) 
  ·obtain⟨v7,y7,h⟩:=bm h
   exact x_to 5 [(0,.rows [(eSol false).f v5.1.kids]),(0,.call [] [] (i64 v7) [])] (ocons (Enc.share (eSol true) (eSol false) (sSol true) v5.1.kids) (ocons (Tspec_l8Count (Y:=Y) n v5.1 301 _ y7) onil)) (Tspec_Put_3 n (decide (v7>300)) zam zan zao zap zaq v5.1.inn v5.1.pl.A v5.1.pl.B v5.1.pl.C v5.1.pl.D v5.1.kids r h) 
def Dspec_Put(n:Nat)(a0:Sol)(a1:Sol)(a2:Int):Option (Sol×Bool) :=
 (Dspec_SolidOk n a0).bind fun v0=>frk (!v0) (Dspec_Put_0 n false 0 0 0 0) ((Dspec_SolidOk n a1).bind fun v2=>frk (!v2) (Dspec_Put_0 n false 0 0 0 0) ((Dspec_l1In a2 1 4).bind fun v3=>Dspec_Put_1 n a2 (!v3) a0.inn a0.pl.A a0.pl.B a0.pl.C a0.pl.D a0.kids a1.inn a1.pl.A a1.pl.B a1.pl.C a1.pl.D a1.kids false 0 0 0 0))
theorem Tspec_Put{Y}(n:Nat)(a0:Sol)(a1:Sol)(a2:Int)(r:(Sol×Bool))(h:Dspec_Put n a0 a1 a2=some r):Big Tryz.prog H Y (.call 54 [eF a0,eF a1,i64 a2] (lk []) (.tup [eS r.1,bl r.2]) (lk [])):=by
 unfold Dspec_Put at h
 refine x_call (fn:=Tryz.f54) (c:=bodyOf Tryz.f54) (bs0:=[]) Tryz.func54 (by kernel_rfl) (by kernel_rfl) ?_
 obtain⟨v0,y0,h⟩:=bm h
 refine x_frk 14 [(5,.call [] [] (bl v0) [])] (ocons (Tspec_SolidOk (Y:=Y) n a0 _ y0) onil) h (by kernel_rfl) (fun h=>?_) (fun h=>?_)
 ·exact x_to 12 [] onil (Tspec_Put_0 n false 0 0 0 0 r h) 
 ·obtain⟨v2,y2,h⟩:=bm h
  refine x_frk 5 [(1,.call [] [] (bl v2) [])] (ocons (Tspec_SolidOk (Y:=Y) n a1 _ y2) onil) h (by kernel_rfl) (fun h=>?_) (fun h=>?_)
  ·exact x_to 7 [] onil (Tspec_Put_0 n false 0 0 0 0 r h) 
  ·obtain⟨v3,y3,h⟩:=bm h
   exact x_to 5 [(1,.call [] [] (bl v3) [])] (ocons (Tspec_l1In (Y:=Y) a2 1 4 _ y3) onil) (Tspec_Put_1 n a2 (!v3) a0.inn a0.pl.A a0.pl.B a0.pl.C a0.pl.D a0.kids a1.inn a1.pl.A a1.pl.B a1.pl.C a1.pl.D a1.kids false 0 0 0 0 r h) 
def Dspec_SameTree_1(_n:Nat)(self1:(Sol×Sol)→Option Bool)(_za:Bool)(_zb _zc _zd _ze:Int)(zf:List Sol)(_zg:Bool)(_zh _zi _zj _zah:Int)(zaz:List Sol)(rec0:Int→Option Bool)(a:Int):Option Bool :=
 match a with
 | t5=>frk (decide (t5<(zf.length:Int))) ((lget zf t5).bind fun v0=>(lget zaz t5).bind fun v1=>(self1 (v0,v1)).bind fun v2=>frk (!v2) (some false) (rec0 (w64 (t5+1)))) (some true)
theorem Tspec_SameTree_1{Y}(n:Nat)(self1:(Sol×Sol)→Option Bool)(hself1:∀(a:(Sol×Sol)) (r:Bool),self1 a=some r→Big Tryz.prog H Y (.call 121 [eF a.1,eF a.2] (lk []) (bl r) (lk [])))(za:Bool)(zb zc zd ze:Int)(zf:List Sol)(zg:Bool)(zh zi zj zah:Int)(zaz:List Sol):∀(m:Nat) (a:Int) (r:Bool),loopN (Dspec_SameTree_1 n self1 za zb zc zd ze zf zg zh zi zj zah zaz) m a=some r→Wk Tryz.prog H Y 121 [.code (cp [1,1,0,1,0] (bodyOf Tryz.f121)),.blk 0,.code (cp [1,1,1] (bodyOf Tryz.f121))] (FinX Tryz.prog Tryz.f121 [] (bl r) []) ⟨[(2,.ptr 2 0),(3,.ptr 3 0),(5,i64 a)],[(2,⟨true,0,[bl za,i64 zb,i64 zc,i64 zd,i64 ze,.sl false 6 zf.length ((eSol false).f zf)]⟩),(3,⟨true,0,[bl zg,i64 zh,i64 zi,i64 zj,i64 zah,.sl false 6 zaz.length ((eSol false).f zaz)]⟩)]⟩:=by
 refine loopN_ind (fun _rec0 hrec0 a r h=>?_)
 obtain⟨t5,rfl⟩:∃x,x=a:=⟨a,rfl⟩
 unfold Dspec_SameTree_1 at h
 refine x_frk 10 [] onil h (by kernel_rfl) (fun h=>?_) (fun h=>?_)
 ·obtain⟨v0,y0,h⟩:=bm h
  obtain⟨v1,y1,h⟩:=bm h
  obtain⟨v2,y2,h⟩:=bm h
  refine x_frk 18 [(3,.val (.cptr ((eSol false).c v0++(eSol false).f ((zf).drop (Int.toNat t5+1))))),(4,.val (.cptr ((eSol false).c v1++(eSol false).f ((zaz).drop (Int.toNat t5+1))))),(1,.call [] [] (bl v2) [])] (ocons (ix (eSol false) y0) (ocons (ix (eSol false) y1) (ocons (hself1 (v0,v1) _ y2) onil))) h (by kernel_rfl) (fun h=>?_) (fun h=>?_)
  ·replace h:=sj h;subst h
   exact x_end 4 [] [] onil onil 
  ·exact x_to 8 [] onil (hrec0 (w64 (t5+1)) r h) 
 ·replace h:=sj h;subst h
  exact x_end 5 [] [] onil onil 
def Dspec_SameTree_0(n:Nat)(self1:(Sol×Sol)→Option Bool)(t26 za:Bool)(zb zc zd ze:Int)(zf:List Sol)(zg:Bool)(zh zi zj zah:Int)(zaz:List Sol):Option Bool :=
 frk t26 (some false) (loopN (Dspec_SameTree_1 n self1 za zb zc zd ze zf zg zh zi zj zah zaz) n 0)
theorem Tspec_SameTree_0{Y}(n:Nat)(self1:(Sol×Sol)→Option Bool)(hself1:∀(a:(Sol×Sol)) (r:Bool),self1 a=some r→Big Tryz.prog H Y (.call 121 [eF a.1,eF a.2] (lk []) (bl r) (lk [])))(t26 za:Bool)(zb zc zd ze:Int)(zf:List Sol)(zg:Bool)(zh zi zj zah:Int)(zaz:List Sol)(r:Bool)(h:Dspec_SameTree_0 n self1 t26 za zb zc zd ze zf zg zh zi zj zah zaz=some r):Wk Tryz.prog H Y 121 [.code (cp [1,0,1] (bodyOf Tryz.f121)),.code (cp [1,1] (bodyOf Tryz.f121))] (FinX Tryz.prog Tryz.f121 [] (bl r) []) ⟨[(2,.ptr 2 0),(3,.ptr 3 0),(26,bl t26)],[(2,⟨true,0,[bl za,i64 zb,i64 zc,i64 zd,i64 ze,.sl false 6 zf.length ((eSol false).f zf)]⟩),(3,⟨true,0,[bl zg,i64 zh,i64 zi,i64 zj,i64 zah,.sl false 6 zaz.length ((eSol false).f zaz)]⟩)]⟩:=by
 unfold Dspec_SameTree_0 at h
 refine x_frk 0 [] onil h (by kernel_rfl) (fun h=>?_) (fun h=>?_)
 ·replace h:=sj h;subst h
  exact x_end 4 [] [] onil onil 
 ·exact x_to 7 [] onil (Tspec_SameTree_1 n self1 hself1 za zb zc zd ze zf zg zh zi zj zah zaz n 0 r h) 
def Dspec_SameTree_b(n:Nat)(self1:(Sol×Sol)→Option Bool)(a:(Sol×Sol)):Option Bool :=
 match a with
 | (a0,a1)=>frk (!(a0.inn==a1.inn)) (some false) (frk (!(a0.pl.A==a1.pl.A&&(a0.pl.B==a1.pl.B&&(a0.pl.C==a1.pl.C&&(a0.pl.D==a1.pl.D&&true))))) (some false) (Dspec_SameTree_0 n self1 ((a0.kids.length:Int) != (a1.kids.length:Int)) a0.inn a0.pl.A a0.pl.B a0.pl.C a0.pl.D a0.kids a1.inn a1.pl.A a1.pl.B a1.pl.C a1.pl.D a1.kids))
def Dspec_SameTree(n:Nat)(a0:Sol)(a1:Sol):Option Bool:=loopN (Dspec_SameTree_b n) n (a0,a1)
theorem Tspec_SameTree_b{Y}(n:Nat):∀(m:Nat) (a:(Sol×Sol)) (r:Bool),loopN (Dspec_SameTree_b n) m a=some r→∀(_:Unit),Big Tryz.prog H Y (.call 121 [eF a.1,eF a.2] (lk []) (bl r) (lk [])):=by
 refine loopN_ind (fun self1 hs a r h=>?_)
 have hself1:∀(a:(Sol×Sol)) (r:Bool),self1 a=some r→Big Tryz.prog H Y (.call 121 [eF a.1,eF a.2] (lk []) (bl r) (lk [])):=fun a r h=>hs a r h ()
 intro _
 obtain⟨a0,a1⟩:=a
 unfold Dspec_SameTree_b at h
 refine x_call (fn:=Tryz.f121) (c:=bodyOf Tryz.f121) (bs0:=[]) Tryz.func121 (by kernel_rfl) (by kernel_rfl) ?_
 refine x_frk 15 [] onil h (by kernel_rfl) (fun h=>?_) (fun h=>?_)
 ·replace h:=sj h;subst h
  exact x_end 21 [] [] onil onil 
 ·refine x_frk 7 [] onil h (by kernel_rfl) (fun h=>?_) (fun h=>?_)
  ·replace h:=sj h;subst h
   exact x_end 14 [] [] onil onil 
  ·exact x_to 9 [] onil (Tspec_SameTree_0 n self1 hself1 ((a0.kids.length:Int) != (a1.kids.length:Int)) a0.inn a0.pl.A a0.pl.B a0.pl.C a0.pl.D a0.kids a1.inn a1.pl.A a1.pl.B a1.pl.C a1.pl.D a1.kids r h) 
theorem Tspec_SameTree{Y}(n:Nat)(a0:Sol)(a1:Sol)(r:Bool)(h:Dspec_SameTree n a0 a1=some r):Big Tryz.prog H Y (.call 121 [eF a0,eF a1] (lk []) (bl r) (lk [])):=Tspec_SameTree_b n n (a0,a1) r h ()
def Dspec_l12Tidy_b(n:Nat)(self:Sol→Option Sol)(a:Sol):Option Sol :=
 match a with
 | a0=>(Dspec_l8Leaf a0).bind fun v0=>frk v0 ((Dspec_Leaf a0.inn).bind fun v1=>some v1) ((lget a0.kids 0).bind fun v2=>(self v2).bind fun v3=>(lget a0.kids 1).bind fun v4=>(self v4).bind fun v5=>(Dspec_SameTree n v3 v5).bind fun v6=>frk v6 (some v3) ((Dspec_l8Nodeo1o2 a0.pl v3 v5).bind fun v7=>some v7))
def Dspec_l12Tidy(n:Nat)(a0:Sol):Option Sol:=loopN (Dspec_l12Tidy_b n) n a0
theorem Tspec_l12Tidy_b{Y}(n:Nat):∀(m:Nat) (a:Sol) (r:Sol),loopN (Dspec_l12Tidy_b n) m a=some r→∀(_:Unit),Big Tryz.prog H Y (.call 56 [eF a] (lk []) (eS r) (lk [])):=by
 refine loopN_ind (fun self hs a r h=>?_)
 have hself:∀(a:Sol) (r:Sol),self a=some r→Big Tryz.prog H Y (.call 56 [eF a] (lk []) (eS r) (lk [])):=fun a r h=>hs a r h ()
 intro _
 obtain⟨a0,rfl⟩:∃x,x=a:=⟨a,rfl⟩
 unfold Dspec_l12Tidy_b at h
 refine x_call (fn:=Tryz.f56) (c:=bodyOf Tryz.f56) (bs0:=[]) Tryz.func56 (by kernel_rfl) (by kernel_rfl) ?_
 obtain⟨v0,y0,h⟩:=bm h
 refine x_frk 11 [(3,.call [] [] (bl v0) [])] (ocons (Tspec_l8Leaf (Y:=Y) a0 _ y0) onil) h (by kernel_rfl) (fun h=>?_) (fun h=>?_)
 ·obtain⟨v1,y1,h⟩:=bm h
  replace h:=sj h;subst h
  exact x_end 7 [(2,.call [] [] (eS v1) [])] [] (ocons (Tspec_Leaf (Y:=Y) a0.inn _ y1) onil) onil 
 ·obtain⟨v2,y2,h⟩:=bm h
  obtain⟨v3,y3,h⟩:=bm h
  obtain⟨v4,y4,h⟩:=bm h
  obtain⟨v5,y5,h⟩:=bm h
  obtain⟨v6,y6,h⟩:=bm h
  refine x_frk 28 [(2,.val (.cptr ((eSol false).c v2++(eSol false).f ((a0.kids).drop (Int.toNat 0+1))))),(1,.call [] [] (eS v3) []),(4,.val (.cptr ((eSol false).c v4++(eSol false).f ((a0.kids).drop (Int.toNat 1+1))))),(1,.call [] [] (eS v5) []),(2,.rows [(eSol false).f v3.kids]),(0,.rows [(eSol false).f v5.kids]),(0,.call [] [] (bl v6) [])] (ocons (ix (eSol false) y2) (ocons (hself v2 _ y3) (ocons (ix (eSol false) y4) (ocons (hself v4 _ y5) (ocons (Enc.share (eSol true) (eSol false) (sSol true) v3.kids) (ocons (Enc.share (eSol true) (eSol false) (sSol true) v5.kids) (ocons (Tspec_SameTree (Y:=Y) n v3 v5 _ y6) onil))))))) h (by kernel_rfl) (fun h=>?_) (fun h=>?_)
  ·replace h:=sj h;subst h
   exact x_end 5 [] [] onil onil 
  ·obtain⟨v7,y7,h⟩:=bm h
   replace h:=sj h;subst h
   exact x_end 10 [(4,.call [] [] (eS v7) [])] [] (ocons (Tspec_l8Nodeo1o2 (Y:=Y) a0.pl v3 v5 _ y7) onil) onil 
theorem Tspec_l12Tidy{Y}(n:Nat)(a0:Sol)(r:Sol)(h:Dspec_l12Tidy n a0=some r):Big Tryz.prog H Y (.call 56 [eF a0] (lk []) (eS r) (lk [])):=Tspec_l12Tidy_b n n a0 r h ()
def Dspec_l20Keeps_0(n:Nat)(a0:Dsk)(zv:Bool)(zw zx zar zas:Int)(zba:List Sol)(zbb:Bool)(zbc zbd zbe zbf:Int)(zbg:List Sol)(zbh:Bool)(zbi zbj zbk zbl:Int)(zbm:List Sol)(zbn:Bool)(zbo zbp zbq zbr:Int)(zbs:List Sol)(zbt:Bool)(zbu zbv zbw zbx:Int)(zby:List Sol)(zbz:Bool)(zca zcb zcc zcd:Int)(zce:List Sol)(zcf:Bool)(zcg zch zci zcj:Int)(zck:List Sol)(zcl:Bool)(zcm zcn zco zcp:Int)(zcq:List Sol)(zcr zcs zct zcu zcv zcw zcx zcy:Bool):Option (Dsk×Int) :=
 (Dspec_DeskOk n (((Sol.mk zv (Pl.mk zw zx zar zas) zba),(Sol.mk zbb (Pl.mk zbc zbd zbe zbf) zbg),(Sol.mk zbh (Pl.mk zbi zbj zbk zbl) zbm),(Sol.mk zbn (Pl.mk zbo zbp zbq zbr) zbs),(Sol.mk zbt (Pl.mk zbu zbv zbw zbx) zby),(Sol.mk zbz (Pl.mk zca zcb zcc zcd) zce),(Sol.mk zcf (Pl.mk zcg zch zci zcj) zck),(Sol.mk zcl (Pl.mk zcm zcn zco zcp) zcq)),(zcr,zcs,zct,zcu,zcv,zcw,zcx,zcy))).bind fun v2=>frk (!v2) ((Dspec_l20Copy n a0).bind fun v3=>some (v3,3)) (some ((((Sol.mk zv (Pl.mk zw zx zar zas) zba),(Sol.mk zbb (Pl.mk zbc zbd zbe zbf) zbg),(Sol.mk zbh (Pl.mk zbi zbj zbk zbl) zbm),(Sol.mk zbn (Pl.mk zbo zbp zbq zbr) zbs),(Sol.mk zbt (Pl.mk zbu zbv zbw zbx) zby),(Sol.mk zbz (Pl.mk zca zcb zcc zcd) zce),(Sol.mk zcf (Pl.mk zcg zch zci zcj) zck),(Sol.mk zcl (Pl.mk zcm zcn zco zcp) zcq)),(zcr,zcs,zct,zcu,zcv,zcw,zcx,zcy)),0))
theorem Tspec_l20Keeps_0{Y}(n:Nat)(a0:Dsk)(zv:Bool)(zw zx zar zas:Int)(zba:List Sol)(zbb:Bool)(zbc zbd zbe zbf:Int)(zbg:List Sol)(zbh:Bool)(zbi zbj zbk zbl:Int)(zbm:List Sol)(zbn:Bool)(zbo zbp zbq zbr:Int)(zbs:List Sol)(zbt:Bool)(zbu zbv zbw zbx:Int)(zby:List Sol)(zbz:Bool)(zca zcb zcc zcd:Int)(zce:List Sol)(zcf:Bool)(zcg zch zci zcj:Int)(zck:List Sol)(zcl:Bool)(zcm zcn zco zcp:Int)(zcq:List Sol)(zcr zcs zct zcu zcv zcw zcx zcy:Bool)(r:(Dsk×Int))(h:Dspec_l20Keeps_0 n a0 zv zw zx zar zas zba zbb zbc zbd zbe zbf zbg zbh zbi zbj zbk zbl zbm zbn zbo zbp zbq zbr zbs zbt zbu zbv zbw zbx zby zbz zca zcb zcc zcd zce zcf zcg zch zci zcj zck zcl zcm zcn zco zcp zcq zcr zcs zct zcu zcv zcw zcx zcy=some r):Wk Tryz.prog H Y 55 [.code (cp [1,1,1,1,0,0] (bodyOf Tryz.f55)),.code (cp [1,1,1,1,0,1] (bodyOf Tryz.f55)),.code (cp [1,1,1,1,1] (bodyOf Tryz.f55))] (FinX Tryz.prog Tryz.f55 [] (.tup [.agg (cT38o r.1),i64 r.2]) []) ⟨[(3,.ptr 3 0),(6,.ptr 6 0),(8,.ptr 8 0)],[(3,⟨true,0,(cT38 a0)⟩),(6,⟨true,0,[bl false,i64 0,i64 0,i64 0,i64 0,.nil,bl false,i64 0,i64 0,i64 0,i64 0,.nil,bl false,i64 0,i64 0,i64 0,i64 0,.nil,bl false,i64 0,i64 0,i64 0,i64 0,.nil,bl false,i64 0,i64 0,i64 0,i64 0,.nil,bl false,i64 0,i64 0,i64 0,i64 0,.nil,bl false,i64 0,i64 0,i64 0,i64 0,.nil,bl false,i64 0,i64 0,i64 0,i64 0,.nil,bl false,bl false,bl false,bl false,bl false,bl false,bl false,bl false]⟩),(8,⟨true,0,[bl zv,i64 zw,i64 zx,i64 zar,i64 zas,.sl true 6 zba.length ((eSol true).f zba),bl zbb,i64 zbc,i64 zbd,i64 zbe,i64 zbf,.sl true 6 zbg.length ((eSol true).f zbg),bl zbh,i64 zbi,i64 zbj,i64 zbk,i64 zbl,.sl true 6 zbm.length ((eSol true).f zbm),bl zbn,i64 zbo,i64 zbp,i64 zbq,i64 zbr,.sl true 6 zbs.length ((eSol true).f zbs),bl zbt,i64 zbu,i64 zbv,i64 zbw,i64 zbx,.sl true 6 zby.length ((eSol true).f zby),bl zbz,i64 zca,i64 zcb,i64 zcc,i64 zcd,.sl true 6 zce.length ((eSol true).f zce),bl zcf,i64 zcg,i64 zch,i64 zci,i64 zcj,.sl true 6 zck.length ((eSol true).f zck),bl zcl,i64 zcm,i64 zcn,i64 zco,i64 zcp,.sl true 6 zcq.length ((eSol true).f zcq),bl zcr,bl zcs,bl zct,bl zcu,bl zcv,bl zcw,bl zcx,bl zcy]⟩)]⟩:=by
 unfold Dspec_l20Keeps_0 at h
 obtain⟨v2,y2,h⟩:=bm h
 refine x_frk 5 [(0,.rows [(eSol false).f zba,(eSol false).f zbg,(eSol false).f zbm,(eSol false).f zbs,(eSol false).f zby,(eSol false).f zce,(eSol false).f zck,(eSol false).f zcq]),(0,.call [] [] (bl v2) [])] (ocons (Enc.share (eSol true) (eSol false) (sSol true) zba) (ocons (Enc.share (eSol true) (eSol false) (sSol true) zbg) (ocons (Enc.share (eSol true) (eSol false) (sSol true) zbm) (ocons (Enc.share (eSol true) (eSol false) (sSol true) zbs) (ocons (Enc.share (eSol true) (eSol false) (sSol true) zby) (ocons (Enc.share (eSol true) (eSol false) (sSol true) zce) (ocons (Enc.share (eSol true) (eSol false) (sSol true) zck) (ocons (Enc.share (eSol true) (eSol false) (sSol true) zcq) (ocons (Tspec_DeskOk (Y:=Y) n (((Sol.mk zv (Pl.mk zw zx zar zas) zba),(Sol.mk zbb (Pl.mk zbc zbd zbe zbf) zbg),(Sol.mk zbh (Pl.mk zbi zbj zbk zbl) zbm),(Sol.mk zbn (Pl.mk zbo zbp zbq zbr) zbs),(Sol.mk zbt (Pl.mk zbu zbv zbw zbx) zby),(Sol.mk zbz (Pl.mk zca zcb zcc zcd) zce),(Sol.mk zcf (Pl.mk zcg zch zci zcj) zck),(Sol.mk zcl (Pl.mk zcm zcn zco zcp) zcq)),(zcr,zcs,zct,zcu,zcv,zcw,zcx,zcy)) _ y2) onil))))))))) h (by kernel_rfl) (fun h=>?_) (fun h=>?_)
 ·obtain⟨v3,y3,h⟩:=bm h
  replace h:=sj h;subst h
  exact x_end 7 [(1,.call [] [] (.agg (cT38o v3)) [])] [] (ocons (Tspec_l20Copy (Y:=Y) n a0 _ y3) onil) onil 
 ·replace h:=sj h;subst h
  exact x_end 7 [] [] onil onil 
def Dspec_l20Keeps(n:Nat)(a0:Dsk)(a1:Int)(a2:Sol):Option (Dsk×Int) :=
 (Dspec_l20Copy n a0).bind fun v0=>(Dspec_l8Copy n a2).bind fun v1=>frk (a1==0) (Dspec_l20Keeps_0 n a0 v1.inn v1.pl.A v1.pl.B v1.pl.C v1.pl.D v1.kids v0.1.2.1.inn v0.1.2.1.pl.A v0.1.2.1.pl.B v0.1.2.1.pl.C v0.1.2.1.pl.D v0.1.2.1.kids v0.1.2.2.1.inn v0.1.2.2.1.pl.A v0.1.2.2.1.pl.B v0.1.2.2.1.pl.C v0.1.2.2.1.pl.D v0.1.2.2.1.kids v0.1.2.2.2.1.inn v0.1.2.2.2.1.pl.A v0.1.2.2.2.1.pl.B v0.1.2.2.2.1.pl.C v0.1.2.2.2.1.pl.D v0.1.2.2.2.1.kids v0.1.2.2.2.2.1.inn v0.1.2.2.2.2.1.pl.A v0.1.2.2.2.2.1.pl.B v0.1.2.2.2.2.1.pl.C v0.1.2.2.2.2.1.pl.D v0.1.2.2.2.2.1.kids v0.1.2.2.2.2.2.1.inn v0.1.2.2.2.2.2.1.pl.A v0.1.2.2.2.2.2.1.pl.B v0.1.2.2.2.2.2.1.pl.C v0.1.2.2.2.2.2.1.pl.D v0.1.2.2.2.2.2.1.kids v0.1.2.2.2.2.2.2.1.inn v0.1.2.2.2.2.2.2.1.pl.A v0.1.2.2.2.2.2.2.1.pl.B v0.1.2.2.2.2.2.2.1.pl.C v0.1.2.2.2.2.2.2.1.pl.D v0.1.2.2.2.2.2.2.1.kids v0.1.2.2.2.2.2.2.2.inn v0.1.2.2.2.2.2.2.2.pl.A v0.1.2.2.2.2.2.2.2.pl.B v0.1.2.2.2.2.2.2.2.pl.C v0.1.2.2.2.2.2.2.2.pl.D v0.1.2.2.2.2.2.2.2.kids true v0.2.2.1 v0.2.2.2.1 v0.2.2.2.2.1 v0.2.2.2.2.2.1 v0.2.2.2.2.2.2.1 v0.2.2.2.2.2.2.2.1 v0.2.2.2.2.2.2.2.2) (frk (a1==1) (Dspec_l20Keeps_0 n a0 v0.1.1.inn v0.1.1.pl.A v0.1.1.pl.B v0.1.1.pl.C v0.1.1.pl.D v0.1.1.kids v1.inn v1.pl.A v1.pl.B v1.pl.C v1.pl.D v1.kids v0.1.2.2.1.inn v0.1.2.2.1.pl.A v0.1.2.2.1.pl.B v0.1.2.2.1.pl.C v0.1.2.2.1.pl.D v0.1.2.2.1.kids v0.1.2.2.2.1.inn v0.1.2.2.2.1.pl.A v0.1.2.2.2.1.pl.B v0.1.2.2.2.1.pl.C v0.1.2.2.2.1.pl.D v0.1.2.2.2.1.kids v0.1.2.2.2.2.1.inn v0.1.2.2.2.2.1.pl.A v0.1.2.2.2.2.1.pl.B v0.1.2.2.2.2.1.pl.C v0.1.2.2.2.2.1.pl.D v0.1.2.2.2.2.1.kids v0.1.2.2.2.2.2.1.inn v0.1.2.2.2.2.2.1.pl.A v0.1.2.2.2.2.2.1.pl.B v0.1.2.2.2.2.2.1.pl.C v0.1.2.2.2.2.2.1.pl.D v0.1.2.2.2.2.2.1.kids v0.1.2.2.2.2.2.2.1.inn v0.1.2.2.2.2.2.2.1.pl.A v0.1.2.2.2.2.2.2.1.pl.B v0.1.2.2.2.2.2.2.1.pl.C v0.1.2.2.2.2.2.2.1.pl.D v0.1.2.2.2.2.2.2.1.kids v0.1.2.2.2.2.2.2.2.inn v0.1.2.2.2.2.2.2.2.pl.A v0.1.2.2.2.2.2.2.2.pl.B v0.1.2.2.2.2.2.2.2.pl.C v0.1.2.2.2.2.2.2.2.pl.D v0.1.2.2.2.2.2.2.2.kids v0.2.1 true v0.2.2.2.1 v0.2.2.2.2.1 v0.2.2.2.2.2.1 v0.2.2.2.2.2.2.1 v0.2.2.2.2.2.2.2.1 v0.2.2.2.2.2.2.2.2) (frk (a1==2) (Dspec_l20Keeps_0 n a0 v0.1.1.inn v0.1.1.pl.A v0.1.1.pl.B v0.1.1.pl.C v0.1.1.pl.D v0.1.1.kids v0.1.2.1.inn v0.1.2.1.pl.A v0.1.2.1.pl.B v0.1.2.1.pl.C v0.1.2.1.pl.D v0.1.2.1.kids v1.inn v1.pl.A v1.pl.B v1.pl.C v1.pl.D v1.kids v0.1.2.2.2.1.inn v0.1.2.2.2.1.pl.A v0.1.2.2.2.1.pl.B v0.1.2.2.2.1.pl.C v0.1.2.2.2.1.pl.D v0.1.2.2.2.1.kids v0.1.2.2.2.2.1.inn v0.1.2.2.2.2.1.pl.A v0.1.2.2.2.2.1.pl.B v0.1.2.2.2.2.1.pl.C v0.1.2.2.2.2.1.pl.D v0.1.2.2.2.2.1.kids v0.1.2.2.2.2.2.1.inn v0.1.2.2.2.2.2.1.pl.A v0.1.2.2.2.2.2.1.pl.B v0.1.2.2.2.2.2.1.pl.C v0.1.2.2.2.2.2.1.pl.D v0.1.2.2.2.2.2.1.kids v0.1.2.2.2.2.2.2.1.inn v0.1.2.2.2.2.2.2.1.pl.A v0.1.2.2.2.2.2.2.1.pl.B v0.1.2.2.2.2.2.2.1.pl.C v0.1.2.2.2.2.2.2.1.pl.D v0.1.2.2.2.2.2.2.1.kids v0.1.2.2.2.2.2.2.2.inn v0.1.2.2.2.2.2.2.2.pl.A v0.1.2.2.2.2.2.2.2.pl.B v0.1.2.2.2.2.2.2.2.pl.C v0.1.2.2.2.2.2.2.2.pl.D v0.1.2.2.2.2.2.2.2.kids v0.2.1 v0.2.2.1 true v0.2.2.2.2.1 v0.2.2.2.2.2.1 v0.2.2.2.2.2.2.1 v0.2.2.2.2.2.2.2.1 v0.2.2.2.2.2.2.2.2) (frk (a1==3) (Dspec_l20Keeps_0 n a0 v0.1.1.inn v0.1.1.pl.A v0.1.1.pl.B v0.1.1.pl.C v0.1.1.pl.D v0.1.1.kids v0.1.2.1.inn v0.1.2.1.pl.A v0.1.2.1.pl.B v0.1.2.1.pl.C v0.1.2.1.pl.D v0.1.2.1.kids v0.1.2.2.1.inn v0.1.2.2.1.pl.A v0.1.2.2.1.pl.B v0.1.2.2.1.pl.C v0.1.2.2.1.pl.D v0.1.2.2.1.kids v1.inn v1.pl.A v1.pl.B v1.pl.C v1.pl.D v1.kids v0.1.2.2.2.2.1.inn v0.1.2.2.2.2.1.pl.A v0.1.2.2.2.2.1.pl.B v0.1.2.2.2.2.1.pl.C v0.1.2.2.2.2.1.pl.D v0.1.2.2.2.2.1.kids v0.1.2.2.2.2.2.1.inn v0.1.2.2.2.2.2.1.pl.A v0.1.2.2.2.2.2.1.pl.B v0.1.2.2.2.2.2.1.pl.C v0.1.2.2.2.2.2.1.pl.D v0.1.2.2.2.2.2.1.kids v0.1.2.2.2.2.2.2.1.inn v0.1.2.2.2.2.2.2.1.pl.A v0.1.2.2.2.2.2.2.1.pl.B v0.1.2.2.2.2.2.2.1.pl.C v0.1.2.2.2.2.2.2.1.pl.D v0.1.2.2.2.2.2.2.1.kids v0.1.2.2.2.2.2.2.2.inn v0.1.2.2.2.2.2.2.2.pl.A v0.1.2.2.2.2.2.2.2.pl.B v0.1.2.2.2.2.2.2.2.pl.C v0.1.2.2.2.2.2.2.2.pl.D v0.1.2.2.2.2.2.2.2.kids v0.2.1 v0.2.2.1 v0.2.2.2.1 true v0.2.2.2.2.2.1 v0.2.2.2.2.2.2.1 v0.2.2.2.2.2.2.2.1 v0.2.2.2.2.2.2.2.2) (frk (a1==4) (Dspec_l20Keeps_0 n a0 v0.1.1.inn v0.1.1.pl.A v0.1.1.pl.B v0.1.1.pl.C v0.1.1.pl.D v0.1.1.kids v0.1.2.1.inn v0.1.2.1.pl.A v0.1.2.1.pl.B v0.1.2.1.pl.C v0.1.2.1.pl.D v0.1.2.1.kids v0.1.2.2.1.inn v0.1.2.2.1.pl.A v0.1.2.2.1.pl.B v0.1.2.2.1.pl.C v0.1.2.2.1.pl.D v0.1.2.2.1.kids v0.1.2.2.2.1.inn v0.1.2.2.2.1.pl.A v0.1.2.2.2.1.pl.B v0.1.2.2.2.1.pl.C v0.1.2.2.2.1.pl.D v0.1.2.2.2.1.kids v1.inn v1.pl.A v1.pl.B v1.pl.C v1.pl.D v1.kids v0.1.2.2.2.2.2.1.inn v0.1.2.2.2.2.2.1.pl.A v0.1.2.2.2.2.2.1.pl.B v0.1.2.2.2.2.2.1.pl.C v0.1.2.2.2.2.2.1.pl.D v0.1.2.2.2.2.2.1.kids v0.1.2.2.2.2.2.2.1.inn v0.1.2.2.2.2.2.2.1.pl.A v0.1.2.2.2.2.2.2.1.pl.B v0.1.2.2.2.2.2.2.1.pl.C v0.1.2.2.2.2.2.2.1.pl.D v0.1.2.2.2.2.2.2.1.kids v0.1.2.2.2.2.2.2.2.inn v0.1.2.2.2.2.2.2.2.pl.A v0.1.2.2.2.2.2.2.2.pl.B v0.1.2.2.2.2.2.2.2.pl.C v0.1.2.2.2.2.2.2.2.pl.D v0.1.2.2.2.2.2.2.2.kids v0.2.1 v0.2.2.1 v0.2.2.2.1 v0.2.2.2.2.1 true v0.2.2.2.2.2.2.1 v0.2.2.2.2.2.2.2.1 v0.2.2.2.2.2.2.2.2) (frk (a1==5) (Dspec_l20Keeps_0 n a0 v0.1.1.inn v0.1.1.pl.A v0.1.1.pl.B v0.1.1.pl.C v0.1.1.pl.D v0.1.1.kids v0.1.2.1.inn v0.1.2.1.pl.A v0.1.2.1.pl.B v0.1.2.1.pl.C v0.1.2.1.pl.D v0.1.2.1.kids v0.1.2.2.1.inn v0.1.2.2.1.pl.A v0.1.2.2.1.pl.B v0.1.2.2.1.pl.C v0.1.2.2.1.pl.D v0.1.2.2.1.kids v0.1.2.2.2.1.inn v0.1.2.2.2.1.pl.A v0.1.2.2.2.1.pl.B v0.1.2.2.2.1.pl.C v0.1.2.2.2.1.pl.D v0.1.2.2.2.1.kids v0.1.2.2.2.2.1.inn v0.1.2.2.2.2.1.pl.A v0.1.2.2.2.2.1.pl.B v0.1.2.2.2.2.1.pl.C v0.1.2.2.2.2.1.pl.D v0.1.2.2.2.2.1.kids v1.inn v1.pl.A v1.pl.B v1.pl.C v1.pl.D v1.kids v0.1.2.2.2.2.2.2.1.inn v0.1.2.2.2.2.2.2.1.pl.A v0.1.2.2.2.2.2.2.1.pl.B v0.1.2.2.2.2.2.2.1.pl.C v0.1.2.2.2.2.2.2.1.pl.D v0.1.2.2.2.2.2.2.1.kids v0.1.2.2.2.2.2.2.2.inn v0.1.2.2.2.2.2.2.2.pl.A v0.1.2.2.2.2.2.2.2.pl.B v0.1.2.2.2.2.2.2.2.pl.C v0.1.2.2.2.2.2.2.2.pl.D v0.1.2.2.2.2.2.2.2.kids v0.2.1 v0.2.2.1 v0.2.2.2.1 v0.2.2.2.2.1 v0.2.2.2.2.2.1 true v0.2.2.2.2.2.2.2.1 v0.2.2.2.2.2.2.2.2) (frk (a1==6) (Dspec_l20Keeps_0 n a0 v0.1.1.inn v0.1.1.pl.A v0.1.1.pl.B v0.1.1.pl.C v0.1.1.pl.D v0.1.1.kids v0.1.2.1.inn v0.1.2.1.pl.A v0.1.2.1.pl.B v0.1.2.1.pl.C v0.1.2.1.pl.D v0.1.2.1.kids v0.1.2.2.1.inn v0.1.2.2.1.pl.A v0.1.2.2.1.pl.B v0.1.2.2.1.pl.C v0.1.2.2.1.pl.D v0.1.2.2.1.kids v0.1.2.2.2.1.inn v0.1.2.2.2.1.pl.A v0.1.2.2.2.1.pl.B v0.1.2.2.2.1.pl.C v0.1.2.2.2.1.pl.D v0.1.2.2.2.1.kids v0.1.2.2.2.2.1.inn v0.1.2.2.2.2.1.pl.A v0.1.2.2.2.2.1.pl.B v0.1.2.2.2.2.1.pl.C v0.1.2.2.2.2.1.pl.D v0.1.2.2.2.2.1.kids v0.1.2.2.2.2.2.1.inn v0.1.2.2.2.2.2.1.pl.A v0.1.2.2.2.2.2.1.pl.B v0.1.2.2.2.2.2.1.pl.C v0.1.2.2.2.2.2.1.pl.D v0.1.2.2.2.2.2.1.kids v1.inn v1.pl.A v1.pl.B v1.pl.C v1.pl.D v1.kids v0.1.2.2.2.2.2.2.2.inn v0.1.2.2.2.2.2.2.2.pl.A v0.1.2.2.2.2.2.2.2.pl.B v0.1.2.2.2.2.2.2.2.pl.C v0.1.2.2.2.2.2.2.2.pl.D v0.1.2.2.2.2.2.2.2.kids v0.2.1 v0.2.2.1 v0.2.2.2.1 v0.2.2.2.2.1 v0.2.2.2.2.2.1 v0.2.2.2.2.2.2.1 true v0.2.2.2.2.2.2.2.2) (frk (a1==7) (Dspec_l20Keeps_0 n a0 v0.1.1.inn v0.1.1.pl.A v0.1.1.pl.B v0.1.1.pl.C v0.1.1.pl.D v0.1.1.kids v0.1.2.1.inn v0.1.2.1.pl.A v0.1.2.1.pl.B v0.1.2.1.pl.C v0.1.2.1.pl.D v0.1.2.1.kids v0.1.2.2.1.inn v0.1.2.2.1.pl.A v0.1.2.2.1.pl.B v0.1.2.2.1.pl.C v0.1.2.2.1.pl.D v0.1.2.2.1.kids v0.1.2.2.2.1.inn v0.1.2.2.2.1.pl.A v0.1.2.2.2.1.pl.B v0.1.2.2.2.1.pl.C v0.1.2.2.2.1.pl.D v0.1.2.2.2.1.kids v0.1.2.2.2.2.1.inn v0.1.2.2.2.2.1.pl.A v0.1.2.2.2.2.1.pl.B v0.1.2.2.2.2.1.pl.C v0.1.2.2.2.2.1.pl.D v0.1.2.2.2.2.1.kids v0.1.2.2.2.2.2.1.inn v0.1.2.2.2.2.2.1.pl.A v0.1.2.2.2.2.2.1.pl.B v0.1.2.2.2.2.2.1.pl.C v0.1.2.2.2.2.2.1.pl.D v0.1.2.2.2.2.2.1.kids v0.1.2.2.2.2.2.2.1.inn v0.1.2.2.2.2.2.2.1.pl.A v0.1.2.2.2.2.2.2.1.pl.B v0.1.2.2.2.2.2.2.1.pl.C v0.1.2.2.2.2.2.2.1.pl.D v0.1.2.2.2.2.2.2.1.kids v1.inn v1.pl.A v1.pl.B v1.pl.C v1.pl.D v1.kids v0.2.1 v0.2.2.1 v0.2.2.2.1 v0.2.2.2.2.1 v0.2.2.2.2.2.1 v0.2.2.2.2.2.2.1 v0.2.2.2.2.2.2.2.1 true) (none))))))))
theorem Tspec_l20Keeps{Y}(n:Nat)(a0:Dsk)(a1:Int)(a2:Sol)(r:(Dsk×Int))(h:Dspec_l20Keeps n a0 a1 a2=some r):Big Tryz.prog H Y (.call 55 [.agg (cT38 a0),i64 a1,eF a2] (lk []) (.tup [.agg (cT38o r.1),i64 r.2]) (lk [])):=by
 unfold Dspec_l20Keeps at h
 refine x_call (fn:=Tryz.f55) (c:=bodyOf Tryz.f55) (bs0:=[]) Tryz.func55 (by kernel_rfl) (by kernel_rfl) ?_
 obtain⟨v0,y0,h⟩:=bm h
 obtain⟨v1,y1,h⟩:=bm h
 refine x_pt 20 [(5,.call [] [] (.agg (cT38o v0)) []),(4,.call [] [] (eS v1) [])] (ocons (Tspec_l20Copy (Y:=Y) n a0 _ y0) (ocons (Tspec_l8Copy (Y:=Y) n a2 _ y1) onil)) (by kernel_rfl) ?_
 rcases frk_eq h with ⟨hc,hk1⟩ | h
 ·subst hc
  replace h:=hk1
  exact x_to 12 [] onil (Tspec_l20Keeps_0 n a0 v1.inn v1.pl.A v1.pl.B v1.pl.C v1.pl.D v1.kids v0.1.2.1.inn v0.1.2.1.pl.A v0.1.2.1.pl.B v0.1.2.1.pl.C v0.1.2.1.pl.D v0.1.2.1.kids v0.1.2.2.1.inn v0.1.2.2.1.pl.A v0.1.2.2.1.pl.B v0.1.2.2.1.pl.C v0.1.2.2.1.pl.D v0.1.2.2.1.kids v0.1.2.2.2.1.inn v0.1.2.2.2.1.pl.A v0.1.2.2.2.1.pl.B v0.1.2.2.2.1.pl.C v0.1.2.2.2.1.pl.D v0.1.2.2.2.1.kids v0.1.2.2.2.2.1.inn v0.1.2.2.2.2.1.pl.A v0.1.2.2.2.2.1.pl.B v0.1.2.2.2.2.1.pl.C v0.1.2.2.2.2.1.pl.D v0.1.2.2.2.2.1.kids v0.1.2.2.2.2.2.1.inn v0.1.2.2.2.2.2.1.pl.A v0.1.2.2.2.2.2.1.pl.B v0.1.2.2.2.2.2.1.pl.C v0.1.2.2.2.2.2.1.pl.D v0.1.2.2.2.2.2.1.kids v0.1.2.2.2.2.2.2.1.inn v0.1.2.2.2.2.2.2.1.pl.A v0.1.2.2.2.2.2.2.1.pl.B v0.1.2.2.2.2.2.2.1.pl.C v0.1.2.2.2.2.2.2.1.pl.D v0.1.2.2.2.2.2.2.1.kids v0.1.2.2.2.2.2.2.2.inn v0.1.2.2.2.2.2.2.2.pl.A v0.1.2.2.2.2.2.2.2.pl.B v0.1.2.2.2.2.2.2.2.pl.C v0.1.2.2.2.2.2.2.2.pl.D v0.1.2.2.2.2.2.2.2.kids true v0.2.2.1 v0.2.2.2.1 v0.2.2.2.2.1 v0.2.2.2.2.2.1 v0.2.2.2.2.2.2.1 v0.2.2.2.2.2.2.2.1 v0.2.2.2.2.2.2.2.2 r h) 
 rcases frk_eq h with ⟨hc,hk2⟩ | h
 ·subst hc
  replace h:=hk2
  exact x_to 12 [] onil (Tspec_l20Keeps_0 n a0 v0.1.1.inn v0.1.1.pl.A v0.1.1.pl.B v0.1.1.pl.C v0.1.1.pl.D v0.1.1.kids v1.inn v1.pl.A v1.pl.B v1.pl.C v1.pl.D v1.kids v0.1.2.2.1.inn v0.1.2.2.1.pl.A v0.1.2.2.1.pl.B v0.1.2.2.1.pl.C v0.1.2.2.1.pl.D v0.1.2.2.1.kids v0.1.2.2.2.1.inn v0.1.2.2.2.1.pl.A v0.1.2.2.2.1.pl.B v0.1.2.2.2.1.pl.C v0.1.2.2.2.1.pl.D v0.1.2.2.2.1.kids v0.1.2.2.2.2.1.inn v0.1.2.2.2.2.1.pl.A v0.1.2.2.2.2.1.pl.B v0.1.2.2.2.2.1.pl.C v0.1.2.2.2.2.1.pl.D v0.1.2.2.2.2.1.kids v0.1.2.2.2.2.2.1.inn v0.1.2.2.2.2.2.1.pl.A v0.1.2.2.2.2.2.1.pl.B v0.1.2.2.2.2.2.1.pl.C v0.1.2.2.2.2.2.1.pl.D v0.1.2.2.2.2.2.1.kids v0.1.2.2.2.2.2.2.1.inn v0.1.2.2.2.2.2.2.1.pl.A v0.1.2.2.2.2.2.2.1.pl.B v0.1.2.2.2.2.2.2.1.pl.C v0.1.2.2.2.2.2.2.1.pl.D v0.1.2.2.2.2.2.2.1.kids v0.1.2.2.2.2.2.2.2.inn v0.1.2.2.2.2.2.2.2.pl.A v0.1.2.2.2.2.2.2.2.pl.B v0.1.2.2.2.2.2.2.2.pl.C v0.1.2.2.2.2.2.2.2.pl.D v0.1.2.2.2.2.2.2.2.kids v0.2.1 true v0.2.2.2.1 v0.2.2.2.2.1 v0.2.2.2.2.2.1 v0.2.2.2.2.2.2.1 v0.2.2.2.2.2.2.2.1 v0.2.2.2.2.2.2.2.2 r h) 
 rcases frk_eq h with ⟨hc,hk3⟩ | h
 ·subst hc
  replace h:=hk3
  exact x_to 12 [] onil (Tspec_l20Keeps_0 n a0 v0.1.1.inn v0.1.1.pl.A v0.1.1.pl.B v0.1.1.pl.C v0.1.1.pl.D v0.1.1.kids v0.1.2.1.inn v0.1.2.1.pl.A v0.1.2.1.pl.B v0.1.2.1.pl.C v0.1.2.1.pl.D v0.1.2.1.kids v1.inn v1.pl.A v1.pl.B v1.pl.C v1.pl.D v1.kids v0.1.2.2.2.1.inn v0.1.2.2.2.1.pl.A v0.1.2.2.2.1.pl.B v0.1.2.2.2.1.pl.C v0.1.2.2.2.1.pl.D v0.1.2.2.2.1.kids v0.1.2.2.2.2.1.inn v0.1.2.2.2.2.1.pl.A v0.1.2.2.2.2.1.pl.B v0.1.2.2.2.2.1.pl.C v0.1.2.2.2.2.1.pl.D v0.1.2.2.2.2.1.kids v0.1.2.2.2.2.2.1.inn v0.1.2.2.2.2.2.1.pl.A v0.1.2.2.2.2.2.1.pl.B v0.1.2.2.2.2.2.1.pl.C v0.1.2.2.2.2.2.1.pl.D v0.1.2.2.2.2.2.1.kids v0.1.2.2.2.2.2.2.1.inn v0.1.2.2.2.2.2.2.1.pl.A v0.1.2.2.2.2.2.2.1.pl.B v0.1.2.2.2.2.2.2.1.pl.C v0.1.2.2.2.2.2.2.1.pl.D v0.1.2.2.2.2.2.2.1.kids v0.1.2.2.2.2.2.2.2.inn v0.1.2.2.2.2.2.2.2.pl.A v0.1.2.2.2.2.2.2.2.pl.B v0.1.2.2.2.2.2.2.2.pl.C v0.1.2.2.2.2.2.2.2.pl.D v0.1.2.2.2.2.2.2.2.kids v0.2.1 v0.2.2.1 true v0.2.2.2.2.1 v0.2.2.2.2.2.1 v0.2.2.2.2.2.2.1 v0.2.2.2.2.2.2.2.1 v0.2.2.2.2.2.2.2.2 r h) 
 rcases frk_eq h with ⟨hc,hk4⟩ | h
 ·subst hc
  replace h:=hk4
  exact x_to 12 [] onil (Tspec_l20Keeps_0 n a0 v0.1.1.inn v0.1.1.pl.A v0.1.1.pl.B v0.1.1.pl.C v0.1.1.pl.D v0.1.1.kids v0.1.2.1.inn v0.1.2.1.pl.A v0.1.2.1.pl.B v0.1.2.1.pl.C v0.1.2.1.pl.D v0.1.2.1.kids v0.1.2.2.1.inn v0.1.2.2.1.pl.A v0.1.2.2.1.pl.B v0.1.2.2.1.pl.C v0.1.2.2.1.pl.D v0.1.2.2.1.kids v1.inn v1.pl.A v1.pl.B v1.pl.C v1.pl.D v1.kids v0.1.2.2.2.2.1.inn v0.1.2.2.2.2.1.pl.A v0.1.2.2.2.2.1.pl.B v0.1.2.2.2.2.1.pl.C v0.1.2.2.2.2.1.pl.D v0.1.2.2.2.2.1.kids v0.1.2.2.2.2.2.1.inn v0.1.2.2.2.2.2.1.pl.A v0.1.2.2.2.2.2.1.pl.B v0.1.2.2.2.2.2.1.pl.C v0.1.2.2.2.2.2.1.pl.D v0.1.2.2.2.2.2.1.kids v0.1.2.2.2.2.2.2.1.inn v0.1.2.2.2.2.2.2.1.pl.A v0.1.2.2.2.2.2.2.1.pl.B v0.1.2.2.2.2.2.2.1.pl.C v0.1.2.2.2.2.2.2.1.pl.D v0.1.2.2.2.2.2.2.1.kids v0.1.2.2.2.2.2.2.2.inn v0.1.2.2.2.2.2.2.2.pl.A v0.1.2.2.2.2.2.2.2.pl.B v0.1.2.2.2.2.2.2.2.pl.C v0.1.2.2.2.2.2.2.2.pl.D v0.1.2.2.2.2.2.2.2.kids v0.2.1 v0.2.2.1 v0.2.2.2.1 true v0.2.2.2.2.2.1 v0.2.2.2.2.2.2.1 v0.2.2.2.2.2.2.2.1 v0.2.2.2.2.2.2.2.2 r h) 
 rcases frk_eq h with ⟨hc,hk5⟩ | h
 ·subst hc
  replace h:=hk5
  exact x_to 12 [] onil (Tspec_l20Keeps_0 n a0 v0.1.1.inn v0.1.1.pl.A v0.1.1.pl.B v0.1.1.pl.C v0.1.1.pl.D v0.1.1.kids v0.1.2.1.inn v0.1.2.1.pl.A v0.1.2.1.pl.B v0.1.2.1.pl.C v0.1.2.1.pl.D v0.1.2.1.kids v0.1.2.2.1.inn v0.1.2.2.1.pl.A v0.1.2.2.1.pl.B v0.1.2.2.1.pl.C v0.1.2.2.1.pl.D v0.1.2.2.1.kids v0.1.2.2.2.1.inn v0.1.2.2.2.1.pl.A v0.1.2.2.2.1.pl.B v0.1.2.2.2.1.pl.C v0.1.2.2.2.1.pl.D v0.1.2.2.2.1.kids v1.inn v1.pl.A v1.pl.B v1.pl.C v1.pl.D v1.kids v0.1.2.2.2.2.2.1.inn v0.1.2.2.2.2.2.1.pl.A v0.1.2.2.2.2.2.1.pl.B v0.1.2.2.2.2.2.1.pl.C v0.1.2.2.2.2.2.1.pl.D v0.1.2.2.2.2.2.1.kids v0.1.2.2.2.2.2.2.1.inn v0.1.2.2.2.2.2.2.1.pl.A v0.1.2.2.2.2.2.2.1.pl.B v0.1.2.2.2.2.2.2.1.pl.C v0.1.2.2.2.2.2.2.1.pl.D v0.1.2.2.2.2.2.2.1.kids v0.1.2.2.2.2.2.2.2.inn v0.1.2.2.2.2.2.2.2.pl.A v0.1.2.2.2.2.2.2.2.pl.B v0.1.2.2.2.2.2.2.2.pl.C v0.1.2.2.2.2.2.2.2.pl.D v0.1.2.2.2.2.2.2.2.kids v0.2.1 v0.2.2.1 v0.2.2.2.1 v0.2.2.2.2.1 true v0.2.2.2.2.2.2.1 v0.2.2.2.2.2.2.2.1 v0.2.2.2.2.2.2.2.2 r h) 
 rcases frk_eq h with ⟨hc,hk6⟩ | h
 ·subst hc
  replace h:=hk6
  exact x_to 12 [] onil (Tspec_l20Keeps_0 n a0 v0.1.1.inn v0.1.1.pl.A v0.1.1.pl.B v0.1.1.pl.C v0.1.1.pl.D v0.1.1.kids v0.1.2.1.inn v0.1.2.1.pl.A v0.1.2.1.pl.B v0.1.2.1.pl.C v0.1.2.1.pl.D v0.1.2.1.kids v0.1.2.2.1.inn v0.1.2.2.1.pl.A v0.1.2.2.1.pl.B v0.1.2.2.1.pl.C v0.1.2.2.1.pl.D v0.1.2.2.1.kids v0.1.2.2.2.1.inn v0.1.2.2.2.1.pl.A v0.1.2.2.2.1.pl.B v0.1.2.2.2.1.pl.C v0.1.2.2.2.1.pl.D v0.1.2.2.2.1.kids v0.1.2.2.2.2.1.inn v0.1.2.2.2.2.1.pl.A v0.1.2.2.2.2.1.pl.B v0.1.2.2.2.2.1.pl.C v0.1.2.2.2.2.1.pl.D v0.1.2.2.2.2.1.kids v1.inn v1.pl.A v1.pl.B v1.pl.C v1.pl.D v1.kids v0.1.2.2.2.2.2.2.1.inn v0.1.2.2.2.2.2.2.1.pl.A v0.1.2.2.2.2.2.2.1.pl.B v0.1.2.2.2.2.2.2.1.pl.C v0.1.2.2.2.2.2.2.1.pl.D v0.1.2.2.2.2.2.2.1.kids v0.1.2.2.2.2.2.2.2.inn v0.1.2.2.2.2.2.2.2.pl.A v0.1.2.2.2.2.2.2.2.pl.B v0.1.2.2.2.2.2.2.2.pl.C v0.1.2.2.2.2.2.2.2.pl.D v0.1.2.2.2.2.2.2.2.kids v0.2.1 v0.2.2.1 v0.2.2.2.1 v0.2.2.2.2.1 v0.2.2.2.2.2.1 true v0.2.2.2.2.2.2.2.1 v0.2.2.2.2.2.2.2.2 r h) 
 rcases frk_eq h with ⟨hc,hk7⟩ | h
 ·subst hc
  replace h:=hk7
  exact x_to 12 [] onil (Tspec_l20Keeps_0 n a0 v0.1.1.inn v0.1.1.pl.A v0.1.1.pl.B v0.1.1.pl.C v0.1.1.pl.D v0.1.1.kids v0.1.2.1.inn v0.1.2.1.pl.A v0.1.2.1.pl.B v0.1.2.1.pl.C v0.1.2.1.pl.D v0.1.2.1.kids v0.1.2.2.1.inn v0.1.2.2.1.pl.A v0.1.2.2.1.pl.B v0.1.2.2.1.pl.C v0.1.2.2.1.pl.D v0.1.2.2.1.kids v0.1.2.2.2.1.inn v0.1.2.2.2.1.pl.A v0.1.2.2.2.1.pl.B v0.1.2.2.2.1.pl.C v0.1.2.2.2.1.pl.D v0.1.2.2.2.1.kids v0.1.2.2.2.2.1.inn v0.1.2.2.2.2.1.pl.A v0.1.2.2.2.2.1.pl.B v0.1.2.2.2.2.1.pl.C v0.1.2.2.2.2.1.pl.D v0.1.2.2.2.2.1.kids v0.1.2.2.2.2.2.1.inn v0.1.2.2.2.2.2.1.pl.A v0.1.2.2.2.2.2.1.pl.B v0.1.2.2.2.2.2.1.pl.C v0.1.2.2.2.2.2.1.pl.D v0.1.2.2.2.2.2.1.kids v1.inn v1.pl.A v1.pl.B v1.pl.C v1.pl.D v1.kids v0.1.2.2.2.2.2.2.2.inn v0.1.2.2.2.2.2.2.2.pl.A v0.1.2.2.2.2.2.2.2.pl.B v0.1.2.2.2.2.2.2.2.pl.C v0.1.2.2.2.2.2.2.2.pl.D v0.1.2.2.2.2.2.2.2.kids v0.2.1 v0.2.2.1 v0.2.2.2.1 v0.2.2.2.2.1 v0.2.2.2.2.2.1 v0.2.2.2.2.2.2.1 true v0.2.2.2.2.2.2.2.2 r h) 
 rcases frk_eq h with ⟨hc,hk8⟩ | h
 ·subst hc
  replace h:=hk8
  exact x_to 12 [] onil (Tspec_l20Keeps_0 n a0 v0.1.1.inn v0.1.1.pl.A v0.1.1.pl.B v0.1.1.pl.C v0.1.1.pl.D v0.1.1.kids v0.1.2.1.inn v0.1.2.1.pl.A v0.1.2.1.pl.B v0.1.2.1.pl.C v0.1.2.1.pl.D v0.1.2.1.kids v0.1.2.2.1.inn v0.1.2.2.1.pl.A v0.1.2.2.1.pl.B v0.1.2.2.1.pl.C v0.1.2.2.1.pl.D v0.1.2.2.1.kids v0.1.2.2.2.1.inn v0.1.2.2.2.1.pl.A v0.1.2.2.2.1.pl.B v0.1.2.2.2.1.pl.C v0.1.2.2.2.1.pl.D v0.1.2.2.2.1.kids v0.1.2.2.2.2.1.inn v0.1.2.2.2.2.1.pl.A v0.1.2.2.2.2.1.pl.B v0.1.2.2.2.2.1.pl.C v0.1.2.2.2.2.1.pl.D v0.1.2.2.2.2.1.kids v0.1.2.2.2.2.2.1.inn v0.1.2.2.2.2.2.1.pl.A v0.1.2.2.2.2.2.1.pl.B v0.1.2.2.2.2.2.1.pl.C v0.1.2.2.2.2.2.1.pl.D v0.1.2.2.2.2.2.1.kids v0.1.2.2.2.2.2.2.1.inn v0.1.2.2.2.2.2.2.1.pl.A v0.1.2.2.2.2.2.2.1.pl.B v0.1.2.2.2.2.2.2.1.pl.C v0.1.2.2.2.2.2.2.1.pl.D v0.1.2.2.2.2.2.2.1.kids v1.inn v1.pl.A v1.pl.B v1.pl.C v1.pl.D v1.kids v0.2.1 v0.2.2.1 v0.2.2.2.1 v0.2.2.2.2.1 v0.2.2.2.2.2.1 v0.2.2.2.2.2.2.1 v0.2.2.2.2.2.2.2.1 true r h) 
 exact absurd h (by simp)
end Evl.T
