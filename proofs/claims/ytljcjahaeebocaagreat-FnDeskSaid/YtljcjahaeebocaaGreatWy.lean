
/- Walks. No condition. -/
import Derived.Test.YtljcjahaeebocaaGreatJd
import Derived.Test.YtljcjahaeebocaaGreatChecked
namespace Evl.T
open Go Evl Go.Proofs
theorem sj{α:Type}{a b:α}(h:some a=some b):a=b:=Option.some.inj h
theorem bm{α β:Type}{x:Option α}{f:α→Option β}{r:β}(h:x.bind f=some r):∃v,x=some v∧f v=some r:=bind_some h
def eS(x:Sol):AV:=.agg [bl x.inn,iN x.pl.A,iN x.pl.B,iN x.pl.C,iN x.pl.D,.sl true 6 x.kids.length ((eSol true).f x.kids)]
def eF(x:Sol):AV:=.agg [bl x.inn,iN x.pl.A,iN x.pl.B,iN x.pl.C,iN x.pl.D,.sl false 6 x.kids.length ((eSol false).f x.kids)]
set_option maxRecDepth 100000
set_option maxHeartbeats 8000000
def H:Hints:={ mv:=hasP [(13,22),(27,18),(27,25),(27,33),(45,42),(60,66),(63,17),(64,23),(67,18),(68,24),(71,18),(72,22),(72,25),(72,26),(74,26),(95,8),(95,9),(112,8),(112,9),(117,18),(117,25),(117,33),(121,23),(123,26),(124,49),(124,50),(125,42),(125,43),(150,42),(151,23),(151,26),(151,27),(152,26),(153,85),(153,86),(154,45),(154,46),(162,18),(177,31),(179,43),(179,44),(189,89),(190,24),(190,25)],own:=hasP [(45,1),(79,1),(95,1),(95,2),(112,1),(112,2),(114,1),(154,2),(154,3),(190,1),(190,2)],mt:=hasP [(33,0),(34,0),(45,0),(46,0),(47,0),(49,0),(50,0),(60,0),(78,0),(79,0),(81,0),(94,0),(97,0),(124,0),(129,0),(138,0),(153,0),(154,0),(177,0),(180,0),(189,0)],eqt:=fun t=>[25,159].contains t }
abbrev zD:List AV:=[bl false,iN 0,iN 0,iN 0,iN 0,.nil,bl false,iN 0,iN 0,iN 0,iN 0,.nil,bl false,iN 0,iN 0,iN 0,iN 0,.nil,bl false,iN 0,iN 0,iN 0,iN 0,.nil,bl false,iN 0,iN 0,iN 0,iN 0,.nil,bl false,iN 0,iN 0,iN 0,iN 0,.nil,bl false,iN 0,iN 0,iN 0,iN 0,.nil,bl false,iN 0,iN 0,iN 0,iN 0,.nil,bl false,bl false,bl false,bl false,bl false,bl false,bl false,bl false]
abbrev WT:=Wk Tryz.prog H
abbrev BT:=Big Tryz.prog H
abbrev FT:=FinX Tryz.prog
noncomputable abbrev B5:=bodyOf Tryz.f5
noncomputable abbrev B6:=bodyOf Tryz.f6
noncomputable abbrev B10:=bodyOf Tryz.f10
noncomputable abbrev B11:=bodyOf Tryz.f11
noncomputable abbrev B13:=bodyOf Tryz.f13
noncomputable abbrev B19:=bodyOf Tryz.f19
noncomputable abbrev B20:=bodyOf Tryz.f20
noncomputable abbrev B21:=bodyOf Tryz.f21
noncomputable abbrev B22:=bodyOf Tryz.f22
noncomputable abbrev B23:=bodyOf Tryz.f23
noncomputable abbrev B24:=bodyOf Tryz.f24
noncomputable abbrev B25:=bodyOf Tryz.f25
noncomputable abbrev B26:=bodyOf Tryz.f26
noncomputable abbrev B27:=bodyOf Tryz.f27
noncomputable abbrev B28:=bodyOf Tryz.f28
noncomputable abbrev B29:=bodyOf Tryz.f29
noncomputable abbrev B30:=bodyOf Tryz.f30
noncomputable abbrev B31:=bodyOf Tryz.f31
noncomputable abbrev B32:=bodyOf Tryz.f32
noncomputable abbrev B36:=bodyOf Tryz.f36
noncomputable abbrev B40:=bodyOf Tryz.f40
noncomputable abbrev B41:=bodyOf Tryz.f41
noncomputable abbrev B42:=bodyOf Tryz.f42
noncomputable abbrev B45:=bodyOf Tryz.f45
noncomputable abbrev B46:=bodyOf Tryz.f46
noncomputable abbrev B47:=bodyOf Tryz.f47
noncomputable abbrev B48:=bodyOf Tryz.f48
noncomputable abbrev B49:=bodyOf Tryz.f49
noncomputable abbrev B50:=bodyOf Tryz.f50
noncomputable abbrev B59:=bodyOf Tryz.f59
noncomputable abbrev B60:=bodyOf Tryz.f60
noncomputable abbrev B61:=bodyOf Tryz.f61
noncomputable abbrev B62:=bodyOf Tryz.f62
noncomputable abbrev B63:=bodyOf Tryz.f63
noncomputable abbrev B64:=bodyOf Tryz.f64
noncomputable abbrev B65:=bodyOf Tryz.f65
noncomputable abbrev B66:=bodyOf Tryz.f66
noncomputable abbrev B67:=bodyOf Tryz.f67
noncomputable abbrev B68:=bodyOf Tryz.f68
noncomputable abbrev B69:=bodyOf Tryz.f69
noncomputable abbrev B70:=bodyOf Tryz.f70
noncomputable abbrev B71:=bodyOf Tryz.f71
noncomputable abbrev B72:=bodyOf Tryz.f72
noncomputable abbrev B73:=bodyOf Tryz.f73
noncomputable abbrev B74:=bodyOf Tryz.f74
noncomputable abbrev B75:=bodyOf Tryz.f75
noncomputable abbrev B76:=bodyOf Tryz.f76
noncomputable abbrev B77:=bodyOf Tryz.f77
noncomputable abbrev B79:=bodyOf Tryz.f79
noncomputable abbrev B81:=bodyOf Tryz.f81
noncomputable abbrev B86:=bodyOf Tryz.f86
noncomputable abbrev B88:=bodyOf Tryz.f88
noncomputable abbrev B89:=bodyOf Tryz.f89
noncomputable abbrev B90:=bodyOf Tryz.f90
noncomputable abbrev B91:=bodyOf Tryz.f91
noncomputable abbrev B92:=bodyOf Tryz.f92
noncomputable abbrev B94:=bodyOf Tryz.f94
noncomputable abbrev B95:=bodyOf Tryz.f95
noncomputable abbrev B96:=bodyOf Tryz.f96
noncomputable abbrev B97:=bodyOf Tryz.f97
noncomputable abbrev B98:=bodyOf Tryz.f98
noncomputable abbrev B99:=bodyOf Tryz.f99
noncomputable abbrev B100:=bodyOf Tryz.f100
noncomputable abbrev B101:=bodyOf Tryz.f101
noncomputable abbrev B102:=bodyOf Tryz.f102
noncomputable abbrev B104:=bodyOf Tryz.f104
noncomputable abbrev B105:=bodyOf Tryz.f105
noncomputable abbrev B109:=bodyOf Tryz.f109
noncomputable abbrev B110:=bodyOf Tryz.f110
noncomputable abbrev B111:=bodyOf Tryz.f111
noncomputable abbrev B112:=bodyOf Tryz.f112
noncomputable abbrev B117:=bodyOf Tryz.f117
noncomputable abbrev B118:=bodyOf Tryz.f118
noncomputable abbrev B119:=bodyOf Tryz.f119
noncomputable abbrev B120:=bodyOf Tryz.f120
noncomputable abbrev B121:=bodyOf Tryz.f121
noncomputable abbrev B122:=bodyOf Tryz.f122
noncomputable abbrev B123:=bodyOf Tryz.f123
noncomputable abbrev B124:=bodyOf Tryz.f124
noncomputable abbrev B125:=bodyOf Tryz.f125
noncomputable abbrev B126:=bodyOf Tryz.f126
noncomputable abbrev B127:=bodyOf Tryz.f127
noncomputable abbrev B128:=bodyOf Tryz.f128
noncomputable abbrev B132:=bodyOf Tryz.f132
noncomputable abbrev B133:=bodyOf Tryz.f133
noncomputable abbrev B134:=bodyOf Tryz.f134
noncomputable abbrev B135:=bodyOf Tryz.f135
noncomputable abbrev B136:=bodyOf Tryz.f136
noncomputable abbrev B138:=bodyOf Tryz.f138
noncomputable abbrev B139:=bodyOf Tryz.f139
noncomputable abbrev B140:=bodyOf Tryz.f140
noncomputable abbrev B144:=bodyOf Tryz.f144
noncomputable abbrev B145:=bodyOf Tryz.f145
noncomputable abbrev B146:=bodyOf Tryz.f146
noncomputable abbrev B147:=bodyOf Tryz.f147
noncomputable abbrev B148:=bodyOf Tryz.f148
noncomputable abbrev B150:=bodyOf Tryz.f150
noncomputable abbrev B151:=bodyOf Tryz.f151
noncomputable abbrev B152:=bodyOf Tryz.f152
noncomputable abbrev B153:=bodyOf Tryz.f153
noncomputable abbrev B154:=bodyOf Tryz.f154
noncomputable abbrev B155:=bodyOf Tryz.f155
noncomputable abbrev B156:=bodyOf Tryz.f156
noncomputable abbrev B157:=bodyOf Tryz.f157
noncomputable abbrev B158:=bodyOf Tryz.f158
noncomputable abbrev B159:=bodyOf Tryz.f159
noncomputable abbrev B160:=bodyOf Tryz.f160
noncomputable abbrev B161:=bodyOf Tryz.f161
noncomputable abbrev B162:=bodyOf Tryz.f162
noncomputable abbrev B163:=bodyOf Tryz.f163
noncomputable abbrev B164:=bodyOf Tryz.f164
noncomputable abbrev B165:=bodyOf Tryz.f165
noncomputable abbrev B168:=bodyOf Tryz.f168
noncomputable abbrev B169:=bodyOf Tryz.f169
noncomputable abbrev B170:=bodyOf Tryz.f170
noncomputable abbrev B171:=bodyOf Tryz.f171
noncomputable abbrev B172:=bodyOf Tryz.f172
noncomputable abbrev B173:=bodyOf Tryz.f173
noncomputable abbrev B174:=bodyOf Tryz.f174
noncomputable abbrev B175:=bodyOf Tryz.f175
noncomputable abbrev B177:=bodyOf Tryz.f177
noncomputable abbrev B178:=bodyOf Tryz.f178
noncomputable abbrev B179:=bodyOf Tryz.f179
noncomputable abbrev B180:=bodyOf Tryz.f180
noncomputable abbrev B181:=bodyOf Tryz.f181
noncomputable abbrev B182:=bodyOf Tryz.f182
noncomputable abbrev B183:=bodyOf Tryz.f183
noncomputable abbrev B184:=bodyOf Tryz.f184
noncomputable abbrev B185:=bodyOf Tryz.f185
noncomputable abbrev B186:=bodyOf Tryz.f186
noncomputable abbrev B187:=bodyOf Tryz.f187
noncomputable abbrev B188:=bodyOf Tryz.f188
noncomputable abbrev B189:=bodyOf Tryz.f189
noncomputable abbrev B190:=bodyOf Tryz.f190
noncomputable abbrev B191:=bodyOf Tryz.f191
noncomputable abbrev B192:=bodyOf Tryz.f192
noncomputable abbrev B193:=bodyOf Tryz.f193
noncomputable abbrev B194:=bodyOf Tryz.f194
abbrev Dk8:=(Sol×Sol×Sol×Sol×Sol×Sol×Sol×Sol)×(Bool×Bool×Bool×Bool×Bool×Bool×Bool×Bool)
def kF (a:Dk8):List (List AV):=[(eSol false).f a.1.1.kids,(eSol false).f a.1.2.1.kids,(eSol false).f a.1.2.2.1.kids,(eSol false).f a.1.2.2.2.1.kids,(eSol false).f a.1.2.2.2.2.1.kids,(eSol false).f a.1.2.2.2.2.2.1.kids,(eSol false).f a.1.2.2.2.2.2.2.1.kids,(eSol false).f a.1.2.2.2.2.2.2.2.kids]
theorem oSh8(a:Dk8){ps:List Prop}(hs:All ps):All ((shareL ((eSol true).f a.1.1.kids)=(eSol false).f a.1.1.kids)::(shareL ((eSol true).f a.1.2.1.kids)=(eSol false).f a.1.2.1.kids)::(shareL ((eSol true).f a.1.2.2.1.kids)=(eSol false).f a.1.2.2.1.kids)::(shareL ((eSol true).f a.1.2.2.2.1.kids)=(eSol false).f a.1.2.2.2.1.kids)::(shareL ((eSol true).f a.1.2.2.2.2.1.kids)=(eSol false).f a.1.2.2.2.2.1.kids)::(shareL ((eSol true).f a.1.2.2.2.2.2.1.kids)=(eSol false).f a.1.2.2.2.2.2.1.kids)::(shareL ((eSol true).f a.1.2.2.2.2.2.2.1.kids)=(eSol false).f a.1.2.2.2.2.2.2.1.kids)::(shareL ((eSol true).f a.1.2.2.2.2.2.2.2.kids)=(eSol false).f a.1.2.2.2.2.2.2.2.kids)::ps):=(oC (Enc.share (eSol true) (eSol false) (sSol true) a.1.1.kids) (oC (Enc.share (eSol true) (eSol false) (sSol true) a.1.2.1.kids) (oC (Enc.share (eSol true) (eSol false) (sSol true) a.1.2.2.1.kids) (oC (Enc.share (eSol true) (eSol false) (sSol true) a.1.2.2.2.1.kids) (oC (Enc.share (eSol true) (eSol false) (sSol true) a.1.2.2.2.2.1.kids) (oC (Enc.share (eSol true) (eSol false) (sSol true) a.1.2.2.2.2.2.1.kids) (oC (Enc.share (eSol true) (eSol false) (sSol true) a.1.2.2.2.2.2.2.1.kids) (oC (Enc.share (eSol true) (eSol false) (sSol true) a.1.2.2.2.2.2.2.2.kids) hs))))))))
def cT52 (a:Dk8):List AV:=[bl a.1.1.inn,iN a.1.1.pl.A,iN a.1.1.pl.B,iN a.1.1.pl.C,iN a.1.1.pl.D,.sl false 6 a.1.1.kids.length ((eSol false).f a.1.1.kids),bl a.1.2.1.inn,iN a.1.2.1.pl.A,iN a.1.2.1.pl.B,iN a.1.2.1.pl.C,iN a.1.2.1.pl.D,.sl false 6 a.1.2.1.kids.length ((eSol false).f a.1.2.1.kids),bl a.1.2.2.1.inn,iN a.1.2.2.1.pl.A,iN a.1.2.2.1.pl.B,iN a.1.2.2.1.pl.C,iN a.1.2.2.1.pl.D,.sl false 6 a.1.2.2.1.kids.length ((eSol false).f a.1.2.2.1.kids),bl a.1.2.2.2.1.inn,iN a.1.2.2.2.1.pl.A,iN a.1.2.2.2.1.pl.B,iN a.1.2.2.2.1.pl.C,iN a.1.2.2.2.1.pl.D,.sl false 6 a.1.2.2.2.1.kids.length ((eSol false).f a.1.2.2.2.1.kids),bl a.1.2.2.2.2.1.inn,iN a.1.2.2.2.2.1.pl.A,iN a.1.2.2.2.2.1.pl.B,iN a.1.2.2.2.2.1.pl.C,iN a.1.2.2.2.2.1.pl.D,.sl false 6 a.1.2.2.2.2.1.kids.length ((eSol false).f a.1.2.2.2.2.1.kids),bl a.1.2.2.2.2.2.1.inn,iN a.1.2.2.2.2.2.1.pl.A,iN a.1.2.2.2.2.2.1.pl.B,iN a.1.2.2.2.2.2.1.pl.C,iN a.1.2.2.2.2.2.1.pl.D,.sl false 6 a.1.2.2.2.2.2.1.kids.length ((eSol false).f a.1.2.2.2.2.2.1.kids),bl a.1.2.2.2.2.2.2.1.inn,iN a.1.2.2.2.2.2.2.1.pl.A,iN a.1.2.2.2.2.2.2.1.pl.B,iN a.1.2.2.2.2.2.2.1.pl.C,iN a.1.2.2.2.2.2.2.1.pl.D,.sl false 6 a.1.2.2.2.2.2.2.1.kids.length ((eSol false).f a.1.2.2.2.2.2.2.1.kids),bl a.1.2.2.2.2.2.2.2.inn,iN a.1.2.2.2.2.2.2.2.pl.A,iN a.1.2.2.2.2.2.2.2.pl.B,iN a.1.2.2.2.2.2.2.2.pl.C,iN a.1.2.2.2.2.2.2.2.pl.D,.sl false 6 a.1.2.2.2.2.2.2.2.kids.length ((eSol false).f a.1.2.2.2.2.2.2.2.kids),bl a.2.1,bl a.2.2.1,bl a.2.2.2.1,bl a.2.2.2.2.1,bl a.2.2.2.2.2.1,bl a.2.2.2.2.2.2.1,bl a.2.2.2.2.2.2.2.1,bl a.2.2.2.2.2.2.2.2]
def cT52o(a:Dk8):List AV:=[bl a.1.1.inn,iN a.1.1.pl.A,iN a.1.1.pl.B,iN a.1.1.pl.C,iN a.1.1.pl.D,.sl true 6 a.1.1.kids.length ((eSol true).f a.1.1.kids),bl a.1.2.1.inn,iN a.1.2.1.pl.A,iN a.1.2.1.pl.B,iN a.1.2.1.pl.C,iN a.1.2.1.pl.D,.sl true 6 a.1.2.1.kids.length ((eSol true).f a.1.2.1.kids),bl a.1.2.2.1.inn,iN a.1.2.2.1.pl.A,iN a.1.2.2.1.pl.B,iN a.1.2.2.1.pl.C,iN a.1.2.2.1.pl.D,.sl true 6 a.1.2.2.1.kids.length ((eSol true).f a.1.2.2.1.kids),bl a.1.2.2.2.1.inn,iN a.1.2.2.2.1.pl.A,iN a.1.2.2.2.1.pl.B,iN a.1.2.2.2.1.pl.C,iN a.1.2.2.2.1.pl.D,.sl true 6 a.1.2.2.2.1.kids.length ((eSol true).f a.1.2.2.2.1.kids),bl a.1.2.2.2.2.1.inn,iN a.1.2.2.2.2.1.pl.A,iN a.1.2.2.2.2.1.pl.B,iN a.1.2.2.2.2.1.pl.C,iN a.1.2.2.2.2.1.pl.D,.sl true 6 a.1.2.2.2.2.1.kids.length ((eSol true).f a.1.2.2.2.2.1.kids),bl a.1.2.2.2.2.2.1.inn,iN a.1.2.2.2.2.2.1.pl.A,iN a.1.2.2.2.2.2.1.pl.B,iN a.1.2.2.2.2.2.1.pl.C,iN a.1.2.2.2.2.2.1.pl.D,.sl true 6 a.1.2.2.2.2.2.1.kids.length ((eSol true).f a.1.2.2.2.2.2.1.kids),bl a.1.2.2.2.2.2.2.1.inn,iN a.1.2.2.2.2.2.2.1.pl.A,iN a.1.2.2.2.2.2.2.1.pl.B,iN a.1.2.2.2.2.2.2.1.pl.C,iN a.1.2.2.2.2.2.2.1.pl.D,.sl true 6 a.1.2.2.2.2.2.2.1.kids.length ((eSol true).f a.1.2.2.2.2.2.2.1.kids),bl a.1.2.2.2.2.2.2.2.inn,iN a.1.2.2.2.2.2.2.2.pl.A,iN a.1.2.2.2.2.2.2.2.pl.B,iN a.1.2.2.2.2.2.2.2.pl.C,iN a.1.2.2.2.2.2.2.2.pl.D,.sl true 6 a.1.2.2.2.2.2.2.2.kids.length ((eSol true).f a.1.2.2.2.2.2.2.2.kids),bl a.2.1,bl a.2.2.1,bl a.2.2.2.1,bl a.2.2.2.2.1,bl a.2.2.2.2.2.1,bl a.2.2.2.2.2.2.1,bl a.2.2.2.2.2.2.2.1,bl a.2.2.2.2.2.2.2.2]
def Dlaws_big(a0:(List Int)):Option Bool :=
 some (decide ((a0.length:Int)>1048576))
theorem Tlaws_big{Y}(a0:(List Int))(r:Bool)(h:Dlaws_big a0=some r):BT Y (.call 6 [.sl false 1 a0.length ((eU8).f a0)] (lk []) (bl r) (lk [])):=by
 unfold Dlaws_big at h
 refine x_call (fn:=Tryz.f6) (c:=B6) (bs0:=[]) Tryz.func6 (by kernel_rfl) (by kernel_rfl) ?_
 obtain rfl:=sj h
 exact x_end 11 [] [] oN oN 
def Dp_l1New_0(_n:Nat)(rec0:(Int×Int)→Option ((List Int)×Int×Int))(t0:List Int)(t3 t4:Int)(t15:Bool):Option ((List Int)×Int×Int) :=
 frk t15 ((lget t0 t4).bind fun v0=>rec0 (bAnd .i64 (w64 ((w64 ((w64 (t3*137))+(w64 v0)))+11)) 1073741823,w64 (t4+1))) (some (t0,0,t3))
theorem Tp_l1New_0{Y}(n:Nat)(rec0:(Int×Int)→Option ((List Int)×Int×Int))(t0:List Int)(hrec0:∀(a:(Int×Int)) (r:((List Int)×Int×Int)),rec0 a=some r→WT Y 32 [.code (cp [1,1,0,1,0] B32),.blk 0,.code (cp [1,1,1] B32)] (FT Tryz.f32 [] (.nbx [.sl false 1 r.1.length ((eU8).f r.1),iN r.2.1,iN r.2.2]) []) ⟨[(0,.sl false 1 t0.length ((eU8).f t0)),(3,iN a.1),(4,iN a.2)],[]⟩)(t3 t4:Int)(t15:Bool)(r:((List Int)×Int×Int))(h:Dp_l1New_0 n rec0 t0 t3 t4 t15=some r):WT Y 32 [.code (cp [1,1,0,1,0,0,0,1] B32),.code (cp [1,1,0,1,0,0,1] B32),.lp (cp [1,1,0,1,0] B32),.blk 0,.code (cp [1,1,1] B32)] (FT Tryz.f32 [] (.nbx [.sl false 1 r.1.length ((eU8).f r.1),iN r.2.1,iN r.2.2]) []) ⟨[(0,.sl false 1 t0.length ((eU8).f t0)),(3,iN t3),(4,iN t4),(15,bl t15)],[]⟩:=by
 unfold Dp_l1New_0 at h
 refine x_frk 0 [] oN h (fun h=>?_) (fun h=>?_)
 ·obtain⟨v0,y0,h⟩:=bm h
  exact x_to 23 [(4,.val (.cptr (eU8.c v0++(eU8).f ((t0).drop (Int.toNat t4+1)))))] (oI (ix eU8 y0)) (hrec0 (bAnd .i64 (w64 ((w64 ((w64 (t3*137))+(w64 v0)))+11)) 1073741823,w64 (t4+1)) r h) 
 ·obtain rfl:=sj h
  exact x_end 9 [] [] oN oN 
def Dp_l1New_1(n:Nat)(t0:List Int)(rec0:(Int×Int)→Option ((List Int)×Int×Int))(a:(Int×Int)):Option ((List Int)×Int×Int) :=
 match a with
 | (t3,t4)=>frk (decide (t4<(t0.length:Int))) (Dp_l1New_0 n rec0 t0 t3 t4 (decide (t4<4000))) (some (t0,0,t3))
theorem Tp_l1New_1{Y}(n:Nat)(t0:List Int):∀(m:Nat) (a:(Int×Int)) (r:((List Int)×Int×Int)),loopN (Dp_l1New_1 n t0) m a=some r→WT Y 32 [.code (cp [1,1,0,1,0] B32),.blk 0,.code (cp [1,1,1] B32)] (FT Tryz.f32 [] (.nbx [.sl false 1 r.1.length ((eU8).f r.1),iN r.2.1,iN r.2.2]) []) ⟨[(0,.sl false 1 t0.length ((eU8).f t0)),(3,iN a.1),(4,iN a.2)],[]⟩:=by
 refine loopN_ind (fun rec0 hrec0 a r h=>?_)
 obtain⟨t3,t4⟩:=a
 unfold Dp_l1New_1 at h
 refine x_frk 9 [] oN h (fun h=>?_) (fun h=>?_)
 ·exact x_to 4 [] oN (Tp_l1New_0 n rec0 t0 hrec0 t3 t4 (decide (t4<4000)) r h) 
 ·obtain rfl:=sj h
  exact x_end 14 [] [] oN oN 
def Dp_l1New(n:Nat)(a0:(List Int)):Option ((List Int)×Int×Int) :=
 loopN (Dp_l1New_1 n a0) n (w64 (142142+(a0.length:Int)),0)
theorem Tp_l1New{Y}(n:Nat)(a0:(List Int))(r:((List Int)×Int×Int))(h:Dp_l1New n a0=some r):BT Y (.call 32 [.sl false 1 a0.length ((eU8).f a0)] (lk []) (.nbx [.sl false 1 r.1.length ((eU8).f r.1),iN r.2.1,iN r.2.2]) (lk [])):=by
 unfold Dp_l1New at h
 refine x_call (fn:=Tryz.f32) (c:=B32) (bs0:=[]) Tryz.func32 (by kernel_rfl) (by kernel_rfl) ?_
 exact x_to 17 [] oN (Tp_l1New_1 n a0 n (w64 (142142+(a0.length:Int)),0) r h) 
def Dp_l1Size(a0:(List Int))(a1:Int):Option Int :=
 frk (decide ((w64 (3+(w64 (Int.tdiv (a0.length:Int) 12))))>a1)) (some a1) (some (w64 (3+(w64 (Int.tdiv (a0.length:Int) 12)))))
theorem Tp_l1Size{Y}(a0:(List Int))(a1 r:Int)(h:Dp_l1Size a0 a1=some r):BT Y (.call 61 [.sl false 1 a0.length ((eU8).f a0),iN a1] (lk []) (iN r) (lk [])):=by
 unfold Dp_l1Size at h
 refine x_call (fn:=Tryz.f61) (c:=B61) (bs0:=[]) Tryz.func61 (by kernel_rfl) (by kernel_rfl) ?_
 refine x_frk 19 [] oN h (fun h=>?_) (fun h=>?_)
 ·obtain rfl:=sj h
  exact x_end 5 [] [] oN oN 
 ·obtain rfl:=sj h
  exact x_end 6 [] [] oN oN 
def Dp_l1Byte(a0:((List Int)×Int×Int)):Option (Int×((List Int)×Int×Int)) :=
 frk (decide (a0.2.1<(a0.1.length:Int))) ((lget a0.1 a0.2.1).bind fun v0=>some (bAnd .i64 (w64 ((bAnd .i64 (bXor .i64 (Int.fdiv (w64 ((w64 (a0.2.2*6364136223846793005))+1442695040888963407)) 8589934592) (Int.fdiv (w64 ((w64 (a0.2.2*6364136223846793005))+1442695040888963407)) 140737488355328)) 255)+(w64 v0))) 255,(a0.1,w64 (a0.2.1+1),w64 ((w64 (a0.2.2*6364136223846793005))+1442695040888963407)))) (some (bAnd .i64 (bXor .i64 (Int.fdiv (w64 ((w64 (a0.2.2*6364136223846793005))+1442695040888963407)) 8589934592) (Int.fdiv (w64 ((w64 (a0.2.2*6364136223846793005))+1442695040888963407)) 140737488355328)) 255,(a0.1,a0.2.1,w64 ((w64 (a0.2.2*6364136223846793005))+1442695040888963407))))
theorem Tp_l1Byte{Y}(a0:((List Int)×Int×Int))(r:(Int×((List Int)×Int×Int)))(h:Dp_l1Byte a0=some r):BT Y (.call 97 [.ptr 1000 0] (lk [(1000,⟨true,0,[.sl false 1 a0.1.length ((eU8).f a0.1),iN a0.2.1,iN a0.2.2]⟩)]) (iN r.1) (lk [(1000,⟨true,0,[.sl false 1 r.2.1.length ((eU8).f r.2.1),iN r.2.2.1,iN r.2.2.2]⟩)])):=by
 unfold Dp_l1Byte at h
 refine x_call (fn:=Tryz.f97) (c:=B97) (bs0:=[(1000,⟨true,0,[.bad,.bad,.bad]⟩)]) Tryz.func97 (by kernel_rfl) (by kernel_rfl) ?_
 refine x_frk 47 [] oN h (fun h=>?_) (fun h=>?_)
 ·obtain⟨v0,y0,h⟩:=bm h
  obtain rfl:=sj h
  exact x_end 34 [(9,.val (.cptr (eU8.c v0++(eU8).f ((a0.1).drop (Int.toNat a0.2.1+1)))))] [] (oI (ix eU8 y0)) oN 
 ·obtain rfl:=sj h
  exact x_end 6 [] [] oN oN 
def Dp_l1Below(a0:((List Int)×Int×Int))(a1:Int):Option (Int×((List Int)×Int×Int)) :=
 frk (decide (a1≤0)) (some (0,a0)) (frk (decide (a1≤256)) ((Dp_l1Byte a0).bind fun v0=>(rm .i64 v0.1 a1).bind fun v1=>some (v1,v0.2)) ((Dp_l1Byte a0).bind fun v2=>(Dp_l1Byte v2.2).bind fun v3=>(Dp_l1Byte v3.2).bind fun v4=>(rm .i64 (w64 ((w64 ((w64 (v2.1*65536))+(w64 (v3.1*256))))+v4.1)) a1).bind fun v5=>some (v5,v4.2)))
theorem Tp_l1Below{Y}(a0:((List Int)×Int×Int))(a1:Int)(r:(Int×((List Int)×Int×Int)))(h:Dp_l1Below a0 a1=some r):BT Y (.call 46 [.ptr 1000 0,iN a1] (lk [(1000,⟨true,0,[.sl false 1 a0.1.length ((eU8).f a0.1),iN a0.2.1,iN a0.2.2]⟩)]) (iN r.1) (lk [(1000,⟨true,0,[.sl false 1 r.2.1.length ((eU8).f r.2.1),iN r.2.2.1,iN r.2.2.2]⟩)])):=by
 unfold Dp_l1Below at h
 refine x_call (fn:=Tryz.f46) (c:=B46) (bs0:=[(1000,⟨true,0,[.bad,.bad,.bad]⟩)]) Tryz.func46 (by kernel_rfl) (by kernel_rfl) ?_
 refine x_frk 10 [] oN h (fun h=>?_) (fun h=>?_)
 ·obtain rfl:=sj h
  exact x_end 4 [] [] oN oN 
 ·refine x_frk 7 [] oN h (fun h=>?_) (fun h=>?_)
  ·obtain⟨v0,y0,h⟩:=bm h
   obtain⟨v1,y1,h⟩:=bm h
   obtain rfl:=sj h
   exact x_end 8 [(1,.call [] [] (iN v0.1) [(1000,⟨true,0,[.sl false 1 v0.2.1.length ((eU8).f v0.2.1),iN v0.2.2.1,iN v0.2.2.2]⟩)]),(1,.val (iN v1))] [] (oC (Tp_l1Byte (Y:=Y) a0 _ y0) (oI (rmOk y1))) oN 
  ·obtain⟨v2,y2,h⟩:=bm h
   obtain⟨v3,y3,h⟩:=bm h
   obtain⟨v4,y4,h⟩:=bm h
   obtain⟨v5,y5,h⟩:=bm h
   obtain rfl:=sj h
   exact x_end 32 [(1,.call [] [] (iN v2.1) [(1000,⟨true,0,[.sl false 1 v2.2.1.length ((eU8).f v2.2.1),iN v2.2.2.1,iN v2.2.2.2]⟩)]),(2,.call [] [] (iN v3.1) [(1000,⟨true,0,[.sl false 1 v3.2.1.length ((eU8).f v3.2.1),iN v3.2.2.1,iN v3.2.2.2]⟩)]),(2,.call [] [] (iN v4.1) [(1000,⟨true,0,[.sl false 1 v4.2.1.length ((eU8).f v4.2.1),iN v4.2.2.1,iN v4.2.2.2]⟩)]),(9,.val (iN v5))] [] (oC (Tp_l1Byte (Y:=Y) a0 _ y2) (oC (Tp_l1Byte (Y:=Y) v2.2 _ y3) (oC (Tp_l1Byte (Y:=Y) v3.2 _ y4) (oI (rmOk y5))))) oN 
def Dp_l8Copy_0(_n:Nat)(self:Sol→Option Sol)(_za:Bool)(_zb _zc _zd _ze:Int)(zf:List Sol)(_zg:Bool)(_zh _zi _zj _zk:Int)(zl:Bool)(zm zn zo zp:Int)(rec0:(Int×List Sol)→Option Sol)(a:(Int×List Sol)):Option Sol :=
 match a with
 | (t4,l635)=>frk (decide (t4<(zf.length:Int))) ((lget zf t4).bind fun v0=>(self v0).bind fun v1=>chk (apB 64 (l635.length+1)) (rec0 (w64 (t4+1),(l635++[v1])))) (some (Sol.mk zl (Pl.mk zm zn zo zp) l635))
theorem Tp_l8Copy_0{Y}(n:Nat)(self:Sol→Option Sol)(hself:∀(a:Sol) (r:Sol),self a=some r→BT Y (.call 123 [eF a] (lk []) (eS r) (lk [])))(za:Bool)(zb zc zd ze:Int)(zf:List Sol)(zg:Bool)(zh zi zj zk:Int)(zl:Bool)(zm zn zo zp:Int):∀(m:Nat) (a:(Int×List Sol)) (r:Sol),loopN (Dp_l8Copy_0 n self za zb zc zd ze zf zg zh zi zj zk zl zm zn zo zp) m a=some r→WT Y 123 [.code (cp [1,1,0,1,0] B123),.blk 0,.code (cp [1,1,1] B123)] (FT Tryz.f123 [] (eS r) []) ⟨[(1,.ptr 1 0),(2,.ptr 2 0),(3,.ptr 3 0),(4,iN a.1)],[(1,⟨true,0,[bl za,iN zb,iN zc,iN zd,iN ze,.sl false 6 zf.length ((eSol false).f zf)]⟩),(2,⟨true,0,[bl zg,iN zh,iN zi,iN zj,iN zk,.nil]⟩),(3,⟨true,0,[bl zl,iN zm,iN zn,iN zo,iN zp,.msl 635 a.2.length]⟩),(635,⟨true,6,(eSol true).f a.2⟩)]⟩:=by
 refine loopN_ind (fun _rec0 hrec0 a r h=>?_)
 obtain⟨t4,l635⟩:=a
 unfold Dp_l8Copy_0 at h
 refine x_frk 10 [] oN h (fun h=>?_) (fun h=>?_)
 ·obtain⟨v0,y0,h⟩:=bm h
  obtain⟨v1,y1,h⟩:=bm h
  obtain⟨c2,h⟩:=chk_some h
  exact x_to 26 [(5,.val (.cptr ((eSol false).c v0++(eSol false).f ((zf).drop (Int.toNat t4+1))))),(1,.call [] [] (eS v1) []),(1,.fixb 25 ⟨true,6,(eSol true).f [v1]⟩),(0,.app true (List.length (l635++[v1])) ((eSol true).f (l635++[v1]))),(5,.ren 26 635)] (oC (ix (eSol false) y0) (oC (hself v0 _ y1) (oC (boxSol true true [v1]) (oC (len_row' (L:=l635) (eSol true)) (oC (app_one (L:=l635) (M:=[v1]) (eSol true) c2) (oC (app_new (L:=l635) (M:=[v1]) (eSol true)) (oC (app_m (L:=l635) (M:=[v1]) (eSol true) rfl) (oC (len_row' (L:=[v1]) (eSol true)) (oI (show 26<1000∧635<1000 by decide)))))))))) (hrec0 (w64 (t4+1),(l635++[v1])) r h) 
 ·obtain rfl:=sj h
  exact x_end 6 [] [] oN (oI (len_row (L:=l635) (eSol true))) 
def Dp_l8Copy_b(n:Nat)(self:Sol→Option Sol)(a:Sol):Option Sol :=
 match a with
 | a0=>loopN (Dp_l8Copy_0 n self a0.inn a0.pl.A a0.pl.B a0.pl.C a0.pl.D a0.kids false 0 0 0 0 a0.inn a0.pl.A a0.pl.B a0.pl.C a0.pl.D) n (0,[])
def Dp_l8Copy(n:Nat)(a0:Sol):Option Sol:=loopN (Dp_l8Copy_b n) n a0
theorem Tp_l8Copy_b{Y}(n:Nat):∀(m:Nat) (a:Sol) (r:Sol),loopN (Dp_l8Copy_b n) m a=some r→∀(_:Unit),BT Y (.call 123 [eF a] (lk []) (eS r) (lk [])):=by
 refine loopN_ind (fun self hs a r h=>?_)
 have hself:∀(a:Sol) (r:Sol),self a=some r→BT Y (.call 123 [eF a] (lk []) (eS r) (lk [])):=fun a r h=>hs a r h ()
 intro _
 obtain⟨a0,rfl⟩:∃x,x=a:=⟨a,rfl⟩
 unfold Dp_l8Copy_b at h
 refine x_call (fn:=Tryz.f123) (c:=B123) (bs0:=[]) Tryz.func123 (by kernel_rfl) (by kernel_rfl) ?_
 exact x_to 22 [(9,.virtc 3 ⟨true,0,[bl a0.inn,iN a0.pl.A,iN a0.pl.B,iN a0.pl.C,iN a0.pl.D,.nil]⟩ 5 635 6)] (oC (rflB ⟨true,0,[bl a0.inn,iN a0.pl.A,iN a0.pl.B,iN a0.pl.C,iN a0.pl.D,.nil]⟩) (oI (⟨rfl,rfl,by decide,by decide,by decide⟩:(⟨true,0,[bl a0.inn,iN a0.pl.A,iN a0.pl.B,iN a0.pl.C,iN a0.pl.D,.nil]⟩:Box).cs[5]?=some .nil∧(⟨true,0,[bl a0.inn,iN a0.pl.A,iN a0.pl.B,iN a0.pl.C,iN a0.pl.D,.nil]⟩:Box).sz=0∧3≠635∧635<1000∧6≠0))) (Tp_l8Copy_0 n self hself a0.inn a0.pl.A a0.pl.B a0.pl.C a0.pl.D a0.kids false 0 0 0 0 a0.inn a0.pl.A a0.pl.B a0.pl.C a0.pl.D n (0,[]) r h) 
theorem Tp_l8Copy{Y}(n:Nat)(a0:Sol)(r:Sol)(h:Dp_l8Copy n a0=some r):BT Y (.call 123 [eF a0] (lk []) (eS r) (lk [])):=Tp_l8Copy_b n n a0 r h ()
def Dp_l20Copy(n:Nat)(a0:Dk8):Option Dk8 :=
 (Dp_l8Copy n a0.1.1).bind fun v0=>(Dp_l8Copy n a0.1.2.1).bind fun v1=>(Dp_l8Copy n a0.1.2.2.1).bind fun v2=>(Dp_l8Copy n a0.1.2.2.2.1).bind fun v3=>(Dp_l8Copy n a0.1.2.2.2.2.1).bind fun v4=>(Dp_l8Copy n a0.1.2.2.2.2.2.1).bind fun v5=>(Dp_l8Copy n a0.1.2.2.2.2.2.2.1).bind fun v6=>(Dp_l8Copy n a0.1.2.2.2.2.2.2.2).bind fun v7=>some ((v0,v1,v2,v3,v4,v5,v6,v7),a0.2)
theorem Tp_l20Copy{Y}(n:Nat)(a0:Dk8)(r:Dk8)(h:Dp_l20Copy n a0=some r):BT Y (.call 67 [.agg (cT52 a0)] (lk []) (.agg (cT52o r)) (lk [])):=by
 unfold Dp_l20Copy at h
 refine x_call (fn:=Tryz.f67) (c:=B67) (bs0:=[]) Tryz.func67 (by kernel_rfl) (by kernel_rfl) ?_
 obtain⟨v0,y0,h⟩:=bm h
 obtain⟨v1,y1,h⟩:=bm h
 obtain⟨v2,y2,h⟩:=bm h
 obtain⟨v3,y3,h⟩:=bm h
 obtain⟨v4,y4,h⟩:=bm h
 obtain⟨v5,y5,h⟩:=bm h
 obtain⟨v6,y6,h⟩:=bm h
 obtain⟨v7,y7,h⟩:=bm h
 obtain rfl:=sj h
 exact x_end 263 [(13,.call [] [] (eS v0) []),(13,.call [] [] (eS v1) []),(13,.call [] [] (eS v2) []),(13,.call [] [] (eS v3) []),(13,.call [] [] (eS v4) []),(13,.call [] [] (eS v5) []),(13,.call [] [] (eS v6) []),(13,.call [] [] (eS v7) [])] [] (oC (Tp_l8Copy (Y:=Y) n a0.1.1 _ y0) (oC (Tp_l8Copy (Y:=Y) n a0.1.2.1 _ y1) (oC (Tp_l8Copy (Y:=Y) n a0.1.2.2.1 _ y2) (oC (Tp_l8Copy (Y:=Y) n a0.1.2.2.2.1 _ y3) (oC (Tp_l8Copy (Y:=Y) n a0.1.2.2.2.2.1 _ y4) (oC (Tp_l8Copy (Y:=Y) n a0.1.2.2.2.2.2.1 _ y5) (oC (Tp_l8Copy (Y:=Y) n a0.1.2.2.2.2.2.2.1 _ y6) (oI (Tp_l8Copy (Y:=Y) n a0.1.2.2.2.2.2.2.2 _ y7))))))))) oN 
def Dp_l8Leaf(a0:Sol):Option Bool :=
 some ((a0.kids.length:Int)==0)
theorem Tp_l8Leaf{Y}(a0:Sol)(r:Bool)(h:Dp_l8Leaf a0=some r):BT Y (.call 88 [eF a0] (lk []) (bl r) (lk [])):=by
 unfold Dp_l8Leaf at h
 refine x_call (fn:=Tryz.f88) (c:=B88) (bs0:=[]) Tryz.func88 (by kernel_rfl) (by kernel_rfl) ?_
 obtain rfl:=sj h
 exact x_end 13 [] [] oN oN 
def Dp_l8Count_1(_n:Nat)(self:(Sol×Int)→Option Int)(t1:Int)(_zg:Bool)(_zh _zi _zj _zk:Int)(zq:List Sol)(rec0:(Int×Int)→Option Int)(a:(Int×Int)):Option Int :=
 match a with
 | (t5,t6)=>frk (decide (t6<(zq.length:Int))) ((lget zq t6).bind fun v1=>(self (v1,w64 (t1-t5))).bind fun v2=>rec0 (w64 (t5+v2),w64 (t6+1))) (some t5)
theorem Tp_l8Count_1{Y}(n:Nat)(self:(Sol×Int)→Option Int)(hself:∀(a:(Sol×Int)) (r:Int),self a=some r→BT Y (.call 40 [eF a.1,iN a.2] (lk []) (iN r) (lk [])))(t1:Int)(zg:Bool)(zh zi zj zk:Int)(zq:List Sol):∀(m:Nat) (a:(Int×Int)) (r:Int),loopN (Dp_l8Count_1 n self t1 zg zh zi zj zk zq) m a=some r→WT Y 40 [.code (cp [1,1,1,0,1,0] B40),.blk 0,.code (cp [1,1,1,1] B40)] (FT Tryz.f40 [] (iN r) []) ⟨[(1,iN t1),(2,.ptr 2 0),(5,iN a.1),(6,iN a.2)],[(2,⟨true,0,[bl zg,iN zh,iN zi,iN zj,iN zk,.sl false 6 zq.length ((eSol false).f zq)]⟩)]⟩:=by
 refine loopN_ind (fun _rec0 hrec0 a r h=>?_)
 obtain⟨t5,t6⟩:=a
 unfold Dp_l8Count_1 at h
 refine x_frk 10 [] oN h (fun h=>?_) (fun h=>?_)
 ·obtain⟨v1,y1,h⟩:=bm h
  obtain⟨v2,y2,h⟩:=bm h
  exact x_to 24 [(4,.val (.cptr ((eSol false).c v1++(eSol false).f ((zq).drop (Int.toNat t6+1))))),(4,.call [] [] (iN v2) [])] (oC (ix (eSol false) y1) (oI (hself (v1,w64 (t1-t5)) _ y2))) (hrec0 (w64 (t5+v2),w64 (t6+1)) r h) 
 ·obtain rfl:=sj h
  exact x_end 6 [] [] oN oN 
def Dp_l8Count_0(n:Nat)(self:(Sol×Int)→Option Int)(t1:Int)(t12 zg:Bool)(zh zi zj zk:Int)(zq:List Sol):Option Int :=
 frk t12 (some 0) (loopN (Dp_l8Count_1 n self t1 zg zh zi zj zk zq) n (1,0))
theorem Tp_l8Count_0{Y}(n:Nat)(self:(Sol×Int)→Option Int)(hself:∀(a:(Sol×Int)) (r:Int),self a=some r→BT Y (.call 40 [eF a.1,iN a.2] (lk []) (iN r) (lk [])))(t1:Int)(t12 zg:Bool)(zh zi zj zk:Int)(zq:List Sol)(r:Int)(h:Dp_l8Count_0 n self t1 t12 zg zh zi zj zk zq=some r):WT Y 40 [.code (cp [1,0,1] B40),.code (cp [1,1] B40)] (FT Tryz.f40 [] (iN r) []) ⟨[(1,iN t1),(2,.ptr 2 0),(12,bl t12)],[(2,⟨true,0,[bl zg,iN zh,iN zi,iN zj,iN zk,.sl false 6 zq.length ((eSol false).f zq)]⟩)]⟩:=by
 unfold Dp_l8Count_0 at h
 refine x_frk 0 [] oN h (fun h=>?_) (fun h=>?_)
 ·obtain rfl:=sj h
  exact x_end 4 [] [] oN oN 
 ·exact x_to 11 [] oN (Tp_l8Count_1 n self hself t1 zg zh zi zj zk zq n (1,0) r h) 
def Dp_l8Count_b(n:Nat)(self:(Sol×Int)→Option Int)(a:(Sol×Int)):Option Int :=
 match a with
 | (a0,a1)=>(Dp_l8Leaf a0).bind fun v0=>frk v0 (some 0) (Dp_l8Count_0 n self a1 (decide (a1≤0)) a0.inn a0.pl.A a0.pl.B a0.pl.C a0.pl.D a0.kids)
def Dp_l8Count(n:Nat)(a0:Sol)(a1:Int):Option Int:=loopN (Dp_l8Count_b n) n (a0,a1)
theorem Tp_l8Count_b{Y}(n:Nat):∀(m:Nat) (a:(Sol×Int)) (r:Int),loopN (Dp_l8Count_b n) m a=some r→∀(_:Unit),BT Y (.call 40 [eF a.1,iN a.2] (lk []) (iN r) (lk [])):=by
 refine loopN_ind (fun self hs a r h=>?_)
 have hself:∀(a:(Sol×Int)) (r:Int),self a=some r→BT Y (.call 40 [eF a.1,iN a.2] (lk []) (iN r) (lk [])):=fun a r h=>hs a r h ()
 intro _
 obtain⟨a0,a1⟩:=a
 unfold Dp_l8Count_b at h
 refine x_call (fn:=Tryz.f40) (c:=B40) (bs0:=[]) Tryz.func40 (by kernel_rfl) (by kernel_rfl) ?_
 obtain⟨v0,y0,h⟩:=bm h
 refine x_frk 11 [(3,.call [] [] (bl v0) [])] (oI (Tp_l8Leaf (Y:=Y) a0 _ y0)) h (fun h=>?_) (fun h=>?_)
 ·obtain rfl:=sj h
  exact x_end 9 [] [] oN oN 
 ·exact x_to 4 [] oN (Tp_l8Count_0 n self hself a1 (decide (a1≤0)) a0.inn a0.pl.A a0.pl.B a0.pl.C a0.pl.D a0.kids r h) 
theorem Tp_l8Count{Y}(n:Nat)(a0:Sol)(a1 r:Int)(h:Dp_l8Count n a0 a1=some r):BT Y (.call 40 [eF a0,iN a1] (lk []) (iN r) (lk [])):=Tp_l8Count_b n n (a0,a1) r h ()
def Dp_l1In(a0 a1 a2:Int):Option Bool :=
 frk (decide (a0≥a1)) (some (decide (a0≤a2))) (some false)
theorem Tp_l1In{Y}(a0 a1 a2:Int)(r:Bool)(h:Dp_l1In a0 a1 a2=some r):BT Y (.call 42 [iN a0,iN a1,iN a2] (lk []) (bl r) (lk [])):=by
 unfold Dp_l1In at h
 refine x_call (fn:=Tryz.f42) (c:=B42) (bs0:=[]) Tryz.func42 (by kernel_rfl) (by kernel_rfl) ?_
 refine x_frk 10 [] oN h (fun h=>?_) (fun h=>?_)
 ·obtain rfl:=sj h
  exact x_end 6 [] [] oN oN 
 ·obtain rfl:=sj h
  exact x_end 6 [] [] oN oN 
def Dp_l3In(a0:Pl):Option Bool :=
 (Dp_l1In a0.A (-500) 500).bind fun v0=>frk v0 ((Dp_l1In a0.B (-500) 500).bind fun v1=>frk v1 ((Dp_l1In a0.C (-500) 500).bind fun v2=>frk v2 ((Dp_l1In a0.D (-500) 500).bind fun v3=>some v3) (some false)) (some false)) (some false)
theorem Tp_l3In{Y}(a0:Pl)(r:Bool)(h:Dp_l3In a0=some r):BT Y (.call 133 [.agg [iN a0.A,iN a0.B,iN a0.C,iN a0.D]] (lk []) (bl r) (lk [])):=by
 unfold Dp_l3In at h
 refine x_call (fn:=Tryz.f133) (c:=B133) (bs0:=[]) Tryz.func133 (by kernel_rfl) (by kernel_rfl) ?_
 obtain⟨v0,y0,h⟩:=bm h
 refine x_frk 18 [(8,.call [] [] (bl v0) [])] (oI (Tp_l1In (Y:=Y) a0.A (-500) 500 _ y0)) h (fun h=>?_) (fun h=>?_)
 ·obtain⟨v1,y1,h⟩:=bm h
  refine x_frk 8 [(5,.call [] [] (bl v1) [])] (oI (Tp_l1In (Y:=Y) a0.B (-500) 500 _ y1)) h (fun h=>?_) (fun h=>?_)
  ·obtain⟨v2,y2,h⟩:=bm h
   refine x_frk 8 [(5,.call [] [] (bl v2) [])] (oI (Tp_l1In (Y:=Y) a0.C (-500) 500 _ y2)) h (fun h=>?_) (fun h=>?_)
   ·obtain⟨v3,y3,h⟩:=bm h
    obtain rfl:=sj h
    exact x_end 9 [(5,.call [] [] (bl v3) [])] [] (oI (Tp_l1In (Y:=Y) a0.D (-500) 500 _ y3)) oN 
   ·obtain rfl:=sj h
    exact x_end 9 [] [] oN oN 
  ·obtain rfl:=sj h
   exact x_end 17 [] [] oN oN 
 ·obtain rfl:=sj h
  exact x_end 25 [] [] oN oN 
def Dp_l3Abs(a0:Int):Option Int :=
 frk (decide (a0<0)) (some (w64 (0-a0))) (some a0)
theorem Tp_l3Abs{Y}(a0 r:Int)(h:Dp_l3Abs a0=some r):BT Y (.call 157 [iN a0] (lk []) (iN r) (lk [])):=by
 unfold Dp_l3Abs at h
 refine x_call (fn:=Tryz.f157) (c:=B157) (bs0:=[]) Tryz.func157 (by kernel_rfl) (by kernel_rfl) ?_
 refine x_frk 10 [] oN h (fun h=>?_) (fun h=>?_)
 ·obtain rfl:=sj h
  exact x_end 6 [] [] oN oN 
 ·obtain rfl:=sj h
  exact x_end 6 [] [] oN oN 
def Dp_l3Gcd_0(_n:Nat)(rec0:(Int×Int)→Option Int)(a:(Int×Int)):Option Int :=
 match a with
 | (t0,t1)=>frk (decide (t1>0)) ((rm .i64 t0 t1).bind fun v2=>rec0 (t1,v2)) (some t0)
theorem Tp_l3Gcd_0{Y}(n:Nat):∀(m:Nat) (a:(Int×Int)) (r:Int),loopN (Dp_l3Gcd_0 n) m a=some r→WT Y 132 [.code (cp [1,1,1,0,0] B132),.blk 0,.code (cp [1,1,1,1] B132)] (FT Tryz.f132 [] (iN r) []) ⟨[(0,iN a.1),(1,iN a.2)],[]⟩:=by
 refine loopN_ind (fun _rec0 hrec0 a r h=>?_)
 obtain⟨_t0,t1⟩:=a
 unfold Dp_l3Gcd_0 at h
 refine x_frk 7 [] oN h (fun h=>?_) (fun h=>?_)
 ·obtain⟨v2,y2,h⟩:=bm h
  exact x_to 20 [(2,.val (iN v2))] (oI (rmOk y2)) (hrec0 (t1,v2) r h) 
 ·obtain rfl:=sj h
  exact x_end 6 [] [] oN oN 
def Dp_l3Gcd(n:Nat)(a0 a1:Int):Option Int :=
 (Dp_l3Abs a0).bind fun v0=>(Dp_l3Abs a1).bind fun v1=>loopN (Dp_l3Gcd_0 n) n (v0,v1)
theorem Tp_l3Gcd{Y}(n:Nat)(a0 a1 r:Int)(h:Dp_l3Gcd n a0 a1=some r):BT Y (.call 132 [iN a0,iN a1] (lk []) (iN r) (lk [])):=by
 unfold Dp_l3Gcd at h
 refine x_call (fn:=Tryz.f132) (c:=B132) (bs0:=[]) Tryz.func132 (by kernel_rfl) (by kernel_rfl) ?_
 obtain⟨v0,y0,h⟩:=bm h
 obtain⟨v1,y1,h⟩:=bm h
 exact x_to 18 [(2,.call [] [] (iN v0) []),(2,.call [] [] (iN v1) [])] (oC (Tp_l3Abs (Y:=Y) a0 _ y0) (oI (Tp_l3Abs (Y:=Y) a1 _ y1))) (Tp_l3Gcd_0 n n (v0,v1) r h) 
def Dp_PlaneOk(n:Nat)(a0:Pl):Option Bool :=
 (Dp_l3In a0).bind fun v0=>frk v0 (frk (a0.A != 0) ((Dp_l3Gcd n a0.A a0.B).bind fun v1=>(Dp_l3Gcd n a0.C a0.D).bind fun v2=>(Dp_l3Gcd n v1 v2).bind fun v3=>some (v3==1)) (frk (a0.B != 0) ((Dp_l3Gcd n a0.A a0.B).bind fun v4=>(Dp_l3Gcd n a0.C a0.D).bind fun v5=>(Dp_l3Gcd n v4 v5).bind fun v6=>some (v6==1)) (frk (a0.C != 0) ((Dp_l3Gcd n a0.A a0.B).bind fun v7=>(Dp_l3Gcd n a0.C a0.D).bind fun v8=>(Dp_l3Gcd n v7 v8).bind fun v9=>some (v9==1)) (some false)))) (some false)
theorem Tp_PlaneOk{Y}(n:Nat)(a0:Pl)(r:Bool)(h:Dp_PlaneOk n a0=some r):BT Y (.call 89 [.agg [iN a0.A,iN a0.B,iN a0.C,iN a0.D]] (lk []) (bl r) (lk [])):=by
 unfold Dp_PlaneOk at h
 refine x_call (fn:=Tryz.f89) (c:=B89) (bs0:=[]) Tryz.func89 (by kernel_rfl) (by kernel_rfl) ?_
 obtain⟨v0,y0,h⟩:=bm h
 refine x_frk 10 [(3,.call [] [] (bl v0) [])] (oI (Tp_l3In (Y:=Y) a0 _ y0)) h (fun h=>?_) (fun h=>?_)
 ·refine x_frk 4 [] oN h (fun h=>?_) (fun h=>?_)
  ·obtain⟨v1,y1,h⟩:=bm h
   obtain⟨v2,y2,h⟩:=bm h
   obtain⟨v3,y3,h⟩:=bm h
   obtain rfl:=sj h
   exact x_end 26 [(15,.call [] [] (iN v1) []),(4,.call [] [] (iN v2) []),(0,.call [] [] (iN v3) [])] [] (oC (Tp_l3Gcd (Y:=Y) n a0.A a0.B _ y1) (oC (Tp_l3Gcd (Y:=Y) n a0.C a0.D _ y2) (oI (Tp_l3Gcd (Y:=Y) n v1 v2 _ y3)))) oN 
  ·refine x_frk 5 [] oN h (fun h=>?_) (fun h=>?_)
   ·obtain⟨v4,y4,h⟩:=bm h
    obtain⟨v5,y5,h⟩:=bm h
    obtain⟨v6,y6,h⟩:=bm h
    obtain rfl:=sj h
    exact x_end 21 [(10,.call [] [] (iN v4) []),(4,.call [] [] (iN v5) []),(0,.call [] [] (iN v6) [])] [] (oC (Tp_l3Gcd (Y:=Y) n a0.A a0.B _ y4) (oC (Tp_l3Gcd (Y:=Y) n a0.C a0.D _ y5) (oI (Tp_l3Gcd (Y:=Y) n v4 v5 _ y6)))) oN 
   ·refine x_frk 6 [] oN h (fun h=>?_) (fun h=>?_)
    ·obtain⟨v7,y7,h⟩:=bm h
     obtain⟨v8,y8,h⟩:=bm h
     obtain⟨v9,y9,h⟩:=bm h
     obtain rfl:=sj h
     exact x_end 15 [(4,.call [] [] (iN v7) []),(4,.call [] [] (iN v8) []),(0,.call [] [] (iN v9) [])] [] (oC (Tp_l3Gcd (Y:=Y) n a0.A a0.B _ y7) (oC (Tp_l3Gcd (Y:=Y) n a0.C a0.D _ y8) (oI (Tp_l3Gcd (Y:=Y) n v7 v8 _ y9)))) oN 
    ·obtain rfl:=sj h
     exact x_end 15 [] [] oN oN 
 ·obtain rfl:=sj h
  exact x_end 30 [] [] oN oN 
def Dp_l4Cross(a0:Pl)(a1:Pl):Option (Int×Int×Int) :=
 some (w64 ((w64 (a0.B*a1.C))-(w64 (a0.C*a1.B))),w64 ((w64 (a0.C*a1.A))-(w64 (a0.A*a1.C))),w64 ((w64 (a0.A*a1.B))-(w64 (a0.B*a1.A))))
theorem Tp_l4Cross{Y}(a0:Pl)(a1:Pl)(r:(Int×Int×Int))(h:Dp_l4Cross a0 a1=some r):BT Y (.call 159 [.agg [iN a0.A,iN a0.B,iN a0.C,iN a0.D],.agg [iN a1.A,iN a1.B,iN a1.C,iN a1.D]] (lk []) (.agg [iN r.1,iN r.2.1,iN r.2.2]) (lk [])):=by
 unfold Dp_l4Cross at h
 refine x_call (fn:=Tryz.f159) (c:=B159) (bs0:=[]) Tryz.func159 (by kernel_rfl) (by kernel_rfl) ?_
 obtain rfl:=sj h
 exact x_end 44 [] [] oN oN 
def Dp_l3Sign(a0:Int):Option Int :=
 frk (decide (a0>0)) (some 1) (frk (decide (a0<0)) (some (-1)) (some 0))
theorem Tp_l3Sign{Y}(a0 r:Int)(h:Dp_l3Sign a0=some r):BT Y (.call 156 [iN a0] (lk []) (iN r) (lk [])):=by
 unfold Dp_l3Sign at h
 refine x_call (fn:=Tryz.f156) (c:=B156) (bs0:=[]) Tryz.func156 (by kernel_rfl) (by kernel_rfl) ?_
 refine x_frk 12 [] oN h (fun h=>?_) (fun h=>?_)
 ·obtain rfl:=sj h
  exact x_end 4 [] [] oN oN 
 ·refine x_frk 6 [] oN h (fun h=>?_) (fun h=>?_)
  ·obtain rfl:=sj h
   exact x_end 4 [] [] oN oN 
  ·obtain rfl:=sj h
   exact x_end 6 [] [] oN oN 
def Dp_l4Parallel(a0:Pl)(a1:Pl):Option Int :=
 (Dp_l4Cross a0 a1).bind fun v0=>frk (!(v0.1==0&&(v0.2.1==0&&(v0.2.2==0&&true)))) (some 0) ((Dp_l3Sign (w64 ((w64 ((w64 (a0.A*a1.A))+(w64 (a0.B*a1.B))))+(w64 (a0.C*a1.C))))).bind fun v1=>some v1)
theorem Tp_l4Parallel{Y}(a0:Pl)(a1:Pl)(r:Int)(h:Dp_l4Parallel a0 a1=some r):BT Y (.call 158 [.agg [iN a0.A,iN a0.B,iN a0.C,iN a0.D],.agg [iN a1.A,iN a1.B,iN a1.C,iN a1.D]] (lk []) (iN r) (lk [])):=by
 unfold Dp_l4Parallel at h
 refine x_call (fn:=Tryz.f158) (c:=B158) (bs0:=[]) Tryz.func158 (by kernel_rfl) (by kernel_rfl) ?_
 obtain⟨v0,y0,h⟩:=bm h
 refine x_frk 15 [(5,.call [] [] (.agg [iN v0.1,iN v0.2.1,iN v0.2.2]) [])] (oI (Tp_l4Cross (Y:=Y) a0 a1 _ y0)) h (fun h=>?_) (fun h=>?_)
 ·obtain rfl:=sj h
  exact x_end 4 [] [] oN oN 
 ·obtain⟨v1,y1,h⟩:=bm h
  obtain rfl:=sj h
  exact x_end 23 [(17,.call [] [] (iN v1) [])] [] (oI (Tp_l3Sign (Y:=Y) (w64 ((w64 ((w64 (a0.A*a1.A))+(w64 (a0.B*a1.B))))+(w64 (a0.C*a1.C)))) _ y1)) oN 
def Dp_l6Clash2(a0:Pl)(a1:Pl):Option Bool :=
 (Dp_l4Parallel a0 a1).bind fun v0=>frk (decide (v0≥0)) (some false) ((Dp_l3Abs a1.A).bind fun v1=>(Dp_l3Abs a1.B).bind fun v2=>(Dp_l3Abs a1.C).bind fun v3=>(Dp_l3Abs a0.A).bind fun v4=>(Dp_l3Abs a0.B).bind fun v5=>(Dp_l3Abs a0.C).bind fun v6=>some (decide ((w64 ((w64 ((w64 ((w64 (v1+v2))+v3))*a0.D))+(w64 ((w64 ((w64 (v4+v5))+v6))*a1.D))))≤0)))
theorem Tp_l6Clash2{Y}(a0:Pl)(a1:Pl)(r:Bool)(h:Dp_l6Clash2 a0 a1=some r):BT Y (.call 134 [.agg [iN a0.A,iN a0.B,iN a0.C,iN a0.D],.agg [iN a1.A,iN a1.B,iN a1.C,iN a1.D]] (lk []) (bl r) (lk [])):=by
 unfold Dp_l6Clash2 at h
 refine x_call (fn:=Tryz.f134) (c:=B134) (bs0:=[]) Tryz.func134 (by kernel_rfl) (by kernel_rfl) ?_
 obtain⟨v0,y0,h⟩:=bm h
 refine x_frk 14 [(5,.call [] [] (iN v0) [])] (oI (Tp_l4Parallel (Y:=Y) a0 a1 _ y0)) h (fun h=>?_) (fun h=>?_)
 ·obtain rfl:=sj h
  exact x_end 4 [] [] oN oN 
 ·obtain⟨v1,y1,h⟩:=bm h
  obtain⟨v2,y2,h⟩:=bm h
  obtain⟨v3,y3,h⟩:=bm h
  obtain⟨v4,y4,h⟩:=bm h
  obtain⟨v5,y5,h⟩:=bm h
  obtain⟨v6,y6,h⟩:=bm h
  obtain rfl:=sj h
  exact x_end 45 [(2,.call [] [] (iN v1) []),(2,.call [] [] (iN v2) []),(3,.call [] [] (iN v3) []),(4,.call [] [] (iN v4) []),(2,.call [] [] (iN v5) []),(3,.call [] [] (iN v6) [])] [] (oC (Tp_l3Abs (Y:=Y) a1.A _ y1) (oC (Tp_l3Abs (Y:=Y) a1.B _ y2) (oC (Tp_l3Abs (Y:=Y) a1.C _ y3) (oC (Tp_l3Abs (Y:=Y) a0.A _ y4) (oC (Tp_l3Abs (Y:=Y) a0.B _ y5) (oI (Tp_l3Abs (Y:=Y) a0.C _ y6))))))) oN 
def Dp_l4Det3(a0:Pl)(a1:Pl)(a2:Pl):Option Int :=
 (Dp_l4Cross a1 a2).bind fun v0=>some (w64 ((w64 ((w64 (a0.A*v0.1))+(w64 (a0.B*v0.2.1))))+(w64 (a0.C*v0.2.2))))
theorem Tp_l4Det3{Y}(a0:Pl)(a1:Pl)(a2:Pl)(r:Int)(h:Dp_l4Det3 a0 a1 a2=some r):BT Y (.call 140 [.agg [iN a0.A,iN a0.B,iN a0.C,iN a0.D],.agg [iN a1.A,iN a1.B,iN a1.C,iN a1.D],.agg [iN a2.A,iN a2.B,iN a2.C,iN a2.D]] (lk []) (iN r) (lk [])):=by
 unfold Dp_l4Det3 at h
 refine x_call (fn:=Tryz.f140) (c:=B140) (bs0:=[]) Tryz.func140 (by kernel_rfl) (by kernel_rfl) ?_
 obtain⟨v0,y0,h⟩:=bm h
 obtain rfl:=sj h
 exact x_end 36 [(6,.call [] [] (.agg [iN v0.1,iN v0.2.1,iN v0.2.2]) [])] [] (oI (Tp_l4Cross (Y:=Y) a1 a2 _ y0)) oN 
def Dp_l6Sum_1(_n:Nat)(rec0:(Bool×Bool×Int×Int)→Option Bool)(t0:List Int)(t1:List Int)(t5 t6:Bool)(t7 t8:Int):Option Bool :=
 (lget t0 t8).bind fun v2=>(Dp_l3Abs v2).bind fun v3=>(lget t1 t8).bind fun v4=>rec0 (t5,t6,w64 (t7+(w64 (v3*v4))),w64 (t8+1))
theorem Tp_l6Sum_1{Y}(n:Nat)(rec0:(Bool×Bool×Int×Int)→Option Bool)(t0:List Int)(t1:List Int)(hrec0:∀(a:(Bool×Bool×Int×Int)) (r:Bool),rec0 a=some r→WT Y 160 [.code (cp [1,1,1,1,0,1,0] B160),.blk 0,.code (cp [1,1,1,1,1] B160)] (FT Tryz.f160 [] (bl r) []) ⟨[(0,.sl false 1 t0.length ((eInt).f t0)),(1,.sl false 1 t1.length ((eInt).f t1)),(5,bl a.1),(6,bl a.2.1),(7,iN a.2.2.1),(8,iN a.2.2.2)],[]⟩)(t5 t6:Bool)(t7 t8:Int)(r:Bool)(h:Dp_l6Sum_1 n rec0 t0 t1 t5 t6 t7 t8=some r):WT Y 160 [.code (cp [1,1,1,1,0,1,0,0,1,0,0,1,1] B160),.blk 1,.code (cp [1,1,1,1,0,1,0,0,1,1] B160),.lp (cp [1,1,1,1,0,1,0] B160),.blk 0,.code (cp [1,1,1,1,1] B160)] (FT Tryz.f160 [] (bl r) []) ⟨[(0,.sl false 1 t0.length ((eInt).f t0)),(1,.sl false 1 t1.length ((eInt).f t1)),(5,bl t5),(6,bl t6),(7,iN t7),(8,iN t8)],[]⟩:=by
 unfold Dp_l6Sum_1 at h
 obtain⟨v2,y2,h⟩:=bm h
 obtain⟨v3,y3,h⟩:=bm h
 obtain⟨v4,y4,h⟩:=bm h
 exact x_to 22 [(3,.val (.cptr (eInt.c v2++(eInt).f ((t0).drop (Int.toNat t8+1))))),(1,.call [] [] (iN v3) []),(2,.val (.cptr (eInt.c v4++(eInt).f ((t1).drop (Int.toNat t8+1)))))] (oC (ix eInt y2) (oC (Tp_l3Abs (Y:=Y) v2 _ y3) (oI (ix eInt y4)))) (hrec0 (t5,t6,w64 (t7+(w64 (v3*v4))),w64 (t8+1)) r h) 
def Dp_l6Sum_0(n:Nat)(rec0:(Bool×Bool×Int×Int)→Option Bool)(t0:List Int)(t1:List Int)(t5 t6:Bool)(t7 t8:Int):Option Bool :=
 frk t6 ((lget t0 t8).bind fun v1=>Dp_l6Sum_1 n rec0 t0 t1 t5 (decide (v1<0)) t7 t8) (Dp_l6Sum_1 n rec0 t0 t1 t5 false t7 t8)
theorem Tp_l6Sum_0{Y}(n:Nat)(rec0:(Bool×Bool×Int×Int)→Option Bool)(t0:List Int)(t1:List Int)(hrec0:∀(a:(Bool×Bool×Int×Int)) (r:Bool),rec0 a=some r→WT Y 160 [.code (cp [1,1,1,1,0,1,0] B160),.blk 0,.code (cp [1,1,1,1,1] B160)] (FT Tryz.f160 [] (bl r) []) ⟨[(0,.sl false 1 t0.length ((eInt).f t0)),(1,.sl false 1 t1.length ((eInt).f t1)),(5,bl a.1),(6,bl a.2.1),(7,iN a.2.2.1),(8,iN a.2.2.2)],[]⟩)(t5 t6:Bool)(t7 t8:Int)(r:Bool)(h:Dp_l6Sum_0 n rec0 t0 t1 t5 t6 t7 t8=some r):WT Y 160 [.code (cp [1,1,1,1,0,1,0,0,1,0,0,1,0] B160),.code (cp [1,1,1,1,0,1,0,0,1,0,0,1,1] B160),.blk 1,.code (cp [1,1,1,1,0,1,0,0,1,1] B160),.lp (cp [1,1,1,1,0,1,0] B160),.blk 0,.code (cp [1,1,1,1,1] B160)] (FT Tryz.f160 [] (bl r) []) ⟨[(0,.sl false 1 t0.length ((eInt).f t0)),(1,.sl false 1 t1.length ((eInt).f t1)),(5,bl t5),(6,bl t6),(7,iN t7),(8,iN t8)],[]⟩:=by
 unfold Dp_l6Sum_0 at h
 refine x_frk 3 [] oN h (fun h=>?_) (fun h=>?_)
 ·obtain⟨v1,y1,h⟩:=bm h
  exact x_to 8 [(2,.val (.cptr (eInt.c v1++(eInt).f ((t0).drop (Int.toNat t8+1)))))] (oI (ix eInt y1)) (Tp_l6Sum_1 n rec0 t0 t1 hrec0 t5 (decide (v1<0)) t7 t8 r h) 
 ·exact x_to 8 [] oN (Tp_l6Sum_1 n rec0 t0 t1 hrec0 t5 false t7 t8 r h) 
def Dp_l6Sum_2(_n:Nat)(t5 t6:Bool)(t7:Int):Option Bool :=
 frk t5 (some (decide (t7≤0))) (frk t6 (some (decide (t7≤0))) (some false))
theorem Tp_l6Sum_2{Y}(n:Nat)(t5 t6:Bool)(t7:Int)(r:Bool)(h:Dp_l6Sum_2 n t5 t6 t7=some r):WT Y 160 [.code (cp [1,1,1,1,1,0] B160),.code (cp [1,1,1,1,1,1] B160)] (FT Tryz.f160 [] (bl r) []) ⟨[(5,bl t5),(6,bl t6),(7,iN t7)],[]⟩:=by
 unfold Dp_l6Sum_2 at h
 refine x_frk 3 [] oN h (fun h=>?_) (fun h=>?_)
 ·obtain rfl:=sj h
  exact x_end 8 [] [] oN oN 
 ·refine x_frk 3 [] oN h (fun h=>?_) (fun h=>?_)
  ·obtain rfl:=sj h
   exact x_end 5 [] [] oN oN 
  ·obtain rfl:=sj h
   exact x_end 5 [] [] oN oN 
def Dp_l6Sum_3(n:Nat)(t0:List Int)(t1:List Int)(rec0:(Bool×Bool×Int×Int)→Option Bool)(a:(Bool×Bool×Int×Int)):Option Bool :=
 match a with
 | (t5,t6,t7,t8)=>frk (decide (t8<(t0.length:Int))) (frk t5 ((lget t0 t8).bind fun v0=>Dp_l6Sum_0 n rec0 t0 t1 (decide (v0>0)) t6 t7 t8) (Dp_l6Sum_0 n rec0 t0 t1 false t6 t7 t8)) (Dp_l6Sum_2 n t5 t6 t7)
theorem Tp_l6Sum_3{Y}(n:Nat)(t0:List Int)(t1:List Int):∀(m:Nat) (a:(Bool×Bool×Int×Int)) (r:Bool),loopN (Dp_l6Sum_3 n t0 t1) m a=some r→WT Y 160 [.code (cp [1,1,1,1,0,1,0] B160),.blk 0,.code (cp [1,1,1,1,1] B160)] (FT Tryz.f160 [] (bl r) []) ⟨[(0,.sl false 1 t0.length ((eInt).f t0)),(1,.sl false 1 t1.length ((eInt).f t1)),(5,bl a.1),(6,bl a.2.1),(7,iN a.2.2.1),(8,iN a.2.2.2)],[]⟩:=by
 refine loopN_ind (fun rec0 hrec0 a r h=>?_)
 obtain⟨t5,t6,t7,t8⟩:=a
 unfold Dp_l6Sum_3 at h
 refine x_frk 9 [] oN h (fun h=>?_) (fun h=>?_)
 ·refine x_frk 7 [] oN h (fun h=>?_) (fun h=>?_)
  ·obtain⟨v0,y0,h⟩:=bm h
   exact x_to 9 [(2,.val (.cptr (eInt.c v0++(eInt).f ((t0).drop (Int.toNat t8+1)))))] (oI (ix eInt y0)) (Tp_l6Sum_0 n rec0 t0 t1 hrec0 (decide (v0>0)) t6 t7 t8 r h) 
  ·exact x_to 9 [] oN (Tp_l6Sum_0 n rec0 t0 t1 hrec0 false t6 t7 t8 r h) 
 ·exact x_to 2 [] oN (Tp_l6Sum_2 n t5 t6 t7 r h) 
def Dp_l6Sum(n:Nat)(a0:(List Int))(a1:(List Int)):Option Bool :=
 loopN (Dp_l6Sum_3 n a0 a1) n (true,true,0,0)
theorem Tp_l6Sum{Y}(n:Nat)(a0:(List Int))(a1:(List Int))(r:Bool)(h:Dp_l6Sum n a0 a1=some r):BT Y (.call 160 [.sl false 1 a0.length ((eInt).f a0),.sl false 1 a1.length ((eInt).f a1)] (lk []) (bl r) (lk [])):=by
 unfold Dp_l6Sum at h
 refine x_call (fn:=Tryz.f160) (c:=B160) (bs0:=[]) Tryz.func160 (by kernel_rfl) (by kernel_rfl) ?_
 exact x_to 22 [] oN (Tp_l6Sum_3 n a0 a1 n (true,true,0,0) r h) 
def Dp_l6Clash3_0(n:Nat)(_zl _zm _zn zo _zr _zs _zt zu _zv _zw _zx zy zz _zaa _zab zac _zad _zae zaf _zag _zah:Int):Option Bool :=
 (Dp_l6Sum n [zz,zac,zaf] [zo,zu,zy]).bind fun v4=>some v4
theorem Tp_l6Clash3_0{Y}(n:Nat)(zl zm zn zo zr zs zt zu zv zw zx zy zz zaa zab zac zad zae zaf zag zah:Int)(r:Bool)(h:Dp_l6Clash3_0 n zl zm zn zo zr zs zt zu zv zw zx zy zz zaa zab zac zad zae zaf zag zah=some r):WT Y 135 [.code (cp [1,1,1,1,1,0,1,0,0,1,0,0,1,0,0] B135),.code (cp [1,1,1,1,1,0,1,0,0,1,0,0,1,0,1] B135),.blk 1,.code (cp [1,1,1,1,1,0,1,0,0,1,1] B135),.lp (cp [1,1,1,1,1,0,1,0] B135),.blk 0,.code (cp [1,1,1,1,1,1] B135)] (FT Tryz.f135 [] (bl r) []) ⟨[(3,.ptr 3 0),(4,.ptr 4 0),(5,.ptr 5 0),(7,.ptr 7 0),(8,.ptr 8 0),(9,.ptr 9 0),(10,iN 0)],[(3,⟨true,0,[iN zl,iN zm,iN zn,iN zo]⟩),(4,⟨true,0,[iN zr,iN zs,iN zt,iN zu]⟩),(5,⟨true,0,[iN zv,iN zw,iN zx,iN zy]⟩),(7,⟨true,0,[iN zz,iN zaa,iN zab]⟩),(8,⟨true,0,[iN zac,iN zad,iN zae]⟩),(9,⟨true,0,[iN zaf,iN zag,iN zah]⟩)]⟩:=by
 unfold Dp_l6Clash3_0 at h
 obtain⟨v4,y4,h⟩:=bm h
 obtain rfl:=sj h
 exact x_end 21 [(17,.call [] [(eInt).f [zo,zu,zy],(eInt).f [zz,zac,zaf]] (bl v4) [])] [] (oC (Tp_l6Sum (Y:=Y) n [zz,zac,zaf] [zo,zu,zy] _ y4) (oC (len_row (L:=[zz,zac,zaf]) eInt) (oC (Enc.share eInt eInt sInt [zz,zac,zaf]) (oC (len_row (L:=[zo,zu,zy]) eInt) (oI (Enc.share eInt eInt sInt [zo,zu,zy])))))) oN 
def Dp_l6Clash3_2(n:Nat)(_zl _zm _zn zo _zr _zs _zt zu _zv _zw _zx zy _zz zaa _zab _zac zad _zae _zaf zag _zah:Int):Option Bool :=
 (Dp_l6Sum n [zaa,zad,zag] [zo,zu,zy]).bind fun v6=>some v6
theorem Tp_l6Clash3_2{Y}(n:Nat)(zl zm zn zo zr zs zt zu zv zw zx zy zz zaa zab zac zad zae zaf zag zah:Int)(r:Bool)(h:Dp_l6Clash3_2 n zl zm zn zo zr zs zt zu zv zw zx zy zz zaa zab zac zad zae zaf zag zah=some r):WT Y 135 [.code (cp [1,1,1,1,1,0,1,0,0,1,0,0,1,0,0] B135),.code (cp [1,1,1,1,1,0,1,0,0,1,0,0,1,0,1] B135),.blk 1,.code (cp [1,1,1,1,1,0,1,0,0,1,1] B135),.lp (cp [1,1,1,1,1,0,1,0] B135),.blk 0,.code (cp [1,1,1,1,1,1] B135)] (FT Tryz.f135 [] (bl r) []) ⟨[(3,.ptr 3 0),(4,.ptr 4 0),(5,.ptr 5 0),(7,.ptr 7 0),(8,.ptr 8 0),(9,.ptr 9 0),(10,iN 1)],[(3,⟨true,0,[iN zl,iN zm,iN zn,iN zo]⟩),(4,⟨true,0,[iN zr,iN zs,iN zt,iN zu]⟩),(5,⟨true,0,[iN zv,iN zw,iN zx,iN zy]⟩),(7,⟨true,0,[iN zz,iN zaa,iN zab]⟩),(8,⟨true,0,[iN zac,iN zad,iN zae]⟩),(9,⟨true,0,[iN zaf,iN zag,iN zah]⟩)]⟩:=by
 unfold Dp_l6Clash3_2 at h
 obtain⟨v6,y6,h⟩:=bm h
 obtain rfl:=sj h
 exact x_end 21 [(17,.call [] [(eInt).f [zo,zu,zy],(eInt).f [zaa,zad,zag]] (bl v6) [])] [] (oC (Tp_l6Sum (Y:=Y) n [zaa,zad,zag] [zo,zu,zy] _ y6) (oC (len_row (L:=[zaa,zad,zag]) eInt) (oC (Enc.share eInt eInt sInt [zaa,zad,zag]) (oC (len_row (L:=[zo,zu,zy]) eInt) (oI (Enc.share eInt eInt sInt [zo,zu,zy])))))) oN 
def Dp_l6Clash3_4(n:Nat)(_zl _zm _zn zo _zr _zs _zt zu _zv _zw _zx zy _zz _zaa zab _zac _zad zae _zaf _zag zah:Int):Option Bool :=
 (Dp_l6Sum n [zab,zae,zah] [zo,zu,zy]).bind fun v8=>some v8
theorem Tp_l6Clash3_4{Y}(n:Nat)(zl zm zn zo zr zs zt zu zv zw zx zy zz zaa zab zac zad zae zaf zag zah:Int)(r:Bool)(h:Dp_l6Clash3_4 n zl zm zn zo zr zs zt zu zv zw zx zy zz zaa zab zac zad zae zaf zag zah=some r):WT Y 135 [.code (cp [1,1,1,1,1,0,1,0,0,1,0,0,1,0,0] B135),.code (cp [1,1,1,1,1,0,1,0,0,1,0,0,1,0,1] B135),.blk 1,.code (cp [1,1,1,1,1,0,1,0,0,1,1] B135),.lp (cp [1,1,1,1,1,0,1,0] B135),.blk 0,.code (cp [1,1,1,1,1,1] B135)] (FT Tryz.f135 [] (bl r) []) ⟨[(3,.ptr 3 0),(4,.ptr 4 0),(5,.ptr 5 0),(7,.ptr 7 0),(8,.ptr 8 0),(9,.ptr 9 0),(10,iN 2)],[(3,⟨true,0,[iN zl,iN zm,iN zn,iN zo]⟩),(4,⟨true,0,[iN zr,iN zs,iN zt,iN zu]⟩),(5,⟨true,0,[iN zv,iN zw,iN zx,iN zy]⟩),(7,⟨true,0,[iN zz,iN zaa,iN zab]⟩),(8,⟨true,0,[iN zac,iN zad,iN zae]⟩),(9,⟨true,0,[iN zaf,iN zag,iN zah]⟩)]⟩:=by
 unfold Dp_l6Clash3_4 at h
 obtain⟨v8,y8,h⟩:=bm h
 obtain rfl:=sj h
 exact x_end 21 [(17,.call [] [(eInt).f [zo,zu,zy],(eInt).f [zab,zae,zah]] (bl v8) [])] [] (oC (Tp_l6Sum (Y:=Y) n [zab,zae,zah] [zo,zu,zy] _ y8) (oC (len_row (L:=[zab,zae,zah]) eInt) (oC (Enc.share eInt eInt sInt [zab,zae,zah]) (oC (len_row (L:=[zo,zu,zy]) eInt) (oI (Enc.share eInt eInt sInt [zo,zu,zy])))))) oN 
def Dp_l6Clash3_5(n:Nat)(t44:Bool)(_zl _zm _zn zo _zr _zs _zt zu _zv _zw _zx zy _zz _zaa zab _zac _zad zae _zaf _zag zah:Int):Option Bool :=
 frk t44 ((Dp_l6Sum n [zab,zae,zah] [zo,zu,zy]).bind fun v9=>some v9) (some false)
theorem Tp_l6Clash3_5{Y}(n:Nat)(t44:Bool)(zl zm zn zo zr zs zt zu zv zw zx zy zz zaa zab zac zad zae zaf zag zah:Int)(r:Bool)(h:Dp_l6Clash3_5 n t44 zl zm zn zo zr zs zt zu zv zw zx zy zz zaa zab zac zad zae zaf zag zah=some r):WT Y 135 [.code (cp [1,1,1,1,1,0,1,0,0,1,0,0,1] B135),.blk 1,.code (cp [1,1,1,1,1,0,1,0,0,1,1] B135),.lp (cp [1,1,1,1,1,0,1,0] B135),.blk 0,.code (cp [1,1,1,1,1,1] B135)] (FT Tryz.f135 [] (bl r) []) ⟨[(3,.ptr 3 0),(4,.ptr 4 0),(5,.ptr 5 0),(7,.ptr 7 0),(8,.ptr 8 0),(9,.ptr 9 0),(10,iN 2),(44,bl t44)],[(3,⟨true,0,[iN zl,iN zm,iN zn,iN zo]⟩),(4,⟨true,0,[iN zr,iN zs,iN zt,iN zu]⟩),(5,⟨true,0,[iN zv,iN zw,iN zx,iN zy]⟩),(7,⟨true,0,[iN zz,iN zaa,iN zab]⟩),(8,⟨true,0,[iN zac,iN zad,iN zae]⟩),(9,⟨true,0,[iN zaf,iN zag,iN zah]⟩)]⟩:=by
 unfold Dp_l6Clash3_5 at h
 refine x_frk 0 [] oN h (fun h=>?_) (fun h=>?_)
 ·obtain⟨v9,y9,h⟩:=bm h
  obtain rfl:=sj h
  exact x_end 22 [(17,.call [] [(eInt).f [zo,zu,zy],(eInt).f [zab,zae,zah]] (bl v9) [])] [] (oC (Tp_l6Sum (Y:=Y) n [zab,zae,zah] [zo,zu,zy] _ y9) (oC (len_row (L:=[zab,zae,zah]) eInt) (oC (Enc.share eInt eInt sInt [zab,zae,zah]) (oC (len_row (L:=[zo,zu,zy]) eInt) (oI (Enc.share eInt eInt sInt [zo,zu,zy])))))) oN 
 ·obtain rfl:=sj h
  exact x_end 21 [] [] oN oN 
def Dp_l6Clash3_3(n:Nat)(t44:Bool)(zl zm zn zo zr zs zt zu zv zw zx zy zz zaa zab zac zad zae zaf zag zah:Int):Option Bool :=
 frk t44 ((Dp_l6Sum n [zaa,zad,zag] [zo,zu,zy]).bind fun v7=>some v7) (frk (zab != 0) (Dp_l6Clash3_4 n zl zm zn zo zr zs zt zu zv zw zx zy zz zaa zab zac zad zae zaf zag zah) (frk (zae != 0) (Dp_l6Clash3_4 n zl zm zn zo zr zs zt zu zv zw zx zy zz zaa zab zac zad zae zaf zag zah) (Dp_l6Clash3_5 n (zah != 0) zl zm zn zo zr zs zt zu zv zw zx zy zz zaa zab zac zad zae zaf zag zah)))
theorem Tp_l6Clash3_3{Y}(n:Nat)(t44:Bool)(zl zm zn zo zr zs zt zu zv zw zx zy zz zaa zab zac zad zae zaf zag zah:Int)(r:Bool)(h:Dp_l6Clash3_3 n t44 zl zm zn zo zr zs zt zu zv zw zx zy zz zaa zab zac zad zae zaf zag zah=some r):WT Y 135 [.code (cp [1,1,1,1,1,0,1,0,0,1,0,0,1] B135),.blk 1,.code (cp [1,1,1,1,1,0,1,0,0,1,1] B135),.lp (cp [1,1,1,1,1,0,1,0] B135),.blk 0,.code (cp [1,1,1,1,1,1] B135)] (FT Tryz.f135 [] (bl r) []) ⟨[(3,.ptr 3 0),(4,.ptr 4 0),(5,.ptr 5 0),(7,.ptr 7 0),(8,.ptr 8 0),(9,.ptr 9 0),(10,iN 1),(44,bl t44)],[(3,⟨true,0,[iN zl,iN zm,iN zn,iN zo]⟩),(4,⟨true,0,[iN zr,iN zs,iN zt,iN zu]⟩),(5,⟨true,0,[iN zv,iN zw,iN zx,iN zy]⟩),(7,⟨true,0,[iN zz,iN zaa,iN zab]⟩),(8,⟨true,0,[iN zac,iN zad,iN zae]⟩),(9,⟨true,0,[iN zaf,iN zag,iN zah]⟩)]⟩:=by
 unfold Dp_l6Clash3_3 at h
 refine x_frk 0 [] oN h (fun h=>?_) (fun h=>?_)
 ·obtain⟨v7,y7,h⟩:=bm h
  obtain rfl:=sj h
  exact x_end 22 [(17,.call [] [(eInt).f [zo,zu,zy],(eInt).f [zaa,zad,zag]] (bl v7) [])] [] (oC (Tp_l6Sum (Y:=Y) n [zaa,zad,zag] [zo,zu,zy] _ y7) (oC (len_row (L:=[zaa,zad,zag]) eInt) (oC (Enc.share eInt eInt sInt [zaa,zad,zag]) (oC (len_row (L:=[zo,zu,zy]) eInt) (oI (Enc.share eInt eInt sInt [zo,zu,zy])))))) oN 
 ·refine x_frk 26 [] oN h (fun h=>?_) (fun h=>?_)
  ·exact x_to 14 [] oN (Tp_l6Clash3_4 n zl zm zn zo zr zs zt zu zv zw zx zy zz zaa zab zac zad zae zaf zag zah r h) 
  ·refine x_frk 6 [] oN h (fun h=>?_) (fun h=>?_)
   ·exact x_to 8 [] oN (Tp_l6Clash3_4 n zl zm zn zo zr zs zt zu zv zw zx zy zz zaa zab zac zad zae zaf zag zah r h) 
   ·exact x_to 6 [] oN (Tp_l6Clash3_5 n (zah != 0) zl zm zn zo zr zs zt zu zv zw zx zy zz zaa zab zac zad zae zaf zag zah r h) 
def Dp_l6Clash3_1(n:Nat)(t44:Bool)(zl zm zn zo zr zs zt zu zv zw zx zy zz zaa zab zac zad zae zaf zag zah:Int):Option Bool :=
 frk t44 ((Dp_l6Sum n [zz,zac,zaf] [zo,zu,zy]).bind fun v5=>some v5) (frk (zaa != 0) (Dp_l6Clash3_2 n zl zm zn zo zr zs zt zu zv zw zx zy zz zaa zab zac zad zae zaf zag zah) (frk (zad != 0) (Dp_l6Clash3_2 n zl zm zn zo zr zs zt zu zv zw zx zy zz zaa zab zac zad zae zaf zag zah) (Dp_l6Clash3_3 n (zag != 0) zl zm zn zo zr zs zt zu zv zw zx zy zz zaa zab zac zad zae zaf zag zah)))
theorem Tp_l6Clash3_1{Y}(n:Nat)(t44:Bool)(zl zm zn zo zr zs zt zu zv zw zx zy zz zaa zab zac zad zae zaf zag zah:Int)(r:Bool)(h:Dp_l6Clash3_1 n t44 zl zm zn zo zr zs zt zu zv zw zx zy zz zaa zab zac zad zae zaf zag zah=some r):WT Y 135 [.code (cp [1,1,1,1,1,0,1,0,0,1,0,0,1] B135),.blk 1,.code (cp [1,1,1,1,1,0,1,0,0,1,1] B135),.lp (cp [1,1,1,1,1,0,1,0] B135),.blk 0,.code (cp [1,1,1,1,1,1] B135)] (FT Tryz.f135 [] (bl r) []) ⟨[(3,.ptr 3 0),(4,.ptr 4 0),(5,.ptr 5 0),(7,.ptr 7 0),(8,.ptr 8 0),(9,.ptr 9 0),(10,iN 0),(44,bl t44)],[(3,⟨true,0,[iN zl,iN zm,iN zn,iN zo]⟩),(4,⟨true,0,[iN zr,iN zs,iN zt,iN zu]⟩),(5,⟨true,0,[iN zv,iN zw,iN zx,iN zy]⟩),(7,⟨true,0,[iN zz,iN zaa,iN zab]⟩),(8,⟨true,0,[iN zac,iN zad,iN zae]⟩),(9,⟨true,0,[iN zaf,iN zag,iN zah]⟩)]⟩:=by
 unfold Dp_l6Clash3_1 at h
 refine x_frk 0 [] oN h (fun h=>?_) (fun h=>?_)
 ·obtain⟨v5,y5,h⟩:=bm h
  obtain rfl:=sj h
  exact x_end 22 [(17,.call [] [(eInt).f [zo,zu,zy],(eInt).f [zz,zac,zaf]] (bl v5) [])] [] (oC (Tp_l6Sum (Y:=Y) n [zz,zac,zaf] [zo,zu,zy] _ y5) (oC (len_row (L:=[zz,zac,zaf]) eInt) (oC (Enc.share eInt eInt sInt [zz,zac,zaf]) (oC (len_row (L:=[zo,zu,zy]) eInt) (oI (Enc.share eInt eInt sInt [zo,zu,zy])))))) oN 
 ·refine x_frk 26 [] oN h (fun h=>?_) (fun h=>?_)
  ·exact x_to 14 [] oN (Tp_l6Clash3_2 n zl zm zn zo zr zs zt zu zv zw zx zy zz zaa zab zac zad zae zaf zag zah r h) 
  ·refine x_frk 6 [] oN h (fun h=>?_) (fun h=>?_)
   ·exact x_to 8 [] oN (Tp_l6Clash3_2 n zl zm zn zo zr zs zt zu zv zw zx zy zz zaa zab zac zad zae zaf zag zah r h) 
   ·exact x_to 6 [] oN (Tp_l6Clash3_3 n (zag != 0) zl zm zn zo zr zs zt zu zv zw zx zy zz zaa zab zac zad zae zaf zag zah r h) 
def Dp_l6Clash3(n:Nat)(a0:Pl)(a1:Pl)(a2:Pl):Option Bool :=
 (Dp_l4Det3 a0 a1 a2).bind fun v0=>frk (v0 != 0) (some false) ((Dp_l4Cross a1 a2).bind fun v1=>(Dp_l4Cross a2 a0).bind fun v2=>(Dp_l4Cross a0 a1).bind fun v3=>frk (v1.1 != 0) (Dp_l6Clash3_0 n a0.A a0.B a0.C a0.D a1.A a1.B a1.C a1.D a2.A a2.B a2.C a2.D v1.1 v1.2.1 v1.2.2 v2.1 v2.2.1 v2.2.2 v3.1 v3.2.1 v3.2.2) (frk (v2.1 != 0) (Dp_l6Clash3_0 n a0.A a0.B a0.C a0.D a1.A a1.B a1.C a1.D a2.A a2.B a2.C a2.D v1.1 v1.2.1 v1.2.2 v2.1 v2.2.1 v2.2.2 v3.1 v3.2.1 v3.2.2) (Dp_l6Clash3_1 n (v3.1 != 0) a0.A a0.B a0.C a0.D a1.A a1.B a1.C a1.D a2.A a2.B a2.C a2.D v1.1 v1.2.1 v1.2.2 v2.1 v2.2.1 v2.2.2 v3.1 v3.2.1 v3.2.2)))
theorem Tp_l6Clash3{Y}(n:Nat)(a0:Pl)(a1:Pl)(a2:Pl)(r:Bool)(h:Dp_l6Clash3 n a0 a1 a2=some r):BT Y (.call 135 [.agg [iN a0.A,iN a0.B,iN a0.C,iN a0.D],.agg [iN a1.A,iN a1.B,iN a1.C,iN a1.D],.agg [iN a2.A,iN a2.B,iN a2.C,iN a2.D]] (lk []) (bl r) (lk [])):=by
 unfold Dp_l6Clash3 at h
 refine x_call (fn:=Tryz.f135) (c:=B135) (bs0:=[]) Tryz.func135 (by kernel_rfl) (by kernel_rfl) ?_
 obtain⟨v0,y0,h⟩:=bm h
 refine x_frk 16 [(7,.call [] [] (iN v0) [])] (oI (Tp_l4Det3 (Y:=Y) a0 a1 a2 _ y0)) h (fun h=>?_) (fun h=>?_)
 ·obtain rfl:=sj h
  exact x_end 4 [] [] oN oN 
 ·obtain⟨v1,y1,h⟩:=bm h
  obtain⟨v2,y2,h⟩:=bm h
  obtain⟨v3,y3,h⟩:=bm h
  refine x_frk 49 [(2,.call [] [] (.agg [iN v1.1,iN v1.2.1,iN v1.2.2]) []),(4,.call [] [] (.agg [iN v2.1,iN v2.2.1,iN v2.2.2]) []),(4,.call [] [] (.agg [iN v3.1,iN v3.2.1,iN v3.2.2]) [])] (oC (Tp_l4Cross (Y:=Y) a1 a2 _ y1) (oC (Tp_l4Cross (Y:=Y) a2 a0 _ y2) (oI (Tp_l4Cross (Y:=Y) a0 a1 _ y3)))) h (fun h=>?_) (fun h=>?_)
  ·exact x_to 14 [] oN (Tp_l6Clash3_0 n a0.A a0.B a0.C a0.D a1.A a1.B a1.C a1.D a2.A a2.B a2.C a2.D v1.1 v1.2.1 v1.2.2 v2.1 v2.2.1 v2.2.2 v3.1 v3.2.1 v3.2.2 r h) 
  ·refine x_frk 6 [] oN h (fun h=>?_) (fun h=>?_)
   ·exact x_to 8 [] oN (Tp_l6Clash3_0 n a0.A a0.B a0.C a0.D a1.A a1.B a1.C a1.D a2.A a2.B a2.C a2.D v1.1 v1.2.1 v1.2.2 v2.1 v2.2.1 v2.2.2 v3.1 v3.2.1 v3.2.2 r h) 
   ·exact x_to 6 [] oN (Tp_l6Clash3_1 n (v3.1 != 0) a0.A a0.B a0.C a0.D a1.A a1.B a1.C a1.D a2.A a2.B a2.C a2.D v1.1 v1.2.1 v1.2.2 v2.1 v2.2.1 v2.2.2 v3.1 v3.2.1 v3.2.2 r h) 
def Dp_l6Clash4(n:Nat)(a0:Pl)(a1:Pl)(a2:Pl)(a3:Pl):Option Bool :=
 (Dp_l4Det3 a1 a2 a3).bind fun v0=>(Dp_l4Det3 a0 a2 a3).bind fun v1=>(Dp_l4Det3 a0 a1 a3).bind fun v2=>(Dp_l4Det3 a0 a1 a2).bind fun v3=>(Dp_l6Sum n [v0,w64 (0-v1),v2,w64 (0-v3)] [a0.D,a1.D,a2.D,a3.D]).bind fun v4=>some v4
theorem Tp_l6Clash4{Y}(n:Nat)(a0:Pl)(a1:Pl)(a2:Pl)(a3:Pl)(r:Bool)(h:Dp_l6Clash4 n a0 a1 a2 a3=some r):BT Y (.call 136 [.agg [iN a0.A,iN a0.B,iN a0.C,iN a0.D],.agg [iN a1.A,iN a1.B,iN a1.C,iN a1.D],.agg [iN a2.A,iN a2.B,iN a2.C,iN a2.D],.agg [iN a3.A,iN a3.B,iN a3.C,iN a3.D]] (lk []) (bl r) (lk [])):=by
 unfold Dp_l6Clash4 at h
 refine x_call (fn:=Tryz.f136) (c:=B136) (bs0:=[]) Tryz.func136 (by kernel_rfl) (by kernel_rfl) ?_
 obtain⟨v0,y0,h⟩:=bm h
 obtain⟨v1,y1,h⟩:=bm h
 obtain⟨v2,y2,h⟩:=bm h
 obtain⟨v3,y3,h⟩:=bm h
 obtain⟨v4,y4,h⟩:=bm h
 obtain rfl:=sj h
 exact x_end 46 [(8,.call [] [] (iN v0) []),(3,.call [] [] (iN v1) []),(4,.call [] [] (iN v2) []),(3,.call [] [] (iN v3) []),(13,.call [] [(eInt).f [a0.D,a1.D,a2.D,a3.D],(eInt).f [v0,w64 (0-v1),v2,w64 (0-v3)]] (bl v4) [])] [] (oC (Tp_l4Det3 (Y:=Y) a1 a2 a3 _ y0) (oC (Tp_l4Det3 (Y:=Y) a0 a2 a3 _ y1) (oC (Tp_l4Det3 (Y:=Y) a0 a1 a3 _ y2) (oC (Tp_l4Det3 (Y:=Y) a0 a1 a2 _ y3) (oC (Tp_l6Sum (Y:=Y) n [v0,w64 (0-v1),v2,w64 (0-v3)] [a0.D,a1.D,a2.D,a3.D] _ y4) (oC (len_row (L:=[v0,w64 (0-v1),v2,w64 (0-v3)]) eInt) (oC (Enc.share eInt eInt sInt [v0,w64 (0-v1),v2,w64 (0-v3)]) (oC (len_row (L:=[a0.D,a1.D,a2.D,a3.D]) eInt) (oI (Enc.share eInt eInt sInt [a0.D,a1.D,a2.D,a3.D])))))))))) oN 
def Dp_l6With_0(n:Nat)(rec1:Int→Option Bool)(_rec0:Int→Option Bool)(t6:Int)(t0:List Pl)(t5 zl zm zn zo t7:Int)(rec2:Int→Option Bool)(a:Int):Option Bool :=
 match a with
 | t8=>frk (decide (t8<t5)) ((lget t0 t6).bind fun v5=>(lget t0 t7).bind fun v6=>(lget t0 t8).bind fun v7=>(Dp_l6Clash4 n v5 v6 v7 (Pl.mk zl zm zn zo)).bind fun v8=>frk v8 (some true) (rec2 (w64 (t8+1)))) (rec1 (w64 (t7+1)))
theorem Tp_l6With_0{Y}(n:Nat)(rec1:Int→Option Bool)(rec0:Int→Option Bool)(t6:Int)(t0:List Pl)(t5 zl zm zn zo:Int)(hrec1:∀(a:Int) (r:Bool),rec1 a=some r→WT Y 90 [.code (cp [1,1,0,1,0,0,1,0,0,1,1,0] B90),.blk 2,.blk 1,.code (cp [1,1,0,1,0,0,1,1] B90),.lp (cp [1,1,0,1,0] B90),.blk 0,.code (cp [1,1,1] B90)] (FT Tryz.f90 [] (bl r) []) ⟨[(0,.sl false 4 t0.length ((ePl).f t0)),(3,.ptr 3 0),(5,iN t5),(6,iN t6),(7,iN a)],[(3,⟨true,0,[iN zl,iN zm,iN zn,iN zo]⟩)]⟩)(_hrec0:∀(a:Int) (r:Bool),rec0 a=some r→WT Y 90 [.code (cp [1,1,0,1,0] B90),.blk 0,.code (cp [1,1,1] B90)] (FT Tryz.f90 [] (bl r) []) ⟨[(0,.sl false 4 t0.length ((ePl).f t0)),(3,.ptr 3 0),(5,iN t5),(6,iN a)],[(3,⟨true,0,[iN zl,iN zm,iN zn,iN zo]⟩)]⟩)(t7:Int):∀(m:Nat) (a:Int) (r:Bool),loopN (Dp_l6With_0 n rec1 rec0 t6 t0 t5 zl zm zn zo t7) m a=some r→WT Y 90 [.code (cp [1,1,0,1,0,0,1,0,0,1,1,0,0,1,0,0,1,1,0] B90),.blk 4,.blk 3,.code (cp [1,1,0,1,0,0,1,0,0,1,1,0,0,1,1] B90),.lp (cp [1,1,0,1,0,0,1,0,0,1,1,0] B90),.blk 2,.blk 1,.code (cp [1,1,0,1,0,0,1,1] B90),.lp (cp [1,1,0,1,0] B90),.blk 0,.code (cp [1,1,1] B90)] (FT Tryz.f90 [] (bl r) []) ⟨[(0,.sl false 4 t0.length ((ePl).f t0)),(3,.ptr 3 0),(5,iN t5),(6,iN t6),(7,iN t7),(8,iN a)],[(3,⟨true,0,[iN zl,iN zm,iN zn,iN zo]⟩)]⟩:=by
 refine loopN_ind (fun _rec2 hrec2 a r h=>?_)
 obtain⟨t8,rfl⟩:∃x,x=a:=⟨a,rfl⟩
 unfold Dp_l6With_0 at h
 refine x_frk 8 [] oN h (fun h=>?_) (fun h=>?_)
 ·obtain⟨v5,y5,h⟩:=bm h
  obtain⟨v6,y6,h⟩:=bm h
  obtain⟨v7,y7,h⟩:=bm h
  obtain⟨v8,y8,h⟩:=bm h
  refine x_frk 20 [(2,.val (.cptr (ePl.c v5++(ePl).f ((t0).drop (Int.toNat t6+1))))),(3,.val (.cptr (ePl.c v6++(ePl).f ((t0).drop (Int.toNat t7+1))))),(3,.val (.cptr (ePl.c v7++(ePl).f ((t0).drop (Int.toNat t8+1))))),(2,.call [] [] (bl v8) [])] (oC (ix ePl y5) (oC (ix ePl y6) (oC (ix ePl y7) (oI (Tp_l6Clash4 (Y:=Y) n v5 v6 v7 (Pl.mk zl zm zn zo) _ y8))))) h (fun h=>?_) (fun h=>?_)
  ·obtain rfl:=sj h
   exact x_end 4 [] [] oN oN 
  ·exact x_to 8 [] oN (hrec2 (w64 (t8+1)) r h) 
 ·exact x_to 8 [] oN (hrec1 (w64 (t7+1)) r h) 
def Dp_l6With_1(n:Nat)(rec0:Int→Option Bool)(t0:List Pl)(t5 zl zm zn zo t6:Int)(rec1:Int→Option Bool)(a:Int):Option Bool :=
 match a with
 | t7=>frk (decide (t7<t5)) ((lget t0 t6).bind fun v2=>(lget t0 t7).bind fun v3=>(Dp_l6Clash3 n v2 v3 (Pl.mk zl zm zn zo)).bind fun v4=>frk v4 (some true) (loopN (Dp_l6With_0 n rec1 rec0 t6 t0 t5 zl zm zn zo t7) n (w64 (t7+1)))) (rec0 (w64 (t6+1)))
theorem Tp_l6With_1{Y}(n:Nat)(rec0:Int→Option Bool)(t0:List Pl)(t5 zl zm zn zo:Int)(hrec0:∀(a:Int) (r:Bool),rec0 a=some r→WT Y 90 [.code (cp [1,1,0,1,0] B90),.blk 0,.code (cp [1,1,1] B90)] (FT Tryz.f90 [] (bl r) []) ⟨[(0,.sl false 4 t0.length ((ePl).f t0)),(3,.ptr 3 0),(5,iN t5),(6,iN a)],[(3,⟨true,0,[iN zl,iN zm,iN zn,iN zo]⟩)]⟩)(t6:Int):∀(m:Nat) (a:Int) (r:Bool),loopN (Dp_l6With_1 n rec0 t0 t5 zl zm zn zo t6) m a=some r→WT Y 90 [.code (cp [1,1,0,1,0,0,1,0,0,1,1,0] B90),.blk 2,.blk 1,.code (cp [1,1,0,1,0,0,1,1] B90),.lp (cp [1,1,0,1,0] B90),.blk 0,.code (cp [1,1,1] B90)] (FT Tryz.f90 [] (bl r) []) ⟨[(0,.sl false 4 t0.length ((ePl).f t0)),(3,.ptr 3 0),(5,iN t5),(6,iN t6),(7,iN a)],[(3,⟨true,0,[iN zl,iN zm,iN zn,iN zo]⟩)]⟩:=by
 refine loopN_ind (fun rec1 hrec1 a r h=>?_)
 obtain⟨t7,rfl⟩:∃x,x=a:=⟨a,rfl⟩
 unfold Dp_l6With_1 at h
 refine x_frk 8 [] oN h (fun h=>?_) (fun h=>?_)
 ·obtain⟨v2,y2,h⟩:=bm h
  obtain⟨v3,y3,h⟩:=bm h
  obtain⟨v4,y4,h⟩:=bm h
  refine x_frk 17 [(2,.val (.cptr (ePl.c v2++(ePl).f ((t0).drop (Int.toNat t6+1))))),(3,.val (.cptr (ePl.c v3++(ePl).f ((t0).drop (Int.toNat t7+1))))),(2,.call [] [] (bl v4) [])] (oC (ix ePl y2) (oC (ix ePl y3) (oI (Tp_l6Clash3 (Y:=Y) n v2 v3 (Pl.mk zl zm zn zo) _ y4)))) h (fun h=>?_) (fun h=>?_)
  ·obtain rfl:=sj h
   exact x_end 4 [] [] oN oN 
  ·exact x_to 8 [] oN (Tp_l6With_0 n rec1 rec0 t6 t0 t5 zl zm zn zo hrec1 hrec0 t7 n (w64 (t7+1)) r h) 
 ·exact x_to 8 [] oN (hrec0 (w64 (t6+1)) r h) 
def Dp_l6With_2(n:Nat)(t0:List Pl)(t5 zl zm zn zo:Int)(rec0:Int→Option Bool)(a:Int):Option Bool :=
 match a with
 | t6=>frk (decide (t6<t5)) ((lget t0 t6).bind fun v0=>(Dp_l6Clash2 v0 (Pl.mk zl zm zn zo)).bind fun v1=>frk v1 (some true) (loopN (Dp_l6With_1 n rec0 t0 t5 zl zm zn zo t6) n (w64 (t6+1)))) (some false)
theorem Tp_l6With_2{Y}(n:Nat)(t0:List Pl)(t5 zl zm zn zo:Int):∀(m:Nat) (a:Int) (r:Bool),loopN (Dp_l6With_2 n t0 t5 zl zm zn zo) m a=some r→WT Y 90 [.code (cp [1,1,0,1,0] B90),.blk 0,.code (cp [1,1,1] B90)] (FT Tryz.f90 [] (bl r) []) ⟨[(0,.sl false 4 t0.length ((ePl).f t0)),(3,.ptr 3 0),(5,iN t5),(6,iN a)],[(3,⟨true,0,[iN zl,iN zm,iN zn,iN zo]⟩)]⟩:=by
 refine loopN_ind (fun rec0 hrec0 a r h=>?_)
 obtain⟨t6,rfl⟩:∃x,x=a:=⟨a,rfl⟩
 unfold Dp_l6With_2 at h
 refine x_frk 8 [] oN h (fun h=>?_) (fun h=>?_)
 ·obtain⟨v0,y0,h⟩:=bm h
  obtain⟨v1,y1,h⟩:=bm h
  refine x_frk 13 [(2,.val (.cptr (ePl.c v0++(ePl).f ((t0).drop (Int.toNat t6+1))))),(2,.call [] [] (bl v1) [])] (oC (ix ePl y0) (oI (Tp_l6Clash2 (Y:=Y) v0 (Pl.mk zl zm zn zo) _ y1))) h (fun h=>?_) (fun h=>?_)
  ·obtain rfl:=sj h
   exact x_end 4 [] [] oN oN 
  ·exact x_to 8 [] oN (Tp_l6With_1 n rec0 t0 t5 zl zm zn zo hrec0 t6 n (w64 (t6+1)) r h) 
 ·obtain rfl:=sj h
  exact x_end 5 [] [] oN oN 
def Dp_l6With(n:Nat)(a0:(List Pl))(a1:Pl):Option Bool :=
 loopN (Dp_l6With_2 n a0 (a0.length:Int) a1.A a1.B a1.C a1.D) n 0
theorem Tp_l6With{Y}(n:Nat)(a0:(List Pl))(a1:Pl)(r:Bool)(h:Dp_l6With n a0 a1=some r):BT Y (.call 90 [.sl false 4 a0.length ((ePl).f a0),.agg [iN a1.A,iN a1.B,iN a1.C,iN a1.D]] (lk []) (bl r) (lk [])):=by
 unfold Dp_l6With at h
 refine x_call (fn:=Tryz.f90) (c:=B90) (bs0:=[]) Tryz.func90 (by kernel_rfl) (by kernel_rfl) ?_
 exact x_to 17 [] oN (Tp_l6With_2 n a0 (a0.length:Int) a1.A a1.B a1.C a1.D n 0 r h) 
def Dp_l3Flip(a0:Pl):Option Pl :=
 some (Pl.mk (w64 (0-a0.A)) (w64 (0-a0.B)) (w64 (0-a0.C)) (w64 (0-a0.D)))
theorem Tp_l3Flip{Y}(a0:Pl)(r:Pl)(h:Dp_l3Flip a0=some r):BT Y (.call 91 [.agg [iN a0.A,iN a0.B,iN a0.C,iN a0.D]] (lk []) (.agg [iN r.A,iN r.B,iN r.C,iN r.D]) (lk [])):=by
 unfold Dp_l3Flip at h
 refine x_call (fn:=Tryz.f91) (c:=B91) (bs0:=[]) Tryz.func91 (by kernel_rfl) (by kernel_rfl) ?_
 obtain rfl:=sj h
 exact x_end 22 [] [] oN oN 
def Dp_l8Path(a0:(List Pl))(a1:Pl):Option (List Pl) :=
 chk (apB 32 (0+a0.length)) (chk (apB 32 (([]++a0).length+1)) (some (([]++a0)++[a1])))
theorem Tp_l8Path{Y}(a0:(List Pl))(a1:Pl)(r:(List Pl))(h:Dp_l8Path a0 a1=some r):BT Y (.call 92 [.sl false 4 a0.length ((ePl).f a0),.agg [iN a1.A,iN a1.B,iN a1.C,iN a1.D]] (lk []) (.sl true 4 r.length ((ePl).f r)) (lk [])):=by
 unfold Dp_l8Path at h
 refine x_call (fn:=Tryz.f92) (c:=B92) (bs0:=[]) Tryz.func92 (by kernel_rfl) (by kernel_rfl) ?_
 obtain⟨c0,h⟩:=chk_some h
 obtain⟨c1,h⟩:=chk_some h
 obtain rfl:=sj h
 exact x_end 15 [(4,.app false (List.length ([]++a0)) ((ePl).f ([]++a0))),(2,.app false (List.length (([]++a0)++[a1])) ((ePl).f (([]++a0)++[a1])))] [] (oC (len_row' (L:=[]) ePl) (oC (app_one (L:=[]) (M:=a0) ePl c0) (oC (app_new (L:=[]) (M:=a0) ePl) (oC (app_m (L:=[]) (M:=a0) ePl rfl) (oC (len_row' (L:=a0) ePl) (oC (len_row' (L:=([]++a0)) ePl) (oC (app_one (L:=([]++a0)) (M:=[a1]) ePl c1) (oC (app_new (L:=([]++a0)) (M:=[a1]) ePl) (oC (app_m (L:=([]++a0)) (M:=[a1]) ePl rfl) (oC (len_row' (L:=[a1]) ePl) (oI (Enc.noOwn ePl (fun _=>rfl) [a1])))))))))))) (oI (len_row (L:=(([]++a0)++[a1])) ePl)) 
def Dp_l8Look_0(_n:Nat)(self:(Sol×(List Pl))→Option Bool)(t1:List Pl)(t42 _zg:Bool)(zh zi zj zk:Int)(zq:List Sol):Option Bool :=
 frk t42 (some false) ((lget zq 0).bind fun v5=>(Dp_l8Path t1 (Pl.mk zh zi zj zk)).bind fun v6=>(self (v5,v6)).bind fun v7=>frk v7 ((lget zq 1).bind fun v8=>(Dp_l3Flip (Pl.mk zh zi zj zk)).bind fun v9=>(Dp_l8Path t1 v9).bind fun v10=>(self (v8,v10)).bind fun v11=>some v11) (some false))
theorem Tp_l8Look_0{Y}(n:Nat)(self:(Sol×(List Pl))→Option Bool)(hself:∀(a:(Sol×(List Pl))) (r:Bool),self a=some r→BT Y (.call 41 [eF a.1,.sl false 4 a.2.length ((ePl).f a.2)] (lk []) (bl r) (lk [])))(t1:List Pl)(t42 zg:Bool)(zh zi zj zk:Int)(zq:List Sol)(r:Bool)(h:Dp_l8Look_0 n self t1 t42 zg zh zi zj zk zq=some r):WT Y 41 [.code (cp [1,1,0,1] B41),.code (cp [1,1,1] B41)] (FT Tryz.f41 [] (bl r) []) ⟨[(1,.sl false 4 t1.length ((ePl).f t1)),(2,.ptr 2 0),(42,bl t42)],[(2,⟨true,0,[bl zg,iN zh,iN zi,iN zj,iN zk,.sl false 6 zq.length ((eSol false).f zq)]⟩)]⟩:=by
 unfold Dp_l8Look_0 at h
 refine x_frk 0 [] oN h (fun h=>?_) (fun h=>?_)
 ·obtain rfl:=sj h
  exact x_end 4 [] [] oN oN 
 ·obtain⟨v5,y5,h⟩:=bm h
  obtain⟨v6,y6,h⟩:=bm h
  obtain⟨v7,y7,h⟩:=bm h
  refine x_frk 13 [(2,.val (.cptr ((eSol false).c v5++(eSol false).f ((zq).drop (Int.toNat 0+1))))),(4,.call [] [] (.sl false 4 v6.length ((ePl).f v6)) []),(0,.call [] [] (bl v7) [])] (oC (ix (eSol false) y5) (oC (shSl (L:=v6) ePl ePl sPl (Tp_l8Path (Y:=Y) t1 (Pl.mk zh zi zj zk) _ y6)) (oI (hself (v5,v6) _ y7)))) h (fun h=>?_) (fun h=>?_)
  ·obtain⟨v8,y8,h⟩:=bm h
   obtain⟨v9,y9,h⟩:=bm h
   obtain⟨v10,y10,h⟩:=bm h
   obtain⟨v11,y11,h⟩:=bm h
   obtain rfl:=sj h
   exact x_end 13 [(2,.val (.cptr ((eSol false).c v8++(eSol false).f ((zq).drop (Int.toNat 1+1))))),(4,.call [] [] (.agg [iN v9.A,iN v9.B,iN v9.C,iN v9.D]) []),(0,.call [] [] (.sl false 4 v10.length ((ePl).f v10)) []),(0,.call [] [] (bl v11) [])] [] (oC (ix (eSol false) y8) (oC (Tp_l3Flip (Y:=Y) (Pl.mk zh zi zj zk) _ y9) (oC (shSl (L:=v10) ePl ePl sPl (Tp_l8Path (Y:=Y) t1 v9 _ y10)) (oI (hself (v8,v10) _ y11))))) oN 
  ·obtain rfl:=sj h
   exact x_end 13 [] [] oN oN 
def Dp_l8Look_b(n:Nat)(self:(Sol×(List Pl))→Option Bool)(a:(Sol×(List Pl))):Option Bool :=
 match a with
 | (a0,a1)=>(Dp_l8Leaf a0).bind fun v0=>frk v0 (some (a0.pl.A==0&&(a0.pl.B==0&&(a0.pl.C==0&&(a0.pl.D==0&&true))))) (frk ((a0.kids.length:Int) != 2) (some false) (frk a0.inn (some false) ((Dp_PlaneOk n a0.pl).bind fun v1=>frk (!v1) (some false) (frk ((a1.length:Int)==24) (some false) ((Dp_l6With n a1 a0.pl).bind fun v2=>frk v2 (some false) ((Dp_l3Flip a0.pl).bind fun v3=>(Dp_l6With n a1 v3).bind fun v4=>Dp_l8Look_0 n self a1 v4 a0.inn a0.pl.A a0.pl.B a0.pl.C a0.pl.D a0.kids))))))
def Dp_l8Look(n:Nat)(a0:Sol)(a1:(List Pl)):Option Bool:=loopN (Dp_l8Look_b n) n (a0,a1)
theorem Tp_l8Look_b{Y}(n:Nat):∀(m:Nat) (a:(Sol×(List Pl))) (r:Bool),loopN (Dp_l8Look_b n) m a=some r→∀(_:Unit),BT Y (.call 41 [eF a.1,.sl false 4 a.2.length ((ePl).f a.2)] (lk []) (bl r) (lk [])):=by
 refine loopN_ind (fun self hs a r h=>?_)
 have hself:∀(a:(Sol×(List Pl))) (r:Bool),self a=some r→BT Y (.call 41 [eF a.1,.sl false 4 a.2.length ((ePl).f a.2)] (lk []) (bl r) (lk [])):=fun a r h=>hs a r h ()
 intro _
 obtain⟨a0,a1⟩:=a
 unfold Dp_l8Look_b at h
 refine x_call (fn:=Tryz.f41) (c:=B41) (bs0:=[]) Tryz.func41 (by kernel_rfl) (by kernel_rfl) ?_
 obtain⟨v0,y0,h⟩:=bm h
 refine x_frk 11 [(3,.call [] [] (bl v0) [])] (oI (Tp_l8Leaf (Y:=Y) a0 _ y0)) h (fun h=>?_) (fun h=>?_)
 ·obtain rfl:=sj h
  exact x_end 8 [] [] oN oN 
 ·refine x_frk 9 [] oN h (fun h=>?_) (fun h=>?_)
  ·obtain rfl:=sj h
   exact x_end 33 [] [] oN oN 
  ·refine x_frk 4 [] oN h (fun h=>?_) (fun h=>?_)
   ·obtain rfl:=sj h
    exact x_end 29 [] [] oN oN 
   ·obtain⟨v1,y1,h⟩:=bm h
    refine x_frk 6 [(2,.call [] [] (bl v1) [])] (oI (Tp_PlaneOk (Y:=Y) n a0.pl _ y1)) h (fun h=>?_) (fun h=>?_)
    ·obtain rfl:=sj h
     exact x_end 23 [] [] oN oN 
    ·refine x_frk 5 [] oN h (fun h=>?_) (fun h=>?_)
     ·obtain rfl:=sj h
      exact x_end 18 [] [] oN oN 
     ·obtain⟨v2,y2,h⟩:=bm h
      refine x_frk 6 [(3,.call [] [] (bl v2) [])] (oI (Tp_l6With (Y:=Y) n a1 a0.pl _ y2)) h (fun h=>?_) (fun h=>?_)
      ·obtain rfl:=sj h
       exact x_end 12 [] [] oN oN 
      ·obtain⟨v3,y3,h⟩:=bm h
       obtain⟨v4,y4,h⟩:=bm h
       exact x_to 7 [(3,.call [] [] (.agg [iN v3.A,iN v3.B,iN v3.C,iN v3.D]) []),(0,.call [] [] (bl v4) [])] (oC (Tp_l3Flip (Y:=Y) a0.pl _ y3) (oI (Tp_l6With (Y:=Y) n a1 v3 _ y4))) (Tp_l8Look_0 n self hself a1 v4 a0.inn a0.pl.A a0.pl.B a0.pl.C a0.pl.D a0.kids r h) 
theorem Tp_l8Look{Y}(n:Nat)(a0:Sol)(a1:(List Pl))(r:Bool)(h:Dp_l8Look n a0 a1=some r):BT Y (.call 41 [eF a0,.sl false 4 a1.length ((ePl).f a1)] (lk []) (bl r) (lk [])):=Tp_l8Look_b n n (a0,a1) r h ()
def Dp_SolidOk(n:Nat)(a0:Sol):Option Bool :=
 (Dp_l8Count n a0 301).bind fun v0=>frk (decide (v0≤300)) ((Dp_l8Look n a0 []).bind fun v1=>some v1) (some false)
theorem Tp_SolidOk{Y}(n:Nat)(a0:Sol)(r:Bool)(h:Dp_SolidOk n a0=some r):BT Y (.call 10 [eF a0] (lk []) (bl r) (lk [])):=by
 unfold Dp_SolidOk at h
 refine x_call (fn:=Tryz.f10) (c:=B10) (bs0:=[]) Tryz.func10 (by kernel_rfl) (by kernel_rfl) ?_
 obtain⟨v0,y0,h⟩:=bm h
 refine x_frk 11 [(3,.call [] [] (iN v0) [])] (oI (Tp_l8Count (Y:=Y) n a0 301 _ y0)) h (fun h=>?_) (fun h=>?_)
 ·obtain⟨v1,y1,h⟩:=bm h
  obtain rfl:=sj h
  exact x_end 6 [(2,.call [] [(ePl).f []] (bl v1) [])] [] (oC (Tp_l8Look (Y:=Y) n a0 [] _ y1) (oC (len_row (L:=[]) ePl) (oI (Enc.share ePl ePl sPl [])))) oN 
 ·obtain rfl:=sj h
  exact x_end 6 [] [] oN oN 
def Dp_l20None(a0:Sol):Option Bool :=
 frk (!a0.inn) (frk (a0.pl.A==0&&(a0.pl.B==0&&(a0.pl.C==0&&(a0.pl.D==0&&true)))) (some ((a0.kids.length:Int)==0)) (some false)) (some false)
theorem Tp_l20None{Y}(a0:Sol)(r:Bool)(h:Dp_l20None a0=some r):BT Y (.call 122 [eF a0] (lk []) (bl r) (lk [])):=by
 unfold Dp_l20None at h
 refine x_call (fn:=Tryz.f122) (c:=B122) (bs0:=[]) Tryz.func122 (by kernel_rfl) (by kernel_rfl) ?_
 refine x_frk 11 [] oN h (fun h=>?_) (fun h=>?_)
 ·refine x_frk 6 [] oN h (fun h=>?_) (fun h=>?_)
  ·obtain rfl:=sj h
   exact x_end 7 [] [] oN oN 
  ·obtain rfl:=sj h
   exact x_end 7 [] [] oN oN 
 ·obtain rfl:=sj h
  exact x_end 13 [] [] oN oN 
def Dp_DeskOk_7(n:Nat)(t3:Int)(t35:Bool)(a0:Dk8):Option Bool :=
 frk t35 (some false) ((Dp_l8Count n a0.1.2.2.2.2.2.2.2 301).bind fun v23=>some (decide ((w64 (t3+v23))≤900)))
theorem Tp_DeskOk_7{Y}(n:Nat)(t3:Int)(t35:Bool)(a0:Dk8)(r:Bool)(h:Dp_DeskOk_7 n t3 t35 a0=some r):WT Y 65 [.code (cp [1,1,0,1,0,0,1,0,0,0,1] B65),.code (cp [1,1,0,1,0,0,1,0,0,1] B65),.blk 1,.code (cp [1,1,0,1,0,0,1,1] B65),.lp (cp [1,1,0,1,0] B65),.blk 0,.code (cp [1,1,1] B65)] (FT Tryz.f65 [] (bl r) []) ⟨[(1,.ptr 1 0),(3,iN t3),(4,iN 7),(35,bl t35)],[(1,⟨true,0,(cT52 a0)⟩)]⟩:=by
 unfold Dp_DeskOk_7 at h
 refine x_frk 0 [] oN h (fun h=>?_) (fun h=>?_)
 ·obtain rfl:=sj h
  exact x_end 4 [] [] oN oN 
 ·obtain⟨v23,y23,h⟩:=bm h
  obtain rfl:=sj h
  exact x_end 33 [(5,.call [] [] (iN v23) [])] [] (oI (Tp_l8Count (Y:=Y) n a0.1.2.2.2.2.2.2.2 301 _ y23)) oN 
def Dp_DeskOk_8(n:Nat)(t3:Int)(a0:Dk8):Option Bool :=
 (Dp_l8Count n a0.1.2.2.2.2.2.2.2 301).bind fun v24=>some (decide ((w64 (t3+v24))≤900))
theorem Tp_DeskOk_8{Y}(n:Nat)(t3:Int)(a0:Dk8)(r:Bool)(h:Dp_DeskOk_8 n t3 a0=some r):WT Y 65 [.code (cp [1,1,0,1,0,0,1,0,0,1] B65),.blk 1,.code (cp [1,1,0,1,0,0,1,1] B65),.lp (cp [1,1,0,1,0] B65),.blk 0,.code (cp [1,1,1] B65)] (FT Tryz.f65 [] (bl r) []) ⟨[(1,.ptr 1 0),(3,iN t3),(4,iN 7)],[(1,⟨true,0,(cT52 a0)⟩)]⟩:=by
 unfold Dp_DeskOk_8 at h
 obtain⟨v24,y24,h⟩:=bm h
 obtain rfl:=sj h
 exact x_end 32 [(5,.call [] [] (iN v24) [])] [] (oI (Tp_l8Count (Y:=Y) n a0.1.2.2.2.2.2.2.2 301 _ y24)) oN 
def Dp_DeskOk_6(n:Nat)(t3:Int)(t35:Bool)(a0:Dk8):Option Bool :=
 frk t35 (some false) ((Dp_l8Count n a0.1.2.2.2.2.2.2.1 301).bind fun v20=>frk a0.2.2.2.2.2.2.2.2 ((Dp_SolidOk n a0.1.2.2.2.2.2.2.2).bind fun v21=>frk (!v21) (some false) (frk (!a0.2.2.2.2.2.2.2.2) ((Dp_l20None a0.1.2.2.2.2.2.2.2).bind fun v22=>Dp_DeskOk_7 n (w64 (t3+v20)) (!v22) a0) (Dp_DeskOk_8 n (w64 (t3+v20)) a0))) (frk (!a0.2.2.2.2.2.2.2.2) ((Dp_l20None a0.1.2.2.2.2.2.2.2).bind fun v25=>Dp_DeskOk_7 n (w64 (t3+v20)) (!v25) a0) (Dp_DeskOk_8 n (w64 (t3+v20)) a0)))
theorem Tp_DeskOk_6{Y}(n:Nat)(t3:Int)(t35:Bool)(a0:Dk8)(r:Bool)(h:Dp_DeskOk_6 n t3 t35 a0=some r):WT Y 65 [.code (cp [1,1,0,1,0,0,1,0,0,0,1] B65),.code (cp [1,1,0,1,0,0,1,0,0,1] B65),.blk 1,.code (cp [1,1,0,1,0,0,1,1] B65),.lp (cp [1,1,0,1,0] B65),.blk 0,.code (cp [1,1,1] B65)] (FT Tryz.f65 [] (bl r) []) ⟨[(1,.ptr 1 0),(3,iN t3),(4,iN 6),(35,bl t35)],[(1,⟨true,0,(cT52 a0)⟩)]⟩:=by
 unfold Dp_DeskOk_6 at h
 refine x_frk 0 [] oN h (fun h=>?_) (fun h=>?_)
 ·obtain rfl:=sj h
  exact x_end 4 [] [] oN oN 
 ·obtain⟨v20,y20,h⟩:=bm h
  refine x_frk 37 [(5,.call [] [] (iN v20) [])] (oI (Tp_l8Count (Y:=Y) n a0.1.2.2.2.2.2.2.1 301 _ y20)) h (fun h=>?_) (fun h=>?_)
  ·obtain⟨v21,y21,h⟩:=bm h
   refine x_frk 8 [(4,.call [] [] (bl v21) [])] (oI (Tp_SolidOk (Y:=Y) n a0.1.2.2.2.2.2.2.2 _ y21)) h (fun h=>?_) (fun h=>?_)
   ·obtain rfl:=sj h
    exact x_end 20 [] [] oN oN 
   ·refine x_frk 6 [] oN h (fun h=>?_) (fun h=>?_)
    ·obtain⟨v22,y22,h⟩:=bm h
     exact x_to 9 [(4,.call [] [] (bl v22) [])] (oI (Tp_l20None (Y:=Y) a0.1.2.2.2.2.2.2.2 _ y22)) (Tp_DeskOk_7 n (w64 (t3+v20)) (!v22) a0 r h) 
    ·exact x_to 11 [] oN (Tp_DeskOk_8 n (w64 (t3+v20)) a0 r h) 
  ·refine x_frk 14 [] oN h (fun h=>?_) (fun h=>?_)
   ·obtain⟨v25,y25,h⟩:=bm h
    exact x_to 9 [(4,.call [] [] (bl v25) [])] (oI (Tp_l20None (Y:=Y) a0.1.2.2.2.2.2.2.2 _ y25)) (Tp_DeskOk_7 n (w64 (t3+v20)) (!v25) a0 r h) 
   ·exact x_to 11 [] oN (Tp_DeskOk_8 n (w64 (t3+v20)) a0 r h) 
def Dp_DeskOk_9(n:Nat)(t3:Int)(a0:Dk8):Option Bool :=
 (Dp_l8Count n a0.1.2.2.2.2.2.2.1 301).bind fun v26=>frk a0.2.2.2.2.2.2.2.2 ((Dp_SolidOk n a0.1.2.2.2.2.2.2.2).bind fun v27=>frk (!v27) (some false) (frk (!a0.2.2.2.2.2.2.2.2) ((Dp_l20None a0.1.2.2.2.2.2.2.2).bind fun v28=>Dp_DeskOk_7 n (w64 (t3+v26)) (!v28) a0) (Dp_DeskOk_8 n (w64 (t3+v26)) a0))) (frk (!a0.2.2.2.2.2.2.2.2) ((Dp_l20None a0.1.2.2.2.2.2.2.2).bind fun v29=>Dp_DeskOk_7 n (w64 (t3+v26)) (!v29) a0) (Dp_DeskOk_8 n (w64 (t3+v26)) a0))
theorem Tp_DeskOk_9{Y}(n:Nat)(t3:Int)(a0:Dk8)(r:Bool)(h:Dp_DeskOk_9 n t3 a0=some r):WT Y 65 [.code (cp [1,1,0,1,0,0,1,0,0,1] B65),.blk 1,.code (cp [1,1,0,1,0,0,1,1] B65),.lp (cp [1,1,0,1,0] B65),.blk 0,.code (cp [1,1,1] B65)] (FT Tryz.f65 [] (bl r) []) ⟨[(1,.ptr 1 0),(3,iN t3),(4,iN 6)],[(1,⟨true,0,(cT52 a0)⟩)]⟩:=by
 unfold Dp_DeskOk_9 at h
 obtain⟨v26,y26,h⟩:=bm h
 refine x_frk 36 [(5,.call [] [] (iN v26) [])] (oI (Tp_l8Count (Y:=Y) n a0.1.2.2.2.2.2.2.1 301 _ y26)) h (fun h=>?_) (fun h=>?_)
 ·obtain⟨v27,y27,h⟩:=bm h
  refine x_frk 8 [(4,.call [] [] (bl v27) [])] (oI (Tp_SolidOk (Y:=Y) n a0.1.2.2.2.2.2.2.2 _ y27)) h (fun h=>?_) (fun h=>?_)
  ·obtain rfl:=sj h
   exact x_end 20 [] [] oN oN 
  ·refine x_frk 6 [] oN h (fun h=>?_) (fun h=>?_)
   ·obtain⟨v28,y28,h⟩:=bm h
    exact x_to 9 [(4,.call [] [] (bl v28) [])] (oI (Tp_l20None (Y:=Y) a0.1.2.2.2.2.2.2.2 _ y28)) (Tp_DeskOk_7 n (w64 (t3+v26)) (!v28) a0 r h) 
   ·exact x_to 11 [] oN (Tp_DeskOk_8 n (w64 (t3+v26)) a0 r h) 
 ·refine x_frk 14 [] oN h (fun h=>?_) (fun h=>?_)
  ·obtain⟨v29,y29,h⟩:=bm h
   exact x_to 9 [(4,.call [] [] (bl v29) [])] (oI (Tp_l20None (Y:=Y) a0.1.2.2.2.2.2.2.2 _ y29)) (Tp_DeskOk_7 n (w64 (t3+v26)) (!v29) a0 r h) 
  ·exact x_to 11 [] oN (Tp_DeskOk_8 n (w64 (t3+v26)) a0 r h) 
def Dp_DeskOk_5(n:Nat)(t3:Int)(t35:Bool)(a0:Dk8):Option Bool :=
 frk t35 (some false) ((Dp_l8Count n a0.1.2.2.2.2.2.1 301).bind fun v17=>frk a0.2.2.2.2.2.2.2.1 ((Dp_SolidOk n a0.1.2.2.2.2.2.2.1).bind fun v18=>frk (!v18) (some false) (frk (!a0.2.2.2.2.2.2.2.1) ((Dp_l20None a0.1.2.2.2.2.2.2.1).bind fun v19=>Dp_DeskOk_6 n (w64 (t3+v17)) (!v19) a0) (Dp_DeskOk_9 n (w64 (t3+v17)) a0))) (frk (!a0.2.2.2.2.2.2.2.1) ((Dp_l20None a0.1.2.2.2.2.2.2.1).bind fun v30=>Dp_DeskOk_6 n (w64 (t3+v17)) (!v30) a0) (Dp_DeskOk_9 n (w64 (t3+v17)) a0)))
theorem Tp_DeskOk_5{Y}(n:Nat)(t3:Int)(t35:Bool)(a0:Dk8)(r:Bool)(h:Dp_DeskOk_5 n t3 t35 a0=some r):WT Y 65 [.code (cp [1,1,0,1,0,0,1,0,0,0,1] B65),.code (cp [1,1,0,1,0,0,1,0,0,1] B65),.blk 1,.code (cp [1,1,0,1,0,0,1,1] B65),.lp (cp [1,1,0,1,0] B65),.blk 0,.code (cp [1,1,1] B65)] (FT Tryz.f65 [] (bl r) []) ⟨[(1,.ptr 1 0),(3,iN t3),(4,iN 5),(35,bl t35)],[(1,⟨true,0,(cT52 a0)⟩)]⟩:=by
 unfold Dp_DeskOk_5 at h
 refine x_frk 0 [] oN h (fun h=>?_) (fun h=>?_)
 ·obtain rfl:=sj h
  exact x_end 4 [] [] oN oN 
 ·obtain⟨v17,y17,h⟩:=bm h
  refine x_frk 37 [(5,.call [] [] (iN v17) [])] (oI (Tp_l8Count (Y:=Y) n a0.1.2.2.2.2.2.1 301 _ y17)) h (fun h=>?_) (fun h=>?_)
  ·obtain⟨v18,y18,h⟩:=bm h
   refine x_frk 8 [(4,.call [] [] (bl v18) [])] (oI (Tp_SolidOk (Y:=Y) n a0.1.2.2.2.2.2.2.1 _ y18)) h (fun h=>?_) (fun h=>?_)
   ·obtain rfl:=sj h
    exact x_end 20 [] [] oN oN 
   ·refine x_frk 6 [] oN h (fun h=>?_) (fun h=>?_)
    ·obtain⟨v19,y19,h⟩:=bm h
     exact x_to 9 [(4,.call [] [] (bl v19) [])] (oI (Tp_l20None (Y:=Y) a0.1.2.2.2.2.2.2.1 _ y19)) (Tp_DeskOk_6 n (w64 (t3+v17)) (!v19) a0 r h) 
    ·exact x_to 11 [] oN (Tp_DeskOk_9 n (w64 (t3+v17)) a0 r h) 
  ·refine x_frk 14 [] oN h (fun h=>?_) (fun h=>?_)
   ·obtain⟨v30,y30,h⟩:=bm h
    exact x_to 9 [(4,.call [] [] (bl v30) [])] (oI (Tp_l20None (Y:=Y) a0.1.2.2.2.2.2.2.1 _ y30)) (Tp_DeskOk_6 n (w64 (t3+v17)) (!v30) a0 r h) 
   ·exact x_to 11 [] oN (Tp_DeskOk_9 n (w64 (t3+v17)) a0 r h) 
def Dp_DeskOk_10(n:Nat)(t3:Int)(a0:Dk8):Option Bool :=
 (Dp_l8Count n a0.1.2.2.2.2.2.1 301).bind fun v31=>frk a0.2.2.2.2.2.2.2.1 ((Dp_SolidOk n a0.1.2.2.2.2.2.2.1).bind fun v32=>frk (!v32) (some false) (frk (!a0.2.2.2.2.2.2.2.1) ((Dp_l20None a0.1.2.2.2.2.2.2.1).bind fun v33=>Dp_DeskOk_6 n (w64 (t3+v31)) (!v33) a0) (Dp_DeskOk_9 n (w64 (t3+v31)) a0))) (frk (!a0.2.2.2.2.2.2.2.1) ((Dp_l20None a0.1.2.2.2.2.2.2.1).bind fun v34=>Dp_DeskOk_6 n (w64 (t3+v31)) (!v34) a0) (Dp_DeskOk_9 n (w64 (t3+v31)) a0))
theorem Tp_DeskOk_10{Y}(n:Nat)(t3:Int)(a0:Dk8)(r:Bool)(h:Dp_DeskOk_10 n t3 a0=some r):WT Y 65 [.code (cp [1,1,0,1,0,0,1,0,0,1] B65),.blk 1,.code (cp [1,1,0,1,0,0,1,1] B65),.lp (cp [1,1,0,1,0] B65),.blk 0,.code (cp [1,1,1] B65)] (FT Tryz.f65 [] (bl r) []) ⟨[(1,.ptr 1 0),(3,iN t3),(4,iN 5)],[(1,⟨true,0,(cT52 a0)⟩)]⟩:=by
 unfold Dp_DeskOk_10 at h
 obtain⟨v31,y31,h⟩:=bm h
 refine x_frk 36 [(5,.call [] [] (iN v31) [])] (oI (Tp_l8Count (Y:=Y) n a0.1.2.2.2.2.2.1 301 _ y31)) h (fun h=>?_) (fun h=>?_)
 ·obtain⟨v32,y32,h⟩:=bm h
  refine x_frk 8 [(4,.call [] [] (bl v32) [])] (oI (Tp_SolidOk (Y:=Y) n a0.1.2.2.2.2.2.2.1 _ y32)) h (fun h=>?_) (fun h=>?_)
  ·obtain rfl:=sj h
   exact x_end 20 [] [] oN oN 
  ·refine x_frk 6 [] oN h (fun h=>?_) (fun h=>?_)
   ·obtain⟨v33,y33,h⟩:=bm h
    exact x_to 9 [(4,.call [] [] (bl v33) [])] (oI (Tp_l20None (Y:=Y) a0.1.2.2.2.2.2.2.1 _ y33)) (Tp_DeskOk_6 n (w64 (t3+v31)) (!v33) a0 r h) 
   ·exact x_to 11 [] oN (Tp_DeskOk_9 n (w64 (t3+v31)) a0 r h) 
 ·refine x_frk 14 [] oN h (fun h=>?_) (fun h=>?_)
  ·obtain⟨v34,y34,h⟩:=bm h
   exact x_to 9 [(4,.call [] [] (bl v34) [])] (oI (Tp_l20None (Y:=Y) a0.1.2.2.2.2.2.2.1 _ y34)) (Tp_DeskOk_6 n (w64 (t3+v31)) (!v34) a0 r h) 
  ·exact x_to 11 [] oN (Tp_DeskOk_9 n (w64 (t3+v31)) a0 r h) 
def Dp_DeskOk_4(n:Nat)(t3:Int)(t35:Bool)(a0:Dk8):Option Bool :=
 frk t35 (some false) ((Dp_l8Count n a0.1.2.2.2.2.1 301).bind fun v14=>frk a0.2.2.2.2.2.2.1 ((Dp_SolidOk n a0.1.2.2.2.2.2.1).bind fun v15=>frk (!v15) (some false) (frk (!a0.2.2.2.2.2.2.1) ((Dp_l20None a0.1.2.2.2.2.2.1).bind fun v16=>Dp_DeskOk_5 n (w64 (t3+v14)) (!v16) a0) (Dp_DeskOk_10 n (w64 (t3+v14)) a0))) (frk (!a0.2.2.2.2.2.2.1) ((Dp_l20None a0.1.2.2.2.2.2.1).bind fun v35=>Dp_DeskOk_5 n (w64 (t3+v14)) (!v35) a0) (Dp_DeskOk_10 n (w64 (t3+v14)) a0)))
theorem Tp_DeskOk_4{Y}(n:Nat)(t3:Int)(t35:Bool)(a0:Dk8)(r:Bool)(h:Dp_DeskOk_4 n t3 t35 a0=some r):WT Y 65 [.code (cp [1,1,0,1,0,0,1,0,0,0,1] B65),.code (cp [1,1,0,1,0,0,1,0,0,1] B65),.blk 1,.code (cp [1,1,0,1,0,0,1,1] B65),.lp (cp [1,1,0,1,0] B65),.blk 0,.code (cp [1,1,1] B65)] (FT Tryz.f65 [] (bl r) []) ⟨[(1,.ptr 1 0),(3,iN t3),(4,iN 4),(35,bl t35)],[(1,⟨true,0,(cT52 a0)⟩)]⟩:=by
 unfold Dp_DeskOk_4 at h
 refine x_frk 0 [] oN h (fun h=>?_) (fun h=>?_)
 ·obtain rfl:=sj h
  exact x_end 4 [] [] oN oN 
 ·obtain⟨v14,y14,h⟩:=bm h
  refine x_frk 37 [(5,.call [] [] (iN v14) [])] (oI (Tp_l8Count (Y:=Y) n a0.1.2.2.2.2.1 301 _ y14)) h (fun h=>?_) (fun h=>?_)
  ·obtain⟨v15,y15,h⟩:=bm h
   refine x_frk 8 [(4,.call [] [] (bl v15) [])] (oI (Tp_SolidOk (Y:=Y) n a0.1.2.2.2.2.2.1 _ y15)) h (fun h=>?_) (fun h=>?_)
   ·obtain rfl:=sj h
    exact x_end 20 [] [] oN oN 
   ·refine x_frk 6 [] oN h (fun h=>?_) (fun h=>?_)
    ·obtain⟨v16,y16,h⟩:=bm h
     exact x_to 9 [(4,.call [] [] (bl v16) [])] (oI (Tp_l20None (Y:=Y) a0.1.2.2.2.2.2.1 _ y16)) (Tp_DeskOk_5 n (w64 (t3+v14)) (!v16) a0 r h) 
    ·exact x_to 11 [] oN (Tp_DeskOk_10 n (w64 (t3+v14)) a0 r h) 
  ·refine x_frk 14 [] oN h (fun h=>?_) (fun h=>?_)
   ·obtain⟨v35,y35,h⟩:=bm h
    exact x_to 9 [(4,.call [] [] (bl v35) [])] (oI (Tp_l20None (Y:=Y) a0.1.2.2.2.2.2.1 _ y35)) (Tp_DeskOk_5 n (w64 (t3+v14)) (!v35) a0 r h) 
   ·exact x_to 11 [] oN (Tp_DeskOk_10 n (w64 (t3+v14)) a0 r h) 
def Dp_DeskOk_11(n:Nat)(t3:Int)(a0:Dk8):Option Bool :=
 (Dp_l8Count n a0.1.2.2.2.2.1 301).bind fun v36=>frk a0.2.2.2.2.2.2.1 ((Dp_SolidOk n a0.1.2.2.2.2.2.1).bind fun v37=>frk (!v37) (some false) (frk (!a0.2.2.2.2.2.2.1) ((Dp_l20None a0.1.2.2.2.2.2.1).bind fun v38=>Dp_DeskOk_5 n (w64 (t3+v36)) (!v38) a0) (Dp_DeskOk_10 n (w64 (t3+v36)) a0))) (frk (!a0.2.2.2.2.2.2.1) ((Dp_l20None a0.1.2.2.2.2.2.1).bind fun v39=>Dp_DeskOk_5 n (w64 (t3+v36)) (!v39) a0) (Dp_DeskOk_10 n (w64 (t3+v36)) a0))
theorem Tp_DeskOk_11{Y}(n:Nat)(t3:Int)(a0:Dk8)(r:Bool)(h:Dp_DeskOk_11 n t3 a0=some r):WT Y 65 [.code (cp [1,1,0,1,0,0,1,0,0,1] B65),.blk 1,.code (cp [1,1,0,1,0,0,1,1] B65),.lp (cp [1,1,0,1,0] B65),.blk 0,.code (cp [1,1,1] B65)] (FT Tryz.f65 [] (bl r) []) ⟨[(1,.ptr 1 0),(3,iN t3),(4,iN 4)],[(1,⟨true,0,(cT52 a0)⟩)]⟩:=by
 unfold Dp_DeskOk_11 at h
 obtain⟨v36,y36,h⟩:=bm h
 refine x_frk 36 [(5,.call [] [] (iN v36) [])] (oI (Tp_l8Count (Y:=Y) n a0.1.2.2.2.2.1 301 _ y36)) h (fun h=>?_) (fun h=>?_)
 ·obtain⟨v37,y37,h⟩:=bm h
  refine x_frk 8 [(4,.call [] [] (bl v37) [])] (oI (Tp_SolidOk (Y:=Y) n a0.1.2.2.2.2.2.1 _ y37)) h (fun h=>?_) (fun h=>?_)
  ·obtain rfl:=sj h
   exact x_end 20 [] [] oN oN 
  ·refine x_frk 6 [] oN h (fun h=>?_) (fun h=>?_)
   ·obtain⟨v38,y38,h⟩:=bm h
    exact x_to 9 [(4,.call [] [] (bl v38) [])] (oI (Tp_l20None (Y:=Y) a0.1.2.2.2.2.2.1 _ y38)) (Tp_DeskOk_5 n (w64 (t3+v36)) (!v38) a0 r h) 
   ·exact x_to 11 [] oN (Tp_DeskOk_10 n (w64 (t3+v36)) a0 r h) 
 ·refine x_frk 14 [] oN h (fun h=>?_) (fun h=>?_)
  ·obtain⟨v39,y39,h⟩:=bm h
   exact x_to 9 [(4,.call [] [] (bl v39) [])] (oI (Tp_l20None (Y:=Y) a0.1.2.2.2.2.2.1 _ y39)) (Tp_DeskOk_5 n (w64 (t3+v36)) (!v39) a0 r h) 
  ·exact x_to 11 [] oN (Tp_DeskOk_10 n (w64 (t3+v36)) a0 r h) 
def Dp_DeskOk_3(n:Nat)(t3:Int)(t35:Bool)(a0:Dk8):Option Bool :=
 frk t35 (some false) ((Dp_l8Count n a0.1.2.2.2.1 301).bind fun v11=>frk a0.2.2.2.2.2.1 ((Dp_SolidOk n a0.1.2.2.2.2.1).bind fun v12=>frk (!v12) (some false) (frk (!a0.2.2.2.2.2.1) ((Dp_l20None a0.1.2.2.2.2.1).bind fun v13=>Dp_DeskOk_4 n (w64 (t3+v11)) (!v13) a0) (Dp_DeskOk_11 n (w64 (t3+v11)) a0))) (frk (!a0.2.2.2.2.2.1) ((Dp_l20None a0.1.2.2.2.2.1).bind fun v40=>Dp_DeskOk_4 n (w64 (t3+v11)) (!v40) a0) (Dp_DeskOk_11 n (w64 (t3+v11)) a0)))
theorem Tp_DeskOk_3{Y}(n:Nat)(t3:Int)(t35:Bool)(a0:Dk8)(r:Bool)(h:Dp_DeskOk_3 n t3 t35 a0=some r):WT Y 65 [.code (cp [1,1,0,1,0,0,1,0,0,0,1] B65),.code (cp [1,1,0,1,0,0,1,0,0,1] B65),.blk 1,.code (cp [1,1,0,1,0,0,1,1] B65),.lp (cp [1,1,0,1,0] B65),.blk 0,.code (cp [1,1,1] B65)] (FT Tryz.f65 [] (bl r) []) ⟨[(1,.ptr 1 0),(3,iN t3),(4,iN 3),(35,bl t35)],[(1,⟨true,0,(cT52 a0)⟩)]⟩:=by
 unfold Dp_DeskOk_3 at h
 refine x_frk 0 [] oN h (fun h=>?_) (fun h=>?_)
 ·obtain rfl:=sj h
  exact x_end 4 [] [] oN oN 
 ·obtain⟨v11,y11,h⟩:=bm h
  refine x_frk 37 [(5,.call [] [] (iN v11) [])] (oI (Tp_l8Count (Y:=Y) n a0.1.2.2.2.1 301 _ y11)) h (fun h=>?_) (fun h=>?_)
  ·obtain⟨v12,y12,h⟩:=bm h
   refine x_frk 8 [(4,.call [] [] (bl v12) [])] (oI (Tp_SolidOk (Y:=Y) n a0.1.2.2.2.2.1 _ y12)) h (fun h=>?_) (fun h=>?_)
   ·obtain rfl:=sj h
    exact x_end 20 [] [] oN oN 
   ·refine x_frk 6 [] oN h (fun h=>?_) (fun h=>?_)
    ·obtain⟨v13,y13,h⟩:=bm h
     exact x_to 9 [(4,.call [] [] (bl v13) [])] (oI (Tp_l20None (Y:=Y) a0.1.2.2.2.2.1 _ y13)) (Tp_DeskOk_4 n (w64 (t3+v11)) (!v13) a0 r h) 
    ·exact x_to 11 [] oN (Tp_DeskOk_11 n (w64 (t3+v11)) a0 r h) 
  ·refine x_frk 14 [] oN h (fun h=>?_) (fun h=>?_)
   ·obtain⟨v40,y40,h⟩:=bm h
    exact x_to 9 [(4,.call [] [] (bl v40) [])] (oI (Tp_l20None (Y:=Y) a0.1.2.2.2.2.1 _ y40)) (Tp_DeskOk_4 n (w64 (t3+v11)) (!v40) a0 r h) 
   ·exact x_to 11 [] oN (Tp_DeskOk_11 n (w64 (t3+v11)) a0 r h) 
def Dp_DeskOk_12(n:Nat)(t3:Int)(a0:Dk8):Option Bool :=
 (Dp_l8Count n a0.1.2.2.2.1 301).bind fun v41=>frk a0.2.2.2.2.2.1 ((Dp_SolidOk n a0.1.2.2.2.2.1).bind fun v42=>frk (!v42) (some false) (frk (!a0.2.2.2.2.2.1) ((Dp_l20None a0.1.2.2.2.2.1).bind fun v43=>Dp_DeskOk_4 n (w64 (t3+v41)) (!v43) a0) (Dp_DeskOk_11 n (w64 (t3+v41)) a0))) (frk (!a0.2.2.2.2.2.1) ((Dp_l20None a0.1.2.2.2.2.1).bind fun v44=>Dp_DeskOk_4 n (w64 (t3+v41)) (!v44) a0) (Dp_DeskOk_11 n (w64 (t3+v41)) a0))
theorem Tp_DeskOk_12{Y}(n:Nat)(t3:Int)(a0:Dk8)(r:Bool)(h:Dp_DeskOk_12 n t3 a0=some r):WT Y 65 [.code (cp [1,1,0,1,0,0,1,0,0,1] B65),.blk 1,.code (cp [1,1,0,1,0,0,1,1] B65),.lp (cp [1,1,0,1,0] B65),.blk 0,.code (cp [1,1,1] B65)] (FT Tryz.f65 [] (bl r) []) ⟨[(1,.ptr 1 0),(3,iN t3),(4,iN 3)],[(1,⟨true,0,(cT52 a0)⟩)]⟩:=by
 unfold Dp_DeskOk_12 at h
 obtain⟨v41,y41,h⟩:=bm h
 refine x_frk 36 [(5,.call [] [] (iN v41) [])] (oI (Tp_l8Count (Y:=Y) n a0.1.2.2.2.1 301 _ y41)) h (fun h=>?_) (fun h=>?_)
 ·obtain⟨v42,y42,h⟩:=bm h
  refine x_frk 8 [(4,.call [] [] (bl v42) [])] (oI (Tp_SolidOk (Y:=Y) n a0.1.2.2.2.2.1 _ y42)) h (fun h=>?_) (fun h=>?_)
  ·obtain rfl:=sj h
   exact x_end 20 [] [] oN oN 
  ·refine x_frk 6 [] oN h (fun h=>?_) (fun h=>?_)
   ·obtain⟨v43,y43,h⟩:=bm h
    exact x_to 9 [(4,.call [] [] (bl v43) [])] (oI (Tp_l20None (Y:=Y) a0.1.2.2.2.2.1 _ y43)) (Tp_DeskOk_4 n (w64 (t3+v41)) (!v43) a0 r h) 
   ·exact x_to 11 [] oN (Tp_DeskOk_11 n (w64 (t3+v41)) a0 r h) 
 ·refine x_frk 14 [] oN h (fun h=>?_) (fun h=>?_)
  ·obtain⟨v44,y44,h⟩:=bm h
   exact x_to 9 [(4,.call [] [] (bl v44) [])] (oI (Tp_l20None (Y:=Y) a0.1.2.2.2.2.1 _ y44)) (Tp_DeskOk_4 n (w64 (t3+v41)) (!v44) a0 r h) 
  ·exact x_to 11 [] oN (Tp_DeskOk_11 n (w64 (t3+v41)) a0 r h) 
def Dp_DeskOk_2(n:Nat)(t3:Int)(t35:Bool)(a0:Dk8):Option Bool :=
 frk t35 (some false) ((Dp_l8Count n a0.1.2.2.1 301).bind fun v8=>frk a0.2.2.2.2.1 ((Dp_SolidOk n a0.1.2.2.2.1).bind fun v9=>frk (!v9) (some false) (frk (!a0.2.2.2.2.1) ((Dp_l20None a0.1.2.2.2.1).bind fun v10=>Dp_DeskOk_3 n (w64 (t3+v8)) (!v10) a0) (Dp_DeskOk_12 n (w64 (t3+v8)) a0))) (frk (!a0.2.2.2.2.1) ((Dp_l20None a0.1.2.2.2.1).bind fun v45=>Dp_DeskOk_3 n (w64 (t3+v8)) (!v45) a0) (Dp_DeskOk_12 n (w64 (t3+v8)) a0)))
theorem Tp_DeskOk_2{Y}(n:Nat)(t3:Int)(t35:Bool)(a0:Dk8)(r:Bool)(h:Dp_DeskOk_2 n t3 t35 a0=some r):WT Y 65 [.code (cp [1,1,0,1,0,0,1,0,0,0,1] B65),.code (cp [1,1,0,1,0,0,1,0,0,1] B65),.blk 1,.code (cp [1,1,0,1,0,0,1,1] B65),.lp (cp [1,1,0,1,0] B65),.blk 0,.code (cp [1,1,1] B65)] (FT Tryz.f65 [] (bl r) []) ⟨[(1,.ptr 1 0),(3,iN t3),(4,iN 2),(35,bl t35)],[(1,⟨true,0,(cT52 a0)⟩)]⟩:=by
 unfold Dp_DeskOk_2 at h
 refine x_frk 0 [] oN h (fun h=>?_) (fun h=>?_)
 ·obtain rfl:=sj h
  exact x_end 4 [] [] oN oN 
 ·obtain⟨v8,y8,h⟩:=bm h
  refine x_frk 37 [(5,.call [] [] (iN v8) [])] (oI (Tp_l8Count (Y:=Y) n a0.1.2.2.1 301 _ y8)) h (fun h=>?_) (fun h=>?_)
  ·obtain⟨v9,y9,h⟩:=bm h
   refine x_frk 8 [(4,.call [] [] (bl v9) [])] (oI (Tp_SolidOk (Y:=Y) n a0.1.2.2.2.1 _ y9)) h (fun h=>?_) (fun h=>?_)
   ·obtain rfl:=sj h
    exact x_end 20 [] [] oN oN 
   ·refine x_frk 6 [] oN h (fun h=>?_) (fun h=>?_)
    ·obtain⟨v10,y10,h⟩:=bm h
     exact x_to 9 [(4,.call [] [] (bl v10) [])] (oI (Tp_l20None (Y:=Y) a0.1.2.2.2.1 _ y10)) (Tp_DeskOk_3 n (w64 (t3+v8)) (!v10) a0 r h) 
    ·exact x_to 11 [] oN (Tp_DeskOk_12 n (w64 (t3+v8)) a0 r h) 
  ·refine x_frk 14 [] oN h (fun h=>?_) (fun h=>?_)
   ·obtain⟨v45,y45,h⟩:=bm h
    exact x_to 9 [(4,.call [] [] (bl v45) [])] (oI (Tp_l20None (Y:=Y) a0.1.2.2.2.1 _ y45)) (Tp_DeskOk_3 n (w64 (t3+v8)) (!v45) a0 r h) 
   ·exact x_to 11 [] oN (Tp_DeskOk_12 n (w64 (t3+v8)) a0 r h) 
def Dp_DeskOk_13(n:Nat)(t3:Int)(a0:Dk8):Option Bool :=
 (Dp_l8Count n a0.1.2.2.1 301).bind fun v46=>frk a0.2.2.2.2.1 ((Dp_SolidOk n a0.1.2.2.2.1).bind fun v47=>frk (!v47) (some false) (frk (!a0.2.2.2.2.1) ((Dp_l20None a0.1.2.2.2.1).bind fun v48=>Dp_DeskOk_3 n (w64 (t3+v46)) (!v48) a0) (Dp_DeskOk_12 n (w64 (t3+v46)) a0))) (frk (!a0.2.2.2.2.1) ((Dp_l20None a0.1.2.2.2.1).bind fun v49=>Dp_DeskOk_3 n (w64 (t3+v46)) (!v49) a0) (Dp_DeskOk_12 n (w64 (t3+v46)) a0))
theorem Tp_DeskOk_13{Y}(n:Nat)(t3:Int)(a0:Dk8)(r:Bool)(h:Dp_DeskOk_13 n t3 a0=some r):WT Y 65 [.code (cp [1,1,0,1,0,0,1,0,0,1] B65),.blk 1,.code (cp [1,1,0,1,0,0,1,1] B65),.lp (cp [1,1,0,1,0] B65),.blk 0,.code (cp [1,1,1] B65)] (FT Tryz.f65 [] (bl r) []) ⟨[(1,.ptr 1 0),(3,iN t3),(4,iN 2)],[(1,⟨true,0,(cT52 a0)⟩)]⟩:=by
 unfold Dp_DeskOk_13 at h
 obtain⟨v46,y46,h⟩:=bm h
 refine x_frk 36 [(5,.call [] [] (iN v46) [])] (oI (Tp_l8Count (Y:=Y) n a0.1.2.2.1 301 _ y46)) h (fun h=>?_) (fun h=>?_)
 ·obtain⟨v47,y47,h⟩:=bm h
  refine x_frk 8 [(4,.call [] [] (bl v47) [])] (oI (Tp_SolidOk (Y:=Y) n a0.1.2.2.2.1 _ y47)) h (fun h=>?_) (fun h=>?_)
  ·obtain rfl:=sj h
   exact x_end 20 [] [] oN oN 
  ·refine x_frk 6 [] oN h (fun h=>?_) (fun h=>?_)
   ·obtain⟨v48,y48,h⟩:=bm h
    exact x_to 9 [(4,.call [] [] (bl v48) [])] (oI (Tp_l20None (Y:=Y) a0.1.2.2.2.1 _ y48)) (Tp_DeskOk_3 n (w64 (t3+v46)) (!v48) a0 r h) 
   ·exact x_to 11 [] oN (Tp_DeskOk_12 n (w64 (t3+v46)) a0 r h) 
 ·refine x_frk 14 [] oN h (fun h=>?_) (fun h=>?_)
  ·obtain⟨v49,y49,h⟩:=bm h
   exact x_to 9 [(4,.call [] [] (bl v49) [])] (oI (Tp_l20None (Y:=Y) a0.1.2.2.2.1 _ y49)) (Tp_DeskOk_3 n (w64 (t3+v46)) (!v49) a0 r h) 
  ·exact x_to 11 [] oN (Tp_DeskOk_12 n (w64 (t3+v46)) a0 r h) 
def Dp_DeskOk_1(n:Nat)(t3:Int)(t35:Bool)(a0:Dk8):Option Bool :=
 frk t35 (some false) ((Dp_l8Count n a0.1.2.1 301).bind fun v5=>frk a0.2.2.2.1 ((Dp_SolidOk n a0.1.2.2.1).bind fun v6=>frk (!v6) (some false) (frk (!a0.2.2.2.1) ((Dp_l20None a0.1.2.2.1).bind fun v7=>Dp_DeskOk_2 n (w64 (t3+v5)) (!v7) a0) (Dp_DeskOk_13 n (w64 (t3+v5)) a0))) (frk (!a0.2.2.2.1) ((Dp_l20None a0.1.2.2.1).bind fun v50=>Dp_DeskOk_2 n (w64 (t3+v5)) (!v50) a0) (Dp_DeskOk_13 n (w64 (t3+v5)) a0)))
theorem Tp_DeskOk_1{Y}(n:Nat)(t3:Int)(t35:Bool)(a0:Dk8)(r:Bool)(h:Dp_DeskOk_1 n t3 t35 a0=some r):WT Y 65 [.code (cp [1,1,0,1,0,0,1,0,0,0,1] B65),.code (cp [1,1,0,1,0,0,1,0,0,1] B65),.blk 1,.code (cp [1,1,0,1,0,0,1,1] B65),.lp (cp [1,1,0,1,0] B65),.blk 0,.code (cp [1,1,1] B65)] (FT Tryz.f65 [] (bl r) []) ⟨[(1,.ptr 1 0),(3,iN t3),(4,iN 1),(35,bl t35)],[(1,⟨true,0,(cT52 a0)⟩)]⟩:=by
 unfold Dp_DeskOk_1 at h
 refine x_frk 0 [] oN h (fun h=>?_) (fun h=>?_)
 ·obtain rfl:=sj h
  exact x_end 4 [] [] oN oN 
 ·obtain⟨v5,y5,h⟩:=bm h
  refine x_frk 37 [(5,.call [] [] (iN v5) [])] (oI (Tp_l8Count (Y:=Y) n a0.1.2.1 301 _ y5)) h (fun h=>?_) (fun h=>?_)
  ·obtain⟨v6,y6,h⟩:=bm h
   refine x_frk 8 [(4,.call [] [] (bl v6) [])] (oI (Tp_SolidOk (Y:=Y) n a0.1.2.2.1 _ y6)) h (fun h=>?_) (fun h=>?_)
   ·obtain rfl:=sj h
    exact x_end 20 [] [] oN oN 
   ·refine x_frk 6 [] oN h (fun h=>?_) (fun h=>?_)
    ·obtain⟨v7,y7,h⟩:=bm h
     exact x_to 9 [(4,.call [] [] (bl v7) [])] (oI (Tp_l20None (Y:=Y) a0.1.2.2.1 _ y7)) (Tp_DeskOk_2 n (w64 (t3+v5)) (!v7) a0 r h) 
    ·exact x_to 11 [] oN (Tp_DeskOk_13 n (w64 (t3+v5)) a0 r h) 
  ·refine x_frk 14 [] oN h (fun h=>?_) (fun h=>?_)
   ·obtain⟨v50,y50,h⟩:=bm h
    exact x_to 9 [(4,.call [] [] (bl v50) [])] (oI (Tp_l20None (Y:=Y) a0.1.2.2.1 _ y50)) (Tp_DeskOk_2 n (w64 (t3+v5)) (!v50) a0 r h) 
   ·exact x_to 11 [] oN (Tp_DeskOk_13 n (w64 (t3+v5)) a0 r h) 
def Dp_DeskOk_14(n:Nat)(t3:Int)(a0:Dk8):Option Bool :=
 (Dp_l8Count n a0.1.2.1 301).bind fun v51=>frk a0.2.2.2.1 ((Dp_SolidOk n a0.1.2.2.1).bind fun v52=>frk (!v52) (some false) (frk (!a0.2.2.2.1) ((Dp_l20None a0.1.2.2.1).bind fun v53=>Dp_DeskOk_2 n (w64 (t3+v51)) (!v53) a0) (Dp_DeskOk_13 n (w64 (t3+v51)) a0))) (frk (!a0.2.2.2.1) ((Dp_l20None a0.1.2.2.1).bind fun v54=>Dp_DeskOk_2 n (w64 (t3+v51)) (!v54) a0) (Dp_DeskOk_13 n (w64 (t3+v51)) a0))
theorem Tp_DeskOk_14{Y}(n:Nat)(t3:Int)(a0:Dk8)(r:Bool)(h:Dp_DeskOk_14 n t3 a0=some r):WT Y 65 [.code (cp [1,1,0,1,0,0,1,0,0,1] B65),.blk 1,.code (cp [1,1,0,1,0,0,1,1] B65),.lp (cp [1,1,0,1,0] B65),.blk 0,.code (cp [1,1,1] B65)] (FT Tryz.f65 [] (bl r) []) ⟨[(1,.ptr 1 0),(3,iN t3),(4,iN 1)],[(1,⟨true,0,(cT52 a0)⟩)]⟩:=by
 unfold Dp_DeskOk_14 at h
 obtain⟨v51,y51,h⟩:=bm h
 refine x_frk 36 [(5,.call [] [] (iN v51) [])] (oI (Tp_l8Count (Y:=Y) n a0.1.2.1 301 _ y51)) h (fun h=>?_) (fun h=>?_)
 ·obtain⟨v52,y52,h⟩:=bm h
  refine x_frk 8 [(4,.call [] [] (bl v52) [])] (oI (Tp_SolidOk (Y:=Y) n a0.1.2.2.1 _ y52)) h (fun h=>?_) (fun h=>?_)
  ·obtain rfl:=sj h
   exact x_end 20 [] [] oN oN 
  ·refine x_frk 6 [] oN h (fun h=>?_) (fun h=>?_)
   ·obtain⟨v53,y53,h⟩:=bm h
    exact x_to 9 [(4,.call [] [] (bl v53) [])] (oI (Tp_l20None (Y:=Y) a0.1.2.2.1 _ y53)) (Tp_DeskOk_2 n (w64 (t3+v51)) (!v53) a0 r h) 
   ·exact x_to 11 [] oN (Tp_DeskOk_13 n (w64 (t3+v51)) a0 r h) 
 ·refine x_frk 14 [] oN h (fun h=>?_) (fun h=>?_)
  ·obtain⟨v54,y54,h⟩:=bm h
   exact x_to 9 [(4,.call [] [] (bl v54) [])] (oI (Tp_l20None (Y:=Y) a0.1.2.2.1 _ y54)) (Tp_DeskOk_2 n (w64 (t3+v51)) (!v54) a0 r h) 
  ·exact x_to 11 [] oN (Tp_DeskOk_13 n (w64 (t3+v51)) a0 r h) 
def Dp_DeskOk_0(n:Nat)(t35:Bool)(a0:Dk8):Option Bool :=
 frk t35 (some false) ((Dp_l8Count n a0.1.1 301).bind fun v2=>frk a0.2.2.1 ((Dp_SolidOk n a0.1.2.1).bind fun v3=>frk (!v3) (some false) (frk (!a0.2.2.1) ((Dp_l20None a0.1.2.1).bind fun v4=>Dp_DeskOk_1 n (w64 (0+v2)) (!v4) a0) (Dp_DeskOk_14 n (w64 (0+v2)) a0))) (frk (!a0.2.2.1) ((Dp_l20None a0.1.2.1).bind fun v55=>Dp_DeskOk_1 n (w64 (0+v2)) (!v55) a0) (Dp_DeskOk_14 n (w64 (0+v2)) a0)))
theorem Tp_DeskOk_0{Y}(n:Nat)(t35:Bool)(a0:Dk8)(r:Bool)(h:Dp_DeskOk_0 n t35 a0=some r):WT Y 65 [.code (cp [1,1,0,1,0,0,1,0,0,0,1] B65),.code (cp [1,1,0,1,0,0,1,0,0,1] B65),.blk 1,.code (cp [1,1,0,1,0,0,1,1] B65),.lp (cp [1,1,0,1,0] B65),.blk 0,.code (cp [1,1,1] B65)] (FT Tryz.f65 [] (bl r) []) ⟨[(1,.ptr 1 0),(3,iN 0),(4,iN 0),(35,bl t35)],[(1,⟨true,0,(cT52 a0)⟩)]⟩:=by
 unfold Dp_DeskOk_0 at h
 refine x_frk 0 [] oN h (fun h=>?_) (fun h=>?_)
 ·obtain rfl:=sj h
  exact x_end 4 [] [] oN oN 
 ·obtain⟨v2,y2,h⟩:=bm h
  refine x_frk 37 [(5,.call [] [] (iN v2) [])] (oI (Tp_l8Count (Y:=Y) n a0.1.1 301 _ y2)) h (fun h=>?_) (fun h=>?_)
  ·obtain⟨v3,y3,h⟩:=bm h
   refine x_frk 8 [(4,.call [] [] (bl v3) [])] (oI (Tp_SolidOk (Y:=Y) n a0.1.2.1 _ y3)) h (fun h=>?_) (fun h=>?_)
   ·obtain rfl:=sj h
    exact x_end 20 [] [] oN oN 
   ·refine x_frk 6 [] oN h (fun h=>?_) (fun h=>?_)
    ·obtain⟨v4,y4,h⟩:=bm h
     exact x_to 9 [(4,.call [] [] (bl v4) [])] (oI (Tp_l20None (Y:=Y) a0.1.2.1 _ y4)) (Tp_DeskOk_1 n (w64 (0+v2)) (!v4) a0 r h) 
    ·exact x_to 11 [] oN (Tp_DeskOk_14 n (w64 (0+v2)) a0 r h) 
  ·refine x_frk 14 [] oN h (fun h=>?_) (fun h=>?_)
   ·obtain⟨v55,y55,h⟩:=bm h
    exact x_to 9 [(4,.call [] [] (bl v55) [])] (oI (Tp_l20None (Y:=Y) a0.1.2.1 _ y55)) (Tp_DeskOk_1 n (w64 (0+v2)) (!v55) a0 r h) 
   ·exact x_to 11 [] oN (Tp_DeskOk_14 n (w64 (0+v2)) a0 r h) 
def Dp_DeskOk_15(n:Nat)(a0:Dk8):Option Bool :=
 (Dp_l8Count n a0.1.1 301).bind fun v56=>frk a0.2.2.1 ((Dp_SolidOk n a0.1.2.1).bind fun v57=>frk (!v57) (some false) (frk (!a0.2.2.1) ((Dp_l20None a0.1.2.1).bind fun v58=>Dp_DeskOk_1 n (w64 (0+v56)) (!v58) a0) (Dp_DeskOk_14 n (w64 (0+v56)) a0))) (frk (!a0.2.2.1) ((Dp_l20None a0.1.2.1).bind fun v59=>Dp_DeskOk_1 n (w64 (0+v56)) (!v59) a0) (Dp_DeskOk_14 n (w64 (0+v56)) a0))
theorem Tp_DeskOk_15{Y}(n:Nat)(a0:Dk8)(r:Bool)(h:Dp_DeskOk_15 n a0=some r):WT Y 65 [.code (cp [1,1,0,1,0,0,1,0,0,1] B65),.blk 1,.code (cp [1,1,0,1,0,0,1,1] B65),.lp (cp [1,1,0,1,0] B65),.blk 0,.code (cp [1,1,1] B65)] (FT Tryz.f65 [] (bl r) []) ⟨[(1,.ptr 1 0),(3,iN 0),(4,iN 0)],[(1,⟨true,0,(cT52 a0)⟩)]⟩:=by
 unfold Dp_DeskOk_15 at h
 obtain⟨v56,y56,h⟩:=bm h
 refine x_frk 36 [(5,.call [] [] (iN v56) [])] (oI (Tp_l8Count (Y:=Y) n a0.1.1 301 _ y56)) h (fun h=>?_) (fun h=>?_)
 ·obtain⟨v57,y57,h⟩:=bm h
  refine x_frk 8 [(4,.call [] [] (bl v57) [])] (oI (Tp_SolidOk (Y:=Y) n a0.1.2.1 _ y57)) h (fun h=>?_) (fun h=>?_)
  ·obtain rfl:=sj h
   exact x_end 20 [] [] oN oN 
  ·refine x_frk 6 [] oN h (fun h=>?_) (fun h=>?_)
   ·obtain⟨v58,y58,h⟩:=bm h
    exact x_to 9 [(4,.call [] [] (bl v58) [])] (oI (Tp_l20None (Y:=Y) a0.1.2.1 _ y58)) (Tp_DeskOk_1 n (w64 (0+v56)) (!v58) a0 r h) 
   ·exact x_to 11 [] oN (Tp_DeskOk_14 n (w64 (0+v56)) a0 r h) 
 ·refine x_frk 14 [] oN h (fun h=>?_) (fun h=>?_)
  ·obtain⟨v59,y59,h⟩:=bm h
   exact x_to 9 [(4,.call [] [] (bl v59) [])] (oI (Tp_l20None (Y:=Y) a0.1.2.1 _ y59)) (Tp_DeskOk_1 n (w64 (0+v56)) (!v59) a0 r h) 
  ·exact x_to 11 [] oN (Tp_DeskOk_14 n (w64 (0+v56)) a0 r h) 
def Dp_DeskOk(n:Nat)(a0:Dk8):Option Bool :=
 frk a0.2.1 ((Dp_SolidOk n a0.1.1).bind fun v0=>frk (!v0) (some false) (frk (!a0.2.1) ((Dp_l20None a0.1.1).bind fun v1=>Dp_DeskOk_0 n (!v1) a0) (Dp_DeskOk_15 n a0))) (frk (!a0.2.1) ((Dp_l20None a0.1.1).bind fun v60=>Dp_DeskOk_0 n (!v60) a0) (Dp_DeskOk_15 n a0))
theorem Tp_DeskOk{Y}(n:Nat)(a0:Dk8)(r:Bool)(h:Dp_DeskOk n a0=some r):BT Y (.call 65 [.agg (cT52 a0)] (lk []) (bl r) (lk [])):=by
 unfold Dp_DeskOk at h
 refine x_call (fn:=Tryz.f65) (c:=B65) (bs0:=[]) Tryz.func65 (by kernel_rfl) (by kernel_rfl) ?_
 refine x_frk 34 [] oN h (fun h=>?_) (fun h=>?_)
 ·obtain⟨v0,y0,h⟩:=bm h
  refine x_frk 8 [(4,.call [] [] (bl v0) [])] (oI (Tp_SolidOk (Y:=Y) n a0.1.1 _ y0)) h (fun h=>?_) (fun h=>?_)
  ·obtain rfl:=sj h
   exact x_end 20 [] [] oN oN 
  ·refine x_frk 6 [] oN h (fun h=>?_) (fun h=>?_)
   ·obtain⟨v1,y1,h⟩:=bm h
    exact x_to 9 [(4,.call [] [] (bl v1) [])] (oI (Tp_l20None (Y:=Y) a0.1.1 _ y1)) (Tp_DeskOk_0 n (!v1) a0 r h) 
   ·exact x_to 11 [] oN (Tp_DeskOk_15 n a0 r h) 
 ·refine x_frk 14 [] oN h (fun h=>?_) (fun h=>?_)
  ·obtain⟨v60,y60,h⟩:=bm h
   exact x_to 9 [(4,.call [] [] (bl v60) [])] (oI (Tp_l20None (Y:=Y) a0.1.1 _ y60)) (Tp_DeskOk_0 n (!v60) a0 r h) 
  ·exact x_to 11 [] oN (Tp_DeskOk_15 n a0 r h) 
def Dp_l20At(a0:Int):Option Bool :=
 (Dp_l1In a0 0 7).bind fun v0=>some v0
theorem Tp_l20At{Y}(a0:Int)(r:Bool)(h:Dp_l20At a0=some r):BT Y (.call 66 [iN a0] (lk []) (bl r) (lk [])):=by
 unfold Dp_l20At at h
 refine x_call (fn:=Tryz.f66) (c:=B66) (bs0:=[]) Tryz.func66 (by kernel_rfl) (by kernel_rfl) ?_
 obtain⟨v0,y0,h⟩:=bm h
 obtain rfl:=sj h
 exact x_end 10 [(2,.call [] [] (bl v0) [])] [] (oI (Tp_l1In (Y:=Y) a0 0 7 _ y0)) oN 
def Dp_Drop_1(_n:Nat)(t1:Int)(t19:Bool)(v0:Dk8):Option (Dk8×Int) :=
 frk t19 (some (v0,2)) (frk (t1==0) (some ((((Sol.mk false (Pl.mk 0 0 0 0) []),v0.1.2.1,v0.1.2.2.1,v0.1.2.2.2.1,v0.1.2.2.2.2.1,v0.1.2.2.2.2.2.1,v0.1.2.2.2.2.2.2.1,v0.1.2.2.2.2.2.2.2),(false,v0.2.2.1,v0.2.2.2.1,v0.2.2.2.2.1,v0.2.2.2.2.2.1,v0.2.2.2.2.2.2.1,v0.2.2.2.2.2.2.2.1,v0.2.2.2.2.2.2.2.2)),0)) (frk (t1==1) (some (((v0.1.1,(Sol.mk false (Pl.mk 0 0 0 0) []),v0.1.2.2.1,v0.1.2.2.2.1,v0.1.2.2.2.2.1,v0.1.2.2.2.2.2.1,v0.1.2.2.2.2.2.2.1,v0.1.2.2.2.2.2.2.2),(v0.2.1,false,v0.2.2.2.1,v0.2.2.2.2.1,v0.2.2.2.2.2.1,v0.2.2.2.2.2.2.1,v0.2.2.2.2.2.2.2.1,v0.2.2.2.2.2.2.2.2)),0)) (frk (t1==2) (some (((v0.1.1,v0.1.2.1,(Sol.mk false (Pl.mk 0 0 0 0) []),v0.1.2.2.2.1,v0.1.2.2.2.2.1,v0.1.2.2.2.2.2.1,v0.1.2.2.2.2.2.2.1,v0.1.2.2.2.2.2.2.2),(v0.2.1,v0.2.2.1,false,v0.2.2.2.2.1,v0.2.2.2.2.2.1,v0.2.2.2.2.2.2.1,v0.2.2.2.2.2.2.2.1,v0.2.2.2.2.2.2.2.2)),0)) (frk (t1==3) (some (((v0.1.1,v0.1.2.1,v0.1.2.2.1,(Sol.mk false (Pl.mk 0 0 0 0) []),v0.1.2.2.2.2.1,v0.1.2.2.2.2.2.1,v0.1.2.2.2.2.2.2.1,v0.1.2.2.2.2.2.2.2),(v0.2.1,v0.2.2.1,v0.2.2.2.1,false,v0.2.2.2.2.2.1,v0.2.2.2.2.2.2.1,v0.2.2.2.2.2.2.2.1,v0.2.2.2.2.2.2.2.2)),0)) (frk (t1==4) (some (((v0.1.1,v0.1.2.1,v0.1.2.2.1,v0.1.2.2.2.1,(Sol.mk false (Pl.mk 0 0 0 0) []),v0.1.2.2.2.2.2.1,v0.1.2.2.2.2.2.2.1,v0.1.2.2.2.2.2.2.2),(v0.2.1,v0.2.2.1,v0.2.2.2.1,v0.2.2.2.2.1,false,v0.2.2.2.2.2.2.1,v0.2.2.2.2.2.2.2.1,v0.2.2.2.2.2.2.2.2)),0)) (frk (t1==5) (some (((v0.1.1,v0.1.2.1,v0.1.2.2.1,v0.1.2.2.2.1,v0.1.2.2.2.2.1,(Sol.mk false (Pl.mk 0 0 0 0) []),v0.1.2.2.2.2.2.2.1,v0.1.2.2.2.2.2.2.2),(v0.2.1,v0.2.2.1,v0.2.2.2.1,v0.2.2.2.2.1,v0.2.2.2.2.2.1,false,v0.2.2.2.2.2.2.2.1,v0.2.2.2.2.2.2.2.2)),0)) (frk (t1==6) (some (((v0.1.1,v0.1.2.1,v0.1.2.2.1,v0.1.2.2.2.1,v0.1.2.2.2.2.1,v0.1.2.2.2.2.2.1,(Sol.mk false (Pl.mk 0 0 0 0) []),v0.1.2.2.2.2.2.2.2),(v0.2.1,v0.2.2.1,v0.2.2.2.1,v0.2.2.2.2.1,v0.2.2.2.2.2.1,v0.2.2.2.2.2.2.1,false,v0.2.2.2.2.2.2.2.2)),0)) (frk (t1==7) (some (((v0.1.1,v0.1.2.1,v0.1.2.2.1,v0.1.2.2.2.1,v0.1.2.2.2.2.1,v0.1.2.2.2.2.2.1,v0.1.2.2.2.2.2.2.1,(Sol.mk false (Pl.mk 0 0 0 0) [])),(v0.2.1,v0.2.2.1,v0.2.2.2.1,v0.2.2.2.2.1,v0.2.2.2.2.2.1,v0.2.2.2.2.2.2.1,v0.2.2.2.2.2.2.2.1,false)),0)) (none)))))))))
theorem Tp_Drop_1{Y}(n:Nat)(t1:Int)(t19:Bool)(v0:Dk8)(r:(Dk8×Int))(h:Dp_Drop_1 n t1 t19 v0=some r):WT Y 117 [.code (cp [1,1,0,0,1,1,1] B117),.blk 0,.code (cp [1,1,1] B117)] (FT Tryz.f117 [] (.tup [.agg (cT52o r.1),iN r.2]) []) ⟨[(1,iN t1),(4,.ptr 4 0),(6,.ptr 6 0),(19,bl t19)],[(4,⟨true,0,zD⟩),(6,⟨true,0,(cT52o v0)⟩)]⟩:=by
 unfold Dp_Drop_1 at h
 refine x_frk 0 [] oN h (fun h=>?_) (fun h=>?_)
 ·obtain rfl:=sj h
  exact x_end 6 [] [] oN oN 
 ·refine x_pt 7 [] oN (by kernel_rfl) ?_
  iterate 8
   rcases frk_eq h with ⟨hc,hk1⟩ | h
   ·subst hc
    replace h:=hk1
    obtain rfl:=sj h
    exact x_end 16 [] [(true,6)] oN oN 
  exact absurd h (by simp)
def Dp_Drop_0(n:Nat)(t1:Int)(t9:Bool)(a0:Dk8)(v0:Dk8):Option (Dk8×Int) :=
 frk t9 (some (v0,1)) (frk (t1==0) (Dp_Drop_1 n 0 (!a0.2.1) v0) (frk (t1==1) (Dp_Drop_1 n 1 (!a0.2.2.1) v0) (frk (t1==2) (Dp_Drop_1 n 2 (!a0.2.2.2.1) v0) (frk (t1==3) (Dp_Drop_1 n 3 (!a0.2.2.2.2.1) v0) (frk (t1==4) (Dp_Drop_1 n 4 (!a0.2.2.2.2.2.1) v0) (frk (t1==5) (Dp_Drop_1 n 5 (!a0.2.2.2.2.2.2.1) v0) (frk (t1==6) (Dp_Drop_1 n 6 (!a0.2.2.2.2.2.2.2.1) v0) (frk (t1==7) (Dp_Drop_1 n 7 (!a0.2.2.2.2.2.2.2.2) v0) (none)))))))))
theorem Tp_Drop_0{Y}(n:Nat)(t1:Int)(t9:Bool)(a0:Dk8)(v0:Dk8)(r:(Dk8×Int))(h:Dp_Drop_0 n t1 t9 a0 v0=some r):WT Y 117 [.code (cp [1,1,0,0,1] B117),.blk 0,.code (cp [1,1,1] B117)] (FT Tryz.f117 [] (.tup [.agg (cT52o r.1),iN r.2]) []) ⟨[(1,iN t1),(2,.ptr 2 0),(4,.ptr 4 0),(6,.ptr 6 0),(9,bl t9)],[(2,⟨true,0,(cT52 a0)⟩),(4,⟨true,0,zD⟩),(6,⟨true,0,(cT52o v0)⟩)]⟩:=by
 unfold Dp_Drop_0 at h
 refine x_frk 0 [] oN h (fun h=>?_) (fun h=>?_)
 ·obtain rfl:=sj h
  exact x_end 6 [] [] oN oN 
 ·refine x_pt 4 [] oN (by kernel_rfl) ?_
  rcases frk_eq h with ⟨hc,hk2⟩ | h
  ·subst hc
   replace h:=hk2
   exact x_to 5 [] oN (Tp_Drop_1 n 0 (!a0.2.1) v0 r h) 
  rcases frk_eq h with ⟨hc,hk3⟩ | h
  ·subst hc
   replace h:=hk3
   exact x_to 5 [] oN (Tp_Drop_1 n 1 (!a0.2.2.1) v0 r h) 
  rcases frk_eq h with ⟨hc,hk4⟩ | h
  ·subst hc
   replace h:=hk4
   exact x_to 5 [] oN (Tp_Drop_1 n 2 (!a0.2.2.2.1) v0 r h) 
  rcases frk_eq h with ⟨hc,hk5⟩ | h
  ·subst hc
   replace h:=hk5
   exact x_to 5 [] oN (Tp_Drop_1 n 3 (!a0.2.2.2.2.1) v0 r h) 
  rcases frk_eq h with ⟨hc,hk6⟩ | h
  ·subst hc
   replace h:=hk6
   exact x_to 5 [] oN (Tp_Drop_1 n 4 (!a0.2.2.2.2.2.1) v0 r h) 
  rcases frk_eq h with ⟨hc,hk7⟩ | h
  ·subst hc
   replace h:=hk7
   exact x_to 5 [] oN (Tp_Drop_1 n 5 (!a0.2.2.2.2.2.2.1) v0 r h) 
  rcases frk_eq h with ⟨hc,hk8⟩ | h
  ·subst hc
   replace h:=hk8
   exact x_to 5 [] oN (Tp_Drop_1 n 6 (!a0.2.2.2.2.2.2.2.1) v0 r h) 
  rcases frk_eq h with ⟨hc,hk9⟩ | h
  ·subst hc
   replace h:=hk9
   exact x_to 5 [] oN (Tp_Drop_1 n 7 (!a0.2.2.2.2.2.2.2.2) v0 r h) 
  exact absurd h (by simp)
def Dp_Drop(n:Nat)(a0:Dk8)(a1:Int):Option (Dk8×Int) :=
 (Dp_l20Copy n a0).bind fun v0=>(Dp_DeskOk n a0).bind fun v1=>frk (!v1) (some (v0,1)) ((Dp_l20At a1).bind fun v2=>Dp_Drop_0 n a1 (!v2) a0 v0)
theorem Tp_Drop{Y}(n:Nat)(a0:Dk8)(a1:Int)(r:(Dk8×Int))(h:Dp_Drop n a0 a1=some r):BT Y (.call 117 [.agg (cT52 a0),iN a1] (lk []) (.tup [.agg (cT52o r.1),iN r.2]) (lk [])):=by
 unfold Dp_Drop at h
 refine x_call (fn:=Tryz.f117) (c:=B117) (bs0:=[]) Tryz.func117 (by kernel_rfl) (by kernel_rfl) ?_
 obtain⟨v0,y0,h⟩:=bm h
 obtain⟨v1,y1,h⟩:=bm h
 refine x_frk 21 [(4,.call [] [] (.agg (cT52o v0)) []),(3,.call [] [] (bl v1) [])] (oC (Tp_l20Copy (Y:=Y) n a0 _ y0) (oI (Tp_DeskOk (Y:=Y) n a0 _ y1))) h (fun h=>?_) (fun h=>?_)
 ·obtain rfl:=sj h
  exact x_end 13 [] [] oN oN 
 ·obtain⟨v2,y2,h⟩:=bm h
  exact x_to 6 [(1,.call [] [] (bl v2) [])] (oI (Tp_l20At (Y:=Y) a1 _ y2)) (Tp_Drop_0 n a1 (!v2) a0 v0 r h) 
def Dp_Leaf(a0:Bool):Option Sol :=
 some (Sol.mk a0 (Pl.mk 0 0 0 0) [])
theorem Tp_Leaf{Y}(a0:Bool)(r:Sol)(h:Dp_Leaf a0=some r):BT Y (.call 96 [bl a0] (lk []) (eS r) (lk [])):=by
 unfold Dp_Leaf at h
 refine x_call (fn:=Tryz.f96) (c:=B96) (bs0:=[]) Tryz.func96 (by kernel_rfl) (by kernel_rfl) ?_
 obtain rfl:=sj h
 exact x_end 10 [] [(true,6)] oN oN 
def Dp_l11In(a0:Int)(a1 a2:Bool):Option Bool :=
 frk (a0==1) (frk a1 (some a2) (some false)) (frk (a0==2) (frk a1 (some true) (some a2)) (frk (a0==3) (frk a1 (some (!a2)) (some false)) (some (!(a1==a2)))))
theorem Tp_l11In{Y}(a0:Int)(a1 a2 r:Bool)(h:Dp_l11In a0 a1 a2=some r):BT Y (.call 194 [iN a0,bl a1,bl a2] (lk []) (bl r) (lk [])):=by
 unfold Dp_l11In at h
 refine x_call (fn:=Tryz.f194) (c:=B194) (bs0:=[]) Tryz.func194 (by kernel_rfl) (by kernel_rfl) ?_
 refine x_frk 15 [] oN h (fun h=>?_) (fun h=>?_)
 ·refine x_frk 4 [] oN h (fun h=>?_) (fun h=>?_)
  ·obtain rfl:=sj h
   exact x_end 4 [] [] oN oN 
  ·obtain rfl:=sj h
   exact x_end 4 [] [] oN oN 
 ·refine x_frk 5 [] oN h (fun h=>?_) (fun h=>?_)
  ·refine x_frk 4 [] oN h (fun h=>?_) (fun h=>?_)
   ·obtain rfl:=sj h
    exact x_end 4 [] [] oN oN 
   ·obtain rfl:=sj h
    exact x_end 4 [] [] oN oN 
  ·refine x_frk 5 [] oN h (fun h=>?_) (fun h=>?_)
   ·refine x_frk 4 [] oN h (fun h=>?_) (fun h=>?_)
    ·obtain rfl:=sj h
     exact x_end 5 [] [] oN oN 
    ·obtain rfl:=sj h
     exact x_end 5 [] [] oN oN 
   ·obtain rfl:=sj h
    exact x_end 9 [] [] oN oN 
def Dp_l8Nodeo1o2(a0:Pl)(a1:Sol)(a2:Sol):Option Sol :=
 some (Sol.mk false a0 [a1,a2])
theorem Tp_l8Nodeo1o2{Y}(a0:Pl)(a1:Sol)(a2:Sol)(r:Sol)(h:Dp_l8Nodeo1o2 a0 a1 a2=some r):BT Y (.call 95 [.agg [iN a0.A,iN a0.B,iN a0.C,iN a0.D],eS a1,eS a2] (lk []) (eS r) (lk [])):=by
 unfold Dp_l8Nodeo1o2 at h
 refine x_call (fn:=Tryz.f95) (c:=B95) (bs0:=[]) Tryz.func95 (by kernel_rfl) (by kernel_rfl) ?_
 obtain rfl:=sj h
 exact x_end 17 [(8,.fixb 10 ⟨true,6,(eSol true).f [a1,a2]⟩)] [] (oI (boxSol true true [a1,a2])) (oI (len_row (L:=[a1,a2]) (eSol true))) 
def Dp_l11Nodeo1o2_0(t19:Bool)(zl zm zn zo:Int)(zr:Bool)(zs zt zu zai:Int)(zaj:List Sol)(zv:Bool)(zw zx zy zak:Int)(zal:List Sol)(_zam:Bool)(_zan _zao _zap _zaq:Int):Option Sol :=
 frk t19 ((Dp_Leaf zr).bind fun v2=>some v2) ((Dp_l8Nodeo1o2 (Pl.mk zl zm zn zo) (Sol.mk zr (Pl.mk zs zt zu zai) zaj) (Sol.mk zv (Pl.mk zw zx zy zak) zal)).bind fun v3=>some v3)
theorem Tp_l11Nodeo1o2_0{Y}(t19:Bool)(zl zm zn zo:Int)(zr:Bool)(zs zt zu zai:Int)(zaj:List Sol)(zv:Bool)(zw zx zy zak:Int)(zal:List Sol)(zam:Bool)(zan zao zap zaq:Int)(r:Sol)(h:Dp_l11Nodeo1o2_0 t19 zl zm zn zo zr zs zt zu zai zaj zv zw zx zy zak zal zam zan zao zap zaq=some r):WT Y 190 [.code (cp [1,0,1] B190),.code (cp [1,1] B190)] (FT Tryz.f190 [] (eS r) []) ⟨[(3,.ptr 3 0),(4,.ptr 4 0),(5,.ptr 5 0),(6,.ptr 6 0),(19,bl t19)],[(3,⟨true,0,[iN zl,iN zm,iN zn,iN zo]⟩),(4,⟨true,0,[bl zr,iN zs,iN zt,iN zu,iN zai,.sl true 6 zaj.length ((eSol true).f zaj)]⟩),(5,⟨true,0,[bl zv,iN zw,iN zx,iN zy,iN zak,.sl true 6 zal.length ((eSol true).f zal)]⟩),(6,⟨true,0,[bl zam,iN zan,iN zao,iN zap,iN zaq,.nil]⟩)]⟩:=by
 unfold Dp_l11Nodeo1o2_0 at h
 refine x_frk 0 [] oN h (fun h=>?_) (fun h=>?_)
 ·obtain⟨v2,y2,h⟩:=bm h
  obtain rfl:=sj h
  exact x_end 7 [(2,.call [] [] (eS v2) [])] [] (oI (Tp_Leaf (Y:=Y) zr _ y2)) oN 
 ·obtain⟨v3,y3,h⟩:=bm h
  obtain rfl:=sj h
  exact x_end 9 [(3,.call [] [] (eS v3) [])] [] (oI (Tp_l8Nodeo1o2 (Y:=Y) (Pl.mk zl zm zn zo) (Sol.mk zr (Pl.mk zs zt zu zai) zaj) (Sol.mk zv (Pl.mk zw zx zy zak) zal) _ y3)) oN 
def Dp_l11Nodeo1o2_1(zl zm zn zo:Int)(zr:Bool)(zs zt zu zai:Int)(zaj:List Sol)(zv:Bool)(zw zx zy zak:Int)(zal:List Sol)(_zam:Bool)(_zan _zao _zap _zaq:Int):Option Sol :=
 (Dp_l8Nodeo1o2 (Pl.mk zl zm zn zo) (Sol.mk zr (Pl.mk zs zt zu zai) zaj) (Sol.mk zv (Pl.mk zw zx zy zak) zal)).bind fun v4=>some v4
theorem Tp_l11Nodeo1o2_1{Y}(zl zm zn zo:Int)(zr:Bool)(zs zt zu zai:Int)(zaj:List Sol)(zv:Bool)(zw zx zy zak:Int)(zal:List Sol)(zam:Bool)(zan zao zap zaq:Int)(r:Sol)(h:Dp_l11Nodeo1o2_1 zl zm zn zo zr zs zt zu zai zaj zv zw zx zy zak zal zam zan zao zap zaq=some r):WT Y 190 [.code (cp [1,1,0] B190),.code (cp [1,1,1] B190)] (FT Tryz.f190 [] (eS r) []) ⟨[(3,.ptr 3 0),(4,.ptr 4 0),(5,.ptr 5 0),(6,.ptr 6 0)],[(3,⟨true,0,[iN zl,iN zm,iN zn,iN zo]⟩),(4,⟨true,0,[bl zr,iN zs,iN zt,iN zu,iN zai,.sl true 6 zaj.length ((eSol true).f zaj)]⟩),(5,⟨true,0,[bl zv,iN zw,iN zx,iN zy,iN zak,.sl true 6 zal.length ((eSol true).f zal)]⟩),(6,⟨true,0,[bl zam,iN zan,iN zao,iN zap,iN zaq,.nil]⟩)]⟩:=by
 unfold Dp_l11Nodeo1o2_1 at h
 obtain⟨v4,y4,h⟩:=bm h
 obtain rfl:=sj h
 exact x_end 7 [(3,.call [] [] (eS v4) [])] [] (oI (Tp_l8Nodeo1o2 (Y:=Y) (Pl.mk zl zm zn zo) (Sol.mk zr (Pl.mk zs zt zu zai) zaj) (Sol.mk zv (Pl.mk zw zx zy zak) zal) _ y4)) oN 
def Dp_l11Nodeo1o2(a0:Pl)(a1:Sol)(a2:Sol):Option Sol :=
 (Dp_l8Leaf a1).bind fun v0=>frk v0 ((Dp_l8Leaf a2).bind fun v1=>frk v1 (Dp_l11Nodeo1o2_0 (a1.inn==a2.inn) a0.A a0.B a0.C a0.D a1.inn a1.pl.A a1.pl.B a1.pl.C a1.pl.D a1.kids a2.inn a2.pl.A a2.pl.B a2.pl.C a2.pl.D a2.kids false 0 0 0 0) (Dp_l11Nodeo1o2_1 a0.A a0.B a0.C a0.D a1.inn a1.pl.A a1.pl.B a1.pl.C a1.pl.D a1.kids a2.inn a2.pl.A a2.pl.B a2.pl.C a2.pl.D a2.kids false 0 0 0 0)) (Dp_l11Nodeo1o2_1 a0.A a0.B a0.C a0.D a1.inn a1.pl.A a1.pl.B a1.pl.C a1.pl.D a1.kids a2.inn a2.pl.A a2.pl.B a2.pl.C a2.pl.D a2.kids false 0 0 0 0)
theorem Tp_l11Nodeo1o2{Y}(a0:Pl)(a1:Sol)(a2:Sol)(r:Sol)(h:Dp_l11Nodeo1o2 a0 a1 a2=some r):BT Y (.call 190 [.agg [iN a0.A,iN a0.B,iN a0.C,iN a0.D],eS a1,eS a2] (lk []) (eS r) (lk [])):=by
 unfold Dp_l11Nodeo1o2 at h
 refine x_call (fn:=Tryz.f190) (c:=B190) (bs0:=[]) Tryz.func190 (by kernel_rfl) (by kernel_rfl) ?_
 obtain⟨v0,y0,h⟩:=bm h
 refine x_frk 13 [(4,.rows [(eSol false).f a1.kids]),(0,.call [] [] (bl v0) [])] (oC (Enc.share (eSol true) (eSol false) (sSol true) a1.kids) (oI (Tp_l8Leaf (Y:=Y) a1 _ y0))) h (fun h=>?_) (fun h=>?_)
 ·obtain⟨v1,y1,h⟩:=bm h
  refine x_frk 4 [(0,.rows [(eSol false).f a2.kids]),(0,.call [] [] (bl v1) [])] (oC (Enc.share (eSol true) (eSol false) (sSol true) a2.kids) (oI (Tp_l8Leaf (Y:=Y) a2 _ y1))) h (fun h=>?_) (fun h=>?_)
  ·exact x_to 7 [] oN (Tp_l11Nodeo1o2_0 (a1.inn==a2.inn) a0.A a0.B a0.C a0.D a1.inn a1.pl.A a1.pl.B a1.pl.C a1.pl.D a1.kids a2.inn a2.pl.A a2.pl.B a2.pl.C a2.pl.D a2.kids false 0 0 0 0 r h) 
  ·exact x_to 10 [] oN (Tp_l11Nodeo1o2_1 a0.A a0.B a0.C a0.D a1.inn a1.pl.A a1.pl.B a1.pl.C a1.pl.D a1.kids a2.inn a2.pl.A a2.pl.B a2.pl.C a2.pl.D a2.kids false 0 0 0 0 r h) 
 ·exact x_to 14 [] oN (Tp_l11Nodeo1o2_1 a0.A a0.B a0.C a0.D a1.inn a1.pl.A a1.pl.B a1.pl.C a1.pl.D a1.kids a2.inn a2.pl.A a2.pl.B a2.pl.C a2.pl.D a2.kids false 0 0 0 0 r h) 
def Dp_l11Take_2(_n:Nat)(_self1:((Int×Bool)×Bool×Sol×(List Pl))→Option (Sol×(Int×Bool)))(_zac:Bool)(_zad _zae _zar _zas zat:Int)(zau:Bool):Option (Sol×(Int×Bool)) :=
 (Dp_Leaf false).bind fun v10=>some (v10,(zat,zau))
theorem Tp_l11Take_2{Y}(n:Nat)(self1:((Int×Bool)×Bool×Sol×(List Pl))→Option (Sol×(Int×Bool)))(_hself1:∀(a:((Int×Bool)×Bool×Sol×(List Pl))) (r:(Sol×(Int×Bool))),self1 a=some r→BT Y (.call 189 [.ptr 1000 0,bl a.2.1,eF a.2.2.1,.sl false 4 a.2.2.2.length ((ePl).f a.2.2.2)] (lk [(1000,⟨true,0,[iN a.1.1,bl a.1.2]⟩)]) (eS r.1) (lk [(1000,⟨true,0,[iN r.2.1,bl r.2.2]⟩)])))(zac:Bool)(zad zae zar zas zat:Int)(zau:Bool)(r:(Sol×(Int×Bool)))(h:Dp_l11Take_2 n self1 zac zad zae zar zas zat zau=some r):WT Y 189 [.code (cp [1,1,1,1,0,0,1,1,1,1,1,0,1,0] B189),.code (cp [1,1,1,1,0,0,1,1,1,1,1,0,1,1] B189),.blk 0,.code (cp [1,1,1,1,1] B189)] (FT Tryz.f189 [(1000,⟨true,0,[.bad,.bad]⟩)] (eS r.1) [(1000,⟨true,0,[iN r.2.1,bl r.2.2]⟩)]) ⟨[(8,.ptr 8 0)],[(8,⟨true,0,[bl zac,iN zad,iN zae,iN zar,iN zas,.nil]⟩),(1000,⟨true,0,[iN zat,bl zau]⟩)]⟩:=by
 unfold Dp_l11Take_2 at h
 obtain⟨v10,y10,h⟩:=bm h
 obtain rfl:=sj h
 exact x_end 4 [(0,.call [] [] (eS v10) [])] [] (oI (Tp_Leaf (Y:=Y) false _ y10)) oN 
def Dp_l11Take_3(_n:Nat)(self1:((Int×Bool)×Bool×Sol×(List Pl))→Option (Sol×(Int×Bool)))(t1:Bool)(t3:List Pl)(t62 _zam:Bool)(zan zao zap zaq:Int)(zav:List Sol)(_zac:Bool)(_zad _zae _zar _zas zat:Int)(zau:Bool):Option (Sol×(Int×Bool)) :=
 frk t62 ((Dp_Leaf false).bind fun v11=>some (v11,(zat,true))) ((lget zav 0).bind fun v12=>(Dp_l8Path t3 (Pl.mk zan zao zap zaq)).bind fun v13=>(self1 ((zat,zau),t1,v12,v13)).bind fun v14=>(lget zav 1).bind fun v15=>(Dp_l3Flip (Pl.mk zan zao zap zaq)).bind fun v16=>(Dp_l8Path t3 v16).bind fun v17=>(self1 (v14.2,t1,v15,v17)).bind fun v18=>(Dp_l11Nodeo1o2 (Pl.mk zan zao zap zaq) v14.1 v18.1).bind fun v19=>some (v19,v18.2))
theorem Tp_l11Take_3{Y}(n:Nat)(self1:((Int×Bool)×Bool×Sol×(List Pl))→Option (Sol×(Int×Bool)))(hself1:∀(a:((Int×Bool)×Bool×Sol×(List Pl))) (r:(Sol×(Int×Bool))),self1 a=some r→BT Y (.call 189 [.ptr 1000 0,bl a.2.1,eF a.2.2.1,.sl false 4 a.2.2.2.length ((ePl).f a.2.2.2)] (lk [(1000,⟨true,0,[iN a.1.1,bl a.1.2]⟩)]) (eS r.1) (lk [(1000,⟨true,0,[iN r.2.1,bl r.2.2]⟩)])))(t1:Bool)(t3:List Pl)(t62 zam:Bool)(zan zao zap zaq:Int)(zav:List Sol)(zac:Bool)(zad zae zar zas zat:Int)(zau:Bool)(r:(Sol×(Int×Bool)))(h:Dp_l11Take_3 n self1 t1 t3 t62 zam zan zao zap zaq zav zac zad zae zar zas zat zau=some r):WT Y 189 [.code (cp [1,1,1,1,0,0,1,1,1,1,1] B189),.blk 0,.code (cp [1,1,1,1,1] B189)] (FT Tryz.f189 [(1000,⟨true,0,[.bad,.bad]⟩)] (eS r.1) [(1000,⟨true,0,[iN r.2.1,bl r.2.2]⟩)]) ⟨[(0,.ptr 1000 0),(1,bl t1),(3,.sl false 4 t3.length ((ePl).f t3)),(6,.ptr 6 0),(8,.ptr 8 0),(62,bl t62)],[(6,⟨true,0,[bl zam,iN zan,iN zao,iN zap,iN zaq,.sl false 6 zav.length ((eSol false).f zav)]⟩),(8,⟨true,0,[bl zac,iN zad,iN zae,iN zar,iN zas,.nil]⟩),(1000,⟨true,0,[iN zat,bl zau]⟩)]⟩:=by
 unfold Dp_l11Take_3 at h
 refine x_frk 0 [] oN h (fun h=>?_) (fun h=>?_)
 ·obtain⟨v11,y11,h⟩:=bm h
  obtain rfl:=sj h
  exact x_end 12 [(4,.call [] [] (eS v11) [])] [] (oI (Tp_Leaf (Y:=Y) false _ y11)) oN 
 ·obtain⟨v12,y12,h⟩:=bm h
  obtain⟨v13,y13,h⟩:=bm h
  obtain⟨v14,y14,h⟩:=bm h
  obtain⟨v15,y15,h⟩:=bm h
  obtain⟨v16,y16,h⟩:=bm h
  obtain⟨v17,y17,h⟩:=bm h
  obtain⟨v18,y18,h⟩:=bm h
  obtain⟨v19,y19,h⟩:=bm h
  obtain rfl:=sj h
  exact x_end 38 [(4,.val (.cptr ((eSol false).c v12++(eSol false).f ((zav).drop (Int.toNat 0+1))))),(4,.call [] [] (.sl false 4 v13.length ((ePl).f v13)) []),(0,.call [] [] (eS v14.1) [(1000,⟨true,0,[iN v14.2.1,bl v14.2.2]⟩)]),(9,.val (.cptr ((eSol false).c v15++(eSol false).f ((zav).drop (Int.toNat 1+1))))),(4,.call [] [] (.agg [iN v16.A,iN v16.B,iN v16.C,iN v16.D]) []),(0,.call [] [] (.sl false 4 v17.length ((ePl).f v17)) []),(0,.call [] [] (eS v18.1) [(1000,⟨true,0,[iN v18.2.1,bl v18.2.2]⟩)]),(0,.call [] [] (eS v19) [])] [] (oC (ix (eSol false) y12) (oC (shSl (L:=v13) ePl ePl sPl (Tp_l8Path (Y:=Y) t3 (Pl.mk zan zao zap zaq) _ y13)) (oC (hself1 ((zat,zau),t1,v12,v13) _ y14) (oC (ix (eSol false) y15) (oC (Tp_l3Flip (Y:=Y) (Pl.mk zan zao zap zaq) _ y16) (oC (shSl (L:=v17) ePl ePl sPl (Tp_l8Path (Y:=Y) t3 v16 _ y17)) (oC (hself1 (v14.2,t1,v15,v17) _ y18) (oI (Tp_l11Nodeo1o2 (Y:=Y) (Pl.mk zan zao zap zaq) v14.1 v18.1 _ y19))))))))) oN 
def Dp_l11Take_1(n:Nat)(self1:((Int×Bool)×Bool×Sol×(List Pl))→Option (Sol×(Int×Bool)))(t1:Bool)(t3:List Pl)(t48 zam:Bool)(zan zao zap zaq:Int)(zav:List Sol)(zac:Bool)(zad zae zar zas zat:Int)(zau:Bool):Option (Sol×(Int×Bool)) :=
 frk t48 ((lget zav 1).bind fun v8=>(self1 ((zat,zau),t1,v8,t3)).bind fun v9=>some v9) (frk zau (Dp_l11Take_2 n self1 zac zad zae zar zas zat true) (Dp_l11Take_3 n self1 t1 t3 ((t3.length:Int)==24) zam zan zao zap zaq zav zac zad zae zar zas zat zau))
theorem Tp_l11Take_1{Y}(n:Nat)(self1:((Int×Bool)×Bool×Sol×(List Pl))→Option (Sol×(Int×Bool)))(hself1:∀(a:((Int×Bool)×Bool×Sol×(List Pl))) (r:(Sol×(Int×Bool))),self1 a=some r→BT Y (.call 189 [.ptr 1000 0,bl a.2.1,eF a.2.2.1,.sl false 4 a.2.2.2.length ((ePl).f a.2.2.2)] (lk [(1000,⟨true,0,[iN a.1.1,bl a.1.2]⟩)]) (eS r.1) (lk [(1000,⟨true,0,[iN r.2.1,bl r.2.2]⟩)])))(t1:Bool)(t3:List Pl)(t48 zam:Bool)(zan zao zap zaq:Int)(zav:List Sol)(zac:Bool)(zad zae zar zas zat:Int)(zau:Bool)(r:(Sol×(Int×Bool)))(h:Dp_l11Take_1 n self1 t1 t3 t48 zam zan zao zap zaq zav zac zad zae zar zas zat zau=some r):WT Y 189 [.code (cp [1,1,1,1,0,0,1,1,1] B189),.blk 0,.code (cp [1,1,1,1,1] B189)] (FT Tryz.f189 [(1000,⟨true,0,[.bad,.bad]⟩)] (eS r.1) [(1000,⟨true,0,[iN r.2.1,bl r.2.2]⟩)]) ⟨[(0,.ptr 1000 0),(1,bl t1),(3,.sl false 4 t3.length ((ePl).f t3)),(6,.ptr 6 0),(8,.ptr 8 0),(48,bl t48)],[(6,⟨true,0,[bl zam,iN zan,iN zao,iN zap,iN zaq,.sl false 6 zav.length ((eSol false).f zav)]⟩),(8,⟨true,0,[bl zac,iN zad,iN zae,iN zar,iN zas,.nil]⟩),(1000,⟨true,0,[iN zat,bl zau]⟩)]⟩:=by
 unfold Dp_l11Take_1 at h
 refine x_frk 0 [] oN h (fun h=>?_) (fun h=>?_)
 ·obtain⟨v8,y8,h⟩:=bm h
  obtain⟨v9,y9,h⟩:=bm h
  obtain rfl:=sj h
  exact x_end 12 [(4,.val (.cptr ((eSol false).c v8++(eSol false).f ((zav).drop (Int.toNat 1+1))))),(2,.call [] [] (eS v9.1) [(1000,⟨true,0,[iN v9.2.1,bl v9.2.2]⟩)])] [] (oC (ix (eSol false) y8) (oI (hself1 ((zat,zau),t1,v8,t3) _ y9))) oN 
 ·refine x_frk 7 [] oN h (fun h=>?_) (fun h=>?_)
  ·exact x_to 15 [] oN (Tp_l11Take_2 n self1 hself1 zac zad zae zar zas zat true r h) 
  ·exact x_to 6 [] oN (Tp_l11Take_3 n self1 hself1 t1 t3 ((t3.length:Int)==24) zam zan zao zap zaq zav zac zad zae zar zas zat zau r h) 
def Dp_l11Take_4(n:Nat)(self1:((Int×Bool)×Bool×Sol×(List Pl))→Option (Sol×(Int×Bool)))(t1:Bool)(t3:List Pl)(zam:Bool)(zan zao zap zaq:Int)(zav:List Sol)(zac:Bool)(zad zae zar zas zat:Int)(zau:Bool):Option (Sol×(Int×Bool)) :=
 frk zau (Dp_l11Take_2 n self1 zac zad zae zar zas zat true) (Dp_l11Take_3 n self1 t1 t3 ((t3.length:Int)==24) zam zan zao zap zaq zav zac zad zae zar zas zat zau)
theorem Tp_l11Take_4{Y}(n:Nat)(self1:((Int×Bool)×Bool×Sol×(List Pl))→Option (Sol×(Int×Bool)))(hself1:∀(a:((Int×Bool)×Bool×Sol×(List Pl))) (r:(Sol×(Int×Bool))),self1 a=some r→BT Y (.call 189 [.ptr 1000 0,bl a.2.1,eF a.2.2.1,.sl false 4 a.2.2.2.length ((ePl).f a.2.2.2)] (lk [(1000,⟨true,0,[iN a.1.1,bl a.1.2]⟩)]) (eS r.1) (lk [(1000,⟨true,0,[iN r.2.1,bl r.2.2]⟩)])))(t1:Bool)(t3:List Pl)(zam:Bool)(zan zao zap zaq:Int)(zav:List Sol)(zac:Bool)(zad zae zar zas zat:Int)(zau:Bool)(r:(Sol×(Int×Bool)))(h:Dp_l11Take_4 n self1 t1 t3 zam zan zao zap zaq zav zac zad zae zar zas zat zau=some r):WT Y 189 [.code (cp [1,1,1,1,0,0,1,1,1,1,0] B189),.code (cp [1,1,1,1,0,0,1,1,1,1,1] B189),.blk 0,.code (cp [1,1,1,1,1] B189)] (FT Tryz.f189 [(1000,⟨true,0,[.bad,.bad]⟩)] (eS r.1) [(1000,⟨true,0,[iN r.2.1,bl r.2.2]⟩)]) ⟨[(0,.ptr 1000 0),(1,bl t1),(3,.sl false 4 t3.length ((ePl).f t3)),(6,.ptr 6 0),(8,.ptr 8 0)],[(6,⟨true,0,[bl zam,iN zan,iN zao,iN zap,iN zaq,.sl false 6 zav.length ((eSol false).f zav)]⟩),(8,⟨true,0,[bl zac,iN zad,iN zae,iN zar,iN zas,.nil]⟩),(1000,⟨true,0,[iN zat,bl zau]⟩)]⟩:=by
 unfold Dp_l11Take_4 at h
 refine x_frk 6 [] oN h (fun h=>?_) (fun h=>?_)
 ·exact x_to 15 [] oN (Tp_l11Take_2 n self1 hself1 zac zad zae zar zas zat true r h) 
 ·exact x_to 6 [] oN (Tp_l11Take_3 n self1 hself1 t1 t3 ((t3.length:Int)==24) zam zan zao zap zaq zav zac zad zae zar zas zat zau r h) 
def Dp_l11Take_0(n:Nat)(self1:((Int×Bool)×Bool×Sol×(List Pl))→Option (Sol×(Int×Bool)))(t1:Bool)(t3:List Pl)(t9 t10 t34 zam:Bool)(zan zao zap zaq:Int)(zav:List Sol)(zac:Bool)(zad zae zar zas zat:Int)(zau:Bool):Option (Sol×(Int×Bool)) :=
 frk t34 ((lget zav 0).bind fun v6=>(self1 ((zat,zau),t1,v6,t3)).bind fun v7=>some v7) (frk t10 (Dp_l11Take_1 n self1 t1 t3 (!t9) zam zan zao zap zaq zav zac zad zae zar zas zat zau) (Dp_l11Take_4 n self1 t1 t3 zam zan zao zap zaq zav zac zad zae zar zas zat zau))
theorem Tp_l11Take_0{Y}(n:Nat)(self1:((Int×Bool)×Bool×Sol×(List Pl))→Option (Sol×(Int×Bool)))(hself1:∀(a:((Int×Bool)×Bool×Sol×(List Pl))) (r:(Sol×(Int×Bool))),self1 a=some r→BT Y (.call 189 [.ptr 1000 0,bl a.2.1,eF a.2.2.1,.sl false 4 a.2.2.2.length ((ePl).f a.2.2.2)] (lk [(1000,⟨true,0,[iN a.1.1,bl a.1.2]⟩)]) (eS r.1) (lk [(1000,⟨true,0,[iN r.2.1,bl r.2.2]⟩)])))(t1:Bool)(t3:List Pl)(t9 t10 t34 zam:Bool)(zan zao zap zaq:Int)(zav:List Sol)(zac:Bool)(zad zae zar zas zat:Int)(zau:Bool)(r:(Sol×(Int×Bool)))(h:Dp_l11Take_0 n self1 t1 t3 t9 t10 t34 zam zan zao zap zaq zav zac zad zae zar zas zat zau=some r):WT Y 189 [.code (cp [1,1,1,1,0,0,1] B189),.blk 0,.code (cp [1,1,1,1,1] B189)] (FT Tryz.f189 [(1000,⟨true,0,[.bad,.bad]⟩)] (eS r.1) [(1000,⟨true,0,[iN r.2.1,bl r.2.2]⟩)]) ⟨[(0,.ptr 1000 0),(1,bl t1),(3,.sl false 4 t3.length ((ePl).f t3)),(6,.ptr 6 0),(8,.ptr 8 0),(9,bl t9),(10,bl t10),(34,bl t34)],[(6,⟨true,0,[bl zam,iN zan,iN zao,iN zap,iN zaq,.sl false 6 zav.length ((eSol false).f zav)]⟩),(8,⟨true,0,[bl zac,iN zad,iN zae,iN zar,iN zas,.nil]⟩),(1000,⟨true,0,[iN zat,bl zau]⟩)]⟩:=by
 unfold Dp_l11Take_0 at h
 refine x_frk 0 [] oN h (fun h=>?_) (fun h=>?_)
 ·obtain⟨v6,y6,h⟩:=bm h
  obtain⟨v7,y7,h⟩:=bm h
  obtain rfl:=sj h
  exact x_end 12 [(4,.val (.cptr ((eSol false).c v6++(eSol false).f ((zav).drop (Int.toNat 0+1))))),(2,.call [] [] (eS v7.1) [(1000,⟨true,0,[iN v7.2.1,bl v7.2.2]⟩)])] [] (oC (ix (eSol false) y6) (oI (hself1 ((zat,zau),t1,v6,t3) _ y7))) oN 
 ·refine x_frk 4 [] oN h (fun h=>?_) (fun h=>?_)
  ·exact x_to 5 [] oN (Tp_l11Take_1 n self1 hself1 t1 t3 (!t9) zam zan zao zap zaq zav zac zad zae zar zas zat zau r h) 
  ·exact x_to 7 [] oN (Tp_l11Take_4 n self1 hself1 t1 t3 zam zan zao zap zaq zav zac zad zae zar zas zat zau r h) 
def Dp_l11Take_5(n:Nat)(self1:((Int×Bool)×Bool×Sol×(List Pl))→Option (Sol×(Int×Bool)))(t1:Bool)(t3:List Pl)(t9 t10 zam:Bool)(zan zao zap zaq:Int)(zav:List Sol)(zac:Bool)(zad zae zar zas zat:Int)(zau:Bool):Option (Sol×(Int×Bool)) :=
 frk t10 (Dp_l11Take_1 n self1 t1 t3 (!t9) zam zan zao zap zaq zav zac zad zae zar zas zat zau) (Dp_l11Take_4 n self1 t1 t3 zam zan zao zap zaq zav zac zad zae zar zas zat zau)
theorem Tp_l11Take_5{Y}(n:Nat)(self1:((Int×Bool)×Bool×Sol×(List Pl))→Option (Sol×(Int×Bool)))(hself1:∀(a:((Int×Bool)×Bool×Sol×(List Pl))) (r:(Sol×(Int×Bool))),self1 a=some r→BT Y (.call 189 [.ptr 1000 0,bl a.2.1,eF a.2.2.1,.sl false 4 a.2.2.2.length ((ePl).f a.2.2.2)] (lk [(1000,⟨true,0,[iN a.1.1,bl a.1.2]⟩)]) (eS r.1) (lk [(1000,⟨true,0,[iN r.2.1,bl r.2.2]⟩)])))(t1:Bool)(t3:List Pl)(t9 t10 zam:Bool)(zan zao zap zaq:Int)(zav:List Sol)(zac:Bool)(zad zae zar zas zat:Int)(zau:Bool)(r:(Sol×(Int×Bool)))(h:Dp_l11Take_5 n self1 t1 t3 t9 t10 zam zan zao zap zaq zav zac zad zae zar zas zat zau=some r):WT Y 189 [.code (cp [1,1,1,1,0,0,1,1,0] B189),.code (cp [1,1,1,1,0,0,1,1,1] B189),.blk 0,.code (cp [1,1,1,1,1] B189)] (FT Tryz.f189 [(1000,⟨true,0,[.bad,.bad]⟩)] (eS r.1) [(1000,⟨true,0,[iN r.2.1,bl r.2.2]⟩)]) ⟨[(0,.ptr 1000 0),(1,bl t1),(3,.sl false 4 t3.length ((ePl).f t3)),(6,.ptr 6 0),(8,.ptr 8 0),(9,bl t9),(10,bl t10)],[(6,⟨true,0,[bl zam,iN zan,iN zao,iN zap,iN zaq,.sl false 6 zav.length ((eSol false).f zav)]⟩),(8,⟨true,0,[bl zac,iN zad,iN zae,iN zar,iN zas,.nil]⟩),(1000,⟨true,0,[iN zat,bl zau]⟩)]⟩:=by
 unfold Dp_l11Take_5 at h
 refine x_frk 3 [] oN h (fun h=>?_) (fun h=>?_)
 ·exact x_to 5 [] oN (Tp_l11Take_1 n self1 hself1 t1 t3 (!t9) zam zan zao zap zaq zav zac zad zae zar zas zat zau r h) 
 ·exact x_to 7 [] oN (Tp_l11Take_4 n self1 hself1 t1 t3 zam zan zao zap zaq zav zac zad zae zar zas zat zau r h) 
def Dp_l11Take_b(n:Nat)(self1:((Int×Bool)×Bool×Sol×(List Pl))→Option (Sol×(Int×Bool)))(a:((Int×Bool)×Bool×Sol×(List Pl))):Option (Sol×(Int×Bool)) :=
 match a with
 | (a0,a1,a2,a3)=>(Dp_l8Leaf a2).bind fun v0=>frk v0 ((Dp_l11In a0.1 a1 a2.inn).bind fun v1=>(Dp_Leaf v1).bind fun v2=>some (v2,a0)) ((Dp_l6With n a3 a2.pl).bind fun v3=>(Dp_l3Flip a2.pl).bind fun v4=>(Dp_l6With n a3 v4).bind fun v5=>frk (!v3) (Dp_l11Take_0 n self1 a1 a3 (!v3) (!v5) (!(!v5)) a2.inn a2.pl.A a2.pl.B a2.pl.C a2.pl.D a2.kids false 0 0 0 0 a0.1 a0.2) (Dp_l11Take_5 n self1 a1 a3 (!v3) (!v5) a2.inn a2.pl.A a2.pl.B a2.pl.C a2.pl.D a2.kids false 0 0 0 0 a0.1 a0.2))
def Dp_l11Take(n:Nat)(a0:(Int×Bool))(a1:Bool)(a2:Sol)(a3:(List Pl)):Option (Sol×(Int×Bool)):=loopN (Dp_l11Take_b n) n (a0,a1,a2,a3)
theorem Tp_l11Take_b{Y}(n:Nat):∀(m:Nat) (a:((Int×Bool)×Bool×Sol×(List Pl))) (r:(Sol×(Int×Bool))),loopN (Dp_l11Take_b n) m a=some r→∀(_:Unit),BT Y (.call 189 [.ptr 1000 0,bl a.2.1,eF a.2.2.1,.sl false 4 a.2.2.2.length ((ePl).f a.2.2.2)] (lk [(1000,⟨true,0,[iN a.1.1,bl a.1.2]⟩)]) (eS r.1) (lk [(1000,⟨true,0,[iN r.2.1,bl r.2.2]⟩)])):=by
 refine loopN_ind (fun self1 hs a r h=>?_)
 have hself1:∀(a:((Int×Bool)×Bool×Sol×(List Pl))) (r:(Sol×(Int×Bool))),self1 a=some r→BT Y (.call 189 [.ptr 1000 0,bl a.2.1,eF a.2.2.1,.sl false 4 a.2.2.2.length ((ePl).f a.2.2.2)] (lk [(1000,⟨true,0,[iN a.1.1,bl a.1.2]⟩)]) (eS r.1) (lk [(1000,⟨true,0,[iN r.2.1,bl r.2.2]⟩)])):=fun a r h=>hs a r h ()
 intro _
 obtain⟨a0,a1,a2,a3⟩:=a
 unfold Dp_l11Take_b at h
 refine x_call (fn:=Tryz.f189) (c:=B189) (bs0:=[(1000,⟨true,0,[.bad,.bad]⟩)]) Tryz.func189 (by kernel_rfl) (by kernel_rfl) ?_
 obtain⟨v0,y0,h⟩:=bm h
 refine x_frk 11 [(3,.call [] [] (bl v0) [])] (oI (Tp_l8Leaf (Y:=Y) a2 _ y0)) h (fun h=>?_) (fun h=>?_)
 ·obtain⟨v1,y1,h⟩:=bm h
  obtain⟨v2,y2,h⟩:=bm h
  obtain rfl:=sj h
  exact x_end 13 [(7,.call [] [] (bl v1) []),(0,.call [] [] (eS v2) [])] [] (oC (Tp_l11In (Y:=Y) a0.1 a1 a2.inn _ y1) (oI (Tp_Leaf (Y:=Y) v1 _ y2))) oN 
 ·obtain⟨v3,y3,h⟩:=bm h
  obtain⟨v4,y4,h⟩:=bm h
  obtain⟨v5,y5,h⟩:=bm h
  refine x_frk 26 [(3,.call [] [] (bl v3) []),(5,.call [] [] (.agg [iN v4.A,iN v4.B,iN v4.C,iN v4.D]) []),(0,.call [] [] (bl v5) [])] (oC (Tp_l6With (Y:=Y) n a3 a2.pl _ y3) (oC (Tp_l3Flip (Y:=Y) a2.pl _ y4) (oI (Tp_l6With (Y:=Y) n a3 v4 _ y5)))) h (fun h=>?_) (fun h=>?_)
  ·exact x_to 5 [] oN (Tp_l11Take_0 n self1 hself1 a1 a3 (!v3) (!v5) (!(!v5)) a2.inn a2.pl.A a2.pl.B a2.pl.C a2.pl.D a2.kids false 0 0 0 0 a0.1 a0.2 r h) 
  ·exact x_to 7 [] oN (Tp_l11Take_5 n self1 hself1 a1 a3 (!v3) (!v5) a2.inn a2.pl.A a2.pl.B a2.pl.C a2.pl.D a2.kids false 0 0 0 0 a0.1 a0.2 r h) 
theorem Tp_l11Take{Y}(n:Nat)(a0:(Int×Bool))(a1:Bool)(a2:Sol)(a3:(List Pl))(r:(Sol×(Int×Bool)))(h:Dp_l11Take n a0 a1 a2 a3=some r):BT Y (.call 189 [.ptr 1000 0,bl a1,eF a2,.sl false 4 a3.length ((ePl).f a3)] (lk [(1000,⟨true,0,[iN a0.1,bl a0.2]⟩)]) (eS r.1) (lk [(1000,⟨true,0,[iN r.2.1,bl r.2.2]⟩)])):=Tp_l11Take_b n n (a0,a1,a2,a3) r h ()
def Dp_l11Both_b(n:Nat)(self:((Int×Bool)×Sol×Sol×(List Pl))→Option (Sol×(Int×Bool)))(a:((Int×Bool)×Sol×Sol×(List Pl))):Option (Sol×(Int×Bool)) :=
 match a with
 | (a0,a1,a2,a3)=>(Dp_l8Leaf a1).bind fun v0=>frk v0 ((Dp_l11Take n a0 a1.inn a2 a3).bind fun v1=>some v1) ((lget a1.kids 0).bind fun v2=>(Dp_l8Path a3 a1.pl).bind fun v3=>(self (a0,v2,a2,v3)).bind fun v4=>(lget a1.kids 1).bind fun v5=>(Dp_l3Flip a1.pl).bind fun v6=>(Dp_l8Path a3 v6).bind fun v7=>(self (v4.2,v5,a2,v7)).bind fun v8=>(Dp_l11Nodeo1o2 a1.pl v4.1 v8.1).bind fun v9=>some (v9,v8.2))
def Dp_l11Both(n:Nat)(a0:(Int×Bool))(a1:Sol)(a2:Sol)(a3:(List Pl)):Option (Sol×(Int×Bool)):=loopN (Dp_l11Both_b n) n (a0,a1,a2,a3)
theorem Tp_l11Both_b{Y}(n:Nat):∀(m:Nat) (a:((Int×Bool)×Sol×Sol×(List Pl))) (r:(Sol×(Int×Bool))),loopN (Dp_l11Both_b n) m a=some r→∀(_:Unit),BT Y (.call 177 [.ptr 1000 0,eF a.2.1,eF a.2.2.1,.sl false 4 a.2.2.2.length ((ePl).f a.2.2.2)] (lk [(1000,⟨true,0,[iN a.1.1,bl a.1.2]⟩)]) (eS r.1) (lk [(1000,⟨true,0,[iN r.2.1,bl r.2.2]⟩)])):=by
 refine loopN_ind (fun self hs a r h=>?_)
 have hself:∀(a:((Int×Bool)×Sol×Sol×(List Pl))) (r:(Sol×(Int×Bool))),self a=some r→BT Y (.call 177 [.ptr 1000 0,eF a.2.1,eF a.2.2.1,.sl false 4 a.2.2.2.length ((ePl).f a.2.2.2)] (lk [(1000,⟨true,0,[iN a.1.1,bl a.1.2]⟩)]) (eS r.1) (lk [(1000,⟨true,0,[iN r.2.1,bl r.2.2]⟩)])):=fun a r h=>hs a r h ()
 intro _
 obtain⟨a0,a1,a2,a3⟩:=a
 unfold Dp_l11Both_b at h
 refine x_call (fn:=Tryz.f177) (c:=B177) (bs0:=[(1000,⟨true,0,[.bad,.bad]⟩)]) Tryz.func177 (by kernel_rfl) (by kernel_rfl) ?_
 obtain⟨v0,y0,h⟩:=bm h
 refine x_frk 12 [(4,.call [] [] (bl v0) [])] (oI (Tp_l8Leaf (Y:=Y) a1 _ y0)) h (fun h=>?_) (fun h=>?_)
 ·obtain⟨v1,y1,h⟩:=bm h
  obtain rfl:=sj h
  exact x_end 10 [(5,.call [] [] (eS v1.1) [(1000,⟨true,0,[iN v1.2.1,bl v1.2.2]⟩)])] [] (oI (Tp_l11Take (Y:=Y) n a0 a1.inn a2 a3 _ y1)) oN 
 ·obtain⟨v2,y2,h⟩:=bm h
  obtain⟨v3,y3,h⟩:=bm h
  obtain⟨v4,y4,h⟩:=bm h
  obtain⟨v5,y5,h⟩:=bm h
  obtain⟨v6,y6,h⟩:=bm h
  obtain⟨v7,y7,h⟩:=bm h
  obtain⟨v8,y8,h⟩:=bm h
  obtain⟨v9,y9,h⟩:=bm h
  obtain rfl:=sj h
  exact x_end 37 [(3,.val (.cptr ((eSol false).c v2++(eSol false).f ((a1.kids).drop (Int.toNat 0+1))))),(5,.call [] [] (.sl false 4 v3.length ((ePl).f v3)) []),(0,.call [] [] (eS v4.1) [(1000,⟨true,0,[iN v4.2.1,bl v4.2.2]⟩)]),(8,.val (.cptr ((eSol false).c v5++(eSol false).f ((a1.kids).drop (Int.toNat 1+1))))),(5,.call [] [] (.agg [iN v6.A,iN v6.B,iN v6.C,iN v6.D]) []),(0,.call [] [] (.sl false 4 v7.length ((ePl).f v7)) []),(0,.call [] [] (eS v8.1) [(1000,⟨true,0,[iN v8.2.1,bl v8.2.2]⟩)]),(0,.call [] [] (eS v9) [])] [] (oC (ix (eSol false) y2) (oC (shSl (L:=v3) ePl ePl sPl (Tp_l8Path (Y:=Y) a3 a1.pl _ y3)) (oC (hself (a0,v2,a2,v3) _ y4) (oC (ix (eSol false) y5) (oC (Tp_l3Flip (Y:=Y) a1.pl _ y6) (oC (shSl (L:=v7) ePl ePl sPl (Tp_l8Path (Y:=Y) a3 v6 _ y7)) (oC (hself (v4.2,v5,a2,v7) _ y8) (oI (Tp_l11Nodeo1o2 (Y:=Y) a1.pl v4.1 v8.1 _ y9))))))))) oN 
theorem Tp_l11Both{Y}(n:Nat)(a0:(Int×Bool))(a1:Sol)(a2:Sol)(a3:(List Pl))(r:(Sol×(Int×Bool)))(h:Dp_l11Both n a0 a1 a2 a3=some r):BT Y (.call 177 [.ptr 1000 0,eF a1,eF a2,.sl false 4 a3.length ((ePl).f a3)] (lk [(1000,⟨true,0,[iN a0.1,bl a0.2]⟩)]) (eS r.1) (lk [(1000,⟨true,0,[iN r.2.1,bl r.2.2]⟩)])):=Tp_l11Both_b n n (a0,a1,a2,a3) r h ()
def Dp_Put_0(_n:Nat)(_zam:Bool)(_zan _zao _zap _zaq:Int):Option (Sol×Bool) :=
 (Dp_Leaf false).bind fun v1=>some (v1,false)
theorem Tp_Put_0{Y}(n:Nat)(zam:Bool)(zan zao zap zaq:Int)(r:(Sol×Bool))(h:Dp_Put_0 n zam zan zao zap zaq=some r):WT Y 150 [.code (cp [1,0,1,0,0] B150),.code (cp [1,0,1,0,1] B150),.code (cp [1,1] B150)] (FT Tryz.f150 [] (.tup [eS r.1,bl r.2]) []) ⟨[(6,.ptr 6 0)],[(6,⟨true,0,[bl zam,iN zan,iN zao,iN zap,iN zaq,.nil]⟩)]⟩:=by
 unfold Dp_Put_0 at h
 obtain⟨v1,y1,h⟩:=bm h
 obtain rfl:=sj h
 exact x_end 5 [(0,.call [] [] (eS v1) [])] [] (oI (Tp_Leaf (Y:=Y) false _ y1)) oN 
def Dp_Put_2(_n:Nat)(_zam:Bool)(_zan _zao _zap _zaq:Int):Option (Sol×Bool) :=
 (Dp_Leaf false).bind fun v6=>some (v6,false)
theorem Tp_Put_2{Y}(n:Nat)(zam:Bool)(zan zao zap zaq:Int)(r:(Sol×Bool))(h:Dp_Put_2 n zam zan zao zap zaq=some r):WT Y 150 [.code (cp [1,1,1,1,0,1,0,0] B150),.code (cp [1,1,1,1,0,1,0,1] B150),.code (cp [1,1,1,1,1] B150)] (FT Tryz.f150 [] (.tup [eS r.1,bl r.2]) []) ⟨[(6,.ptr 6 0)],[(6,⟨true,0,[bl zam,iN zan,iN zao,iN zap,iN zaq,.nil]⟩)]⟩:=by
 unfold Dp_Put_2 at h
 obtain⟨v6,y6,h⟩:=bm h
 obtain rfl:=sj h
 exact x_end 5 [(0,.call [] [] (eS v6) [])] [] (oI (Tp_Leaf (Y:=Y) false _ y6)) oN 
def Dp_Put_3(_n:Nat)(t40 _zam:Bool)(_zan _zao _zap _zaq:Int)(zaf:Bool)(zag zah zaw zax:Int)(zay:List Sol):Option (Sol×Bool) :=
 frk t40 ((Dp_Leaf false).bind fun v8=>some (v8,false)) (some ((Sol.mk zaf (Pl.mk zag zah zaw zax) zay),true))
theorem Tp_Put_3{Y}(n:Nat)(t40 zam:Bool)(zan zao zap zaq:Int)(zaf:Bool)(zag zah zaw zax:Int)(zay:List Sol)(r:(Sol×Bool))(h:Dp_Put_3 n t40 zam zan zao zap zaq zaf zag zah zaw zax zay=some r):WT Y 150 [.code (cp [1,1,1,1,0,1] B150),.code (cp [1,1,1,1,1] B150)] (FT Tryz.f150 [] (.tup [eS r.1,bl r.2]) []) ⟨[(6,.ptr 6 0),(9,.ptr 9 0),(40,bl t40)],[(6,⟨true,0,[bl zam,iN zan,iN zao,iN zap,iN zaq,.nil]⟩),(9,⟨true,0,[bl zaf,iN zag,iN zah,iN zaw,iN zax,.sl true 6 zay.length ((eSol true).f zay)]⟩)]⟩:=by
 unfold Dp_Put_3 at h
 refine x_frk 0 [] oN h (fun h=>?_) (fun h=>?_)
 ·obtain⟨v8,y8,h⟩:=bm h
  obtain rfl:=sj h
  exact x_end 6 [(0,.call [] [] (eS v8) [])] [] (oI (Tp_Leaf (Y:=Y) false _ y8)) oN 
 ·obtain rfl:=sj h
  exact x_end 7 [] [] oN oN 
def Dp_Put_1(n:Nat)(t2:Int)(t22 zl:Bool)(zm zn zo zp:Int)(zaz:List Sol)(zr:Bool)(zs zt zu zai:Int)(zaj:List Sol)(zam:Bool)(zan zao zap zaq:Int):Option (Sol×Bool) :=
 frk t22 ((Dp_Leaf false).bind fun v4=>some (v4,false)) ((Dp_l11Both n (t2,false) (Sol.mk zl (Pl.mk zm zn zo zp) zaz) (Sol.mk zr (Pl.mk zs zt zu zai) zaj) []).bind fun v5=>frk v5.2.2 (Dp_Put_2 n zam zan zao zap zaq) ((Dp_l8Count n v5.1 301).bind fun v7=>Dp_Put_3 n (decide (v7>300)) zam zan zao zap zaq v5.1.inn v5.1.pl.A v5.1.pl.B v5.1.pl.C v5.1.pl.D v5.1.kids))
theorem Tp_Put_1{Y}(n:Nat)(t2:Int)(t22 zl:Bool)(zm zn zo zp:Int)(zaz:List Sol)(zr:Bool)(zs zt zu zai:Int)(zaj:List Sol)(zam:Bool)(zan zao zap zaq:Int)(r:(Sol×Bool))(h:Dp_Put_1 n t2 t22 zl zm zn zo zp zaz zr zs zt zu zai zaj zam zan zao zap zaq=some r):WT Y 150 [.code (cp [1,0,1] B150),.code (cp [1,1] B150)] (FT Tryz.f150 [] (.tup [eS r.1,bl r.2]) []) ⟨[(2,iN t2),(3,.ptr 3 0),(4,.ptr 4 0),(6,.ptr 6 0),(22,bl t22)],[(3,⟨true,0,[bl zl,iN zm,iN zn,iN zo,iN zp,.sl false 6 zaz.length ((eSol false).f zaz)]⟩),(4,⟨true,0,[bl zr,iN zs,iN zt,iN zu,iN zai,.sl false 6 zaj.length ((eSol false).f zaj)]⟩),(6,⟨true,0,[bl zam,iN zan,iN zao,iN zap,iN zaq,.nil]⟩)]⟩:=by
 unfold Dp_Put_1 at h
 refine x_frk 0 [] oN h (fun h=>?_) (fun h=>?_)
 ·obtain⟨v4,y4,h⟩:=bm h
  obtain rfl:=sj h
  exact x_end 6 [(0,.call [] [] (eS v4) [])] [] (oI (Tp_Leaf (Y:=Y) false _ y4)) oN 
 ·obtain⟨v5,y5,h⟩:=bm h
  refine x_frk 26 [(8,.call [] [(ePl).f []] (eS v5.1) [(1000,⟨true,0,[iN v5.2.1,bl v5.2.2]⟩)])] (oC (Tp_l11Both (Y:=Y) n (t2,false) (Sol.mk zl (Pl.mk zm zn zo zp) zaz) (Sol.mk zr (Pl.mk zs zt zu zai) zaj) [] _ y5) (oC (len_row (L:=[]) ePl) (oC (Enc.share ePl ePl sPl []) (oI (show hasSh (eS v5.1)=false by simp[eS,hasSh,hasShL,nSh,nShI,nShB,nShP,nShT,nShN,nShPs]))))) h (fun h=>?_) (fun h=>?_)
  ·exact x_to 7 [] oN (Tp_Put_2 n zam zan zao zap zaq r h) 
  ·obtain⟨v7,y7,h⟩:=bm h
   exact x_to 5 [(0,.rows [(eSol false).f v5.1.kids]),(0,.call [] [] (iN v7) [])] (oC (Enc.share (eSol true) (eSol false) (sSol true) v5.1.kids) (oI (Tp_l8Count (Y:=Y) n v5.1 301 _ y7))) (Tp_Put_3 n (decide (v7>300)) zam zan zao zap zaq v5.1.inn v5.1.pl.A v5.1.pl.B v5.1.pl.C v5.1.pl.D v5.1.kids r h) 
def Dp_Put(n:Nat)(a0:Sol)(a1:Sol)(a2:Int):Option (Sol×Bool) :=
 (Dp_SolidOk n a0).bind fun v0=>frk (!v0) (Dp_Put_0 n false 0 0 0 0) ((Dp_SolidOk n a1).bind fun v2=>frk (!v2) (Dp_Put_0 n false 0 0 0 0) ((Dp_l1In a2 1 4).bind fun v3=>Dp_Put_1 n a2 (!v3) a0.inn a0.pl.A a0.pl.B a0.pl.C a0.pl.D a0.kids a1.inn a1.pl.A a1.pl.B a1.pl.C a1.pl.D a1.kids false 0 0 0 0))
theorem Tp_Put{Y}(n:Nat)(a0:Sol)(a1:Sol)(a2:Int)(r:(Sol×Bool))(h:Dp_Put n a0 a1 a2=some r):BT Y (.call 150 [eF a0,eF a1,iN a2] (lk []) (.tup [eS r.1,bl r.2]) (lk [])):=by
 unfold Dp_Put at h
 refine x_call (fn:=Tryz.f150) (c:=B150) (bs0:=[]) Tryz.func150 (by kernel_rfl) (by kernel_rfl) ?_
 obtain⟨v0,y0,h⟩:=bm h
 refine x_frk 14 [(5,.call [] [] (bl v0) [])] (oI (Tp_SolidOk (Y:=Y) n a0 _ y0)) h (fun h=>?_) (fun h=>?_)
 ·exact x_to 12 [] oN (Tp_Put_0 n false 0 0 0 0 r h) 
 ·obtain⟨v2,y2,h⟩:=bm h
  refine x_frk 5 [(1,.call [] [] (bl v2) [])] (oI (Tp_SolidOk (Y:=Y) n a1 _ y2)) h (fun h=>?_) (fun h=>?_)
  ·exact x_to 7 [] oN (Tp_Put_0 n false 0 0 0 0 r h) 
  ·obtain⟨v3,y3,h⟩:=bm h
   exact x_to 5 [(1,.call [] [] (bl v3) [])] (oI (Tp_l1In (Y:=Y) a2 1 4 _ y3)) (Tp_Put_1 n a2 (!v3) a0.inn a0.pl.A a0.pl.B a0.pl.C a0.pl.D a0.kids a1.inn a1.pl.A a1.pl.B a1.pl.C a1.pl.D a1.kids false 0 0 0 0 r h) 
def Dp_SameTree_1(_n:Nat)(self1:(Sol×Sol)→Option Bool)(_zg:Bool)(_zh _zi _zj _zk:Int)(zq:List Sol)(_zl:Bool)(_zm _zn _zo _zp:Int)(zaz:List Sol)(rec0:Int→Option Bool)(a:Int):Option Bool :=
 match a with
 | t5=>frk (decide (t5<(zq.length:Int))) ((lget zq t5).bind fun v0=>(lget zaz t5).bind fun v1=>(self1 (v0,v1)).bind fun v2=>frk (!v2) (some false) (rec0 (w64 (t5+1)))) (some true)
theorem Tp_SameTree_1{Y}(n:Nat)(self1:(Sol×Sol)→Option Bool)(hself1:∀(a:(Sol×Sol)) (r:Bool),self1 a=some r→BT Y (.call 178 [eF a.1,eF a.2] (lk []) (bl r) (lk [])))(zg:Bool)(zh zi zj zk:Int)(zq:List Sol)(zl:Bool)(zm zn zo zp:Int)(zaz:List Sol):∀(m:Nat) (a:Int) (r:Bool),loopN (Dp_SameTree_1 n self1 zg zh zi zj zk zq zl zm zn zo zp zaz) m a=some r→WT Y 178 [.code (cp [1,1,0,1,0] B178),.blk 0,.code (cp [1,1,1] B178)] (FT Tryz.f178 [] (bl r) []) ⟨[(2,.ptr 2 0),(3,.ptr 3 0),(5,iN a)],[(2,⟨true,0,[bl zg,iN zh,iN zi,iN zj,iN zk,.sl false 6 zq.length ((eSol false).f zq)]⟩),(3,⟨true,0,[bl zl,iN zm,iN zn,iN zo,iN zp,.sl false 6 zaz.length ((eSol false).f zaz)]⟩)]⟩:=by
 refine loopN_ind (fun _rec0 hrec0 a r h=>?_)
 obtain⟨t5,rfl⟩:∃x,x=a:=⟨a,rfl⟩
 unfold Dp_SameTree_1 at h
 refine x_frk 10 [] oN h (fun h=>?_) (fun h=>?_)
 ·obtain⟨v0,y0,h⟩:=bm h
  obtain⟨v1,y1,h⟩:=bm h
  obtain⟨v2,y2,h⟩:=bm h
  refine x_frk 18 [(3,.val (.cptr ((eSol false).c v0++(eSol false).f ((zq).drop (Int.toNat t5+1))))),(4,.val (.cptr ((eSol false).c v1++(eSol false).f ((zaz).drop (Int.toNat t5+1))))),(1,.call [] [] (bl v2) [])] (oC (ix (eSol false) y0) (oC (ix (eSol false) y1) (oI (hself1 (v0,v1) _ y2)))) h (fun h=>?_) (fun h=>?_)
  ·obtain rfl:=sj h
   exact x_end 4 [] [] oN oN 
  ·exact x_to 8 [] oN (hrec0 (w64 (t5+1)) r h) 
 ·obtain rfl:=sj h
  exact x_end 5 [] [] oN oN 
def Dp_SameTree_0(n:Nat)(self1:(Sol×Sol)→Option Bool)(t26 zg:Bool)(zh zi zj zk:Int)(zq:List Sol)(zl:Bool)(zm zn zo zp:Int)(zaz:List Sol):Option Bool :=
 frk t26 (some false) (loopN (Dp_SameTree_1 n self1 zg zh zi zj zk zq zl zm zn zo zp zaz) n 0)
theorem Tp_SameTree_0{Y}(n:Nat)(self1:(Sol×Sol)→Option Bool)(hself1:∀(a:(Sol×Sol)) (r:Bool),self1 a=some r→BT Y (.call 178 [eF a.1,eF a.2] (lk []) (bl r) (lk [])))(t26 zg:Bool)(zh zi zj zk:Int)(zq:List Sol)(zl:Bool)(zm zn zo zp:Int)(zaz:List Sol)(r:Bool)(h:Dp_SameTree_0 n self1 t26 zg zh zi zj zk zq zl zm zn zo zp zaz=some r):WT Y 178 [.code (cp [1,0,1] B178),.code (cp [1,1] B178)] (FT Tryz.f178 [] (bl r) []) ⟨[(2,.ptr 2 0),(3,.ptr 3 0),(26,bl t26)],[(2,⟨true,0,[bl zg,iN zh,iN zi,iN zj,iN zk,.sl false 6 zq.length ((eSol false).f zq)]⟩),(3,⟨true,0,[bl zl,iN zm,iN zn,iN zo,iN zp,.sl false 6 zaz.length ((eSol false).f zaz)]⟩)]⟩:=by
 unfold Dp_SameTree_0 at h
 refine x_frk 0 [] oN h (fun h=>?_) (fun h=>?_)
 ·obtain rfl:=sj h
  exact x_end 4 [] [] oN oN 
 ·exact x_to 7 [] oN (Tp_SameTree_1 n self1 hself1 zg zh zi zj zk zq zl zm zn zo zp zaz n 0 r h) 
def Dp_SameTree_b(n:Nat)(self1:(Sol×Sol)→Option Bool)(a:(Sol×Sol)):Option Bool :=
 match a with
 | (a0,a1)=>frk (!(a0.inn==a1.inn)) (some false) (frk (!(a0.pl.A==a1.pl.A&&(a0.pl.B==a1.pl.B&&(a0.pl.C==a1.pl.C&&(a0.pl.D==a1.pl.D&&true))))) (some false) (Dp_SameTree_0 n self1 ((a0.kids.length:Int) != (a1.kids.length:Int)) a0.inn a0.pl.A a0.pl.B a0.pl.C a0.pl.D a0.kids a1.inn a1.pl.A a1.pl.B a1.pl.C a1.pl.D a1.kids))
def Dp_SameTree(n:Nat)(a0:Sol)(a1:Sol):Option Bool:=loopN (Dp_SameTree_b n) n (a0,a1)
theorem Tp_SameTree_b{Y}(n:Nat):∀(m:Nat) (a:(Sol×Sol)) (r:Bool),loopN (Dp_SameTree_b n) m a=some r→∀(_:Unit),BT Y (.call 178 [eF a.1,eF a.2] (lk []) (bl r) (lk [])):=by
 refine loopN_ind (fun self1 hs a r h=>?_)
 have hself1:∀(a:(Sol×Sol)) (r:Bool),self1 a=some r→BT Y (.call 178 [eF a.1,eF a.2] (lk []) (bl r) (lk [])):=fun a r h=>hs a r h ()
 intro _
 obtain⟨a0,a1⟩:=a
 unfold Dp_SameTree_b at h
 refine x_call (fn:=Tryz.f178) (c:=B178) (bs0:=[]) Tryz.func178 (by kernel_rfl) (by kernel_rfl) ?_
 refine x_frk 15 [] oN h (fun h=>?_) (fun h=>?_)
 ·obtain rfl:=sj h
  exact x_end 21 [] [] oN oN 
 ·refine x_frk 7 [] oN h (fun h=>?_) (fun h=>?_)
  ·obtain rfl:=sj h
   exact x_end 14 [] [] oN oN 
  ·exact x_to 9 [] oN (Tp_SameTree_0 n self1 hself1 ((a0.kids.length:Int) != (a1.kids.length:Int)) a0.inn a0.pl.A a0.pl.B a0.pl.C a0.pl.D a0.kids a1.inn a1.pl.A a1.pl.B a1.pl.C a1.pl.D a1.kids r h) 
theorem Tp_SameTree{Y}(n:Nat)(a0:Sol)(a1:Sol)(r:Bool)(h:Dp_SameTree n a0 a1=some r):BT Y (.call 178 [eF a0,eF a1] (lk []) (bl r) (lk [])):=Tp_SameTree_b n n (a0,a1) r h ()
def Dp_l12Tidy_b(n:Nat)(self:Sol→Option Sol)(a:Sol):Option Sol :=
 match a with
 | a0=>(Dp_l8Leaf a0).bind fun v0=>frk v0 ((Dp_Leaf a0.inn).bind fun v1=>some v1) ((lget a0.kids 0).bind fun v2=>(self v2).bind fun v3=>(lget a0.kids 1).bind fun v4=>(self v4).bind fun v5=>(Dp_SameTree n v3 v5).bind fun v6=>frk v6 (some v3) ((Dp_l8Nodeo1o2 a0.pl v3 v5).bind fun v7=>some v7))
def Dp_l12Tidy(n:Nat)(a0:Sol):Option Sol:=loopN (Dp_l12Tidy_b n) n a0
theorem Tp_l12Tidy_b{Y}(n:Nat):∀(m:Nat) (a:Sol) (r:Sol),loopN (Dp_l12Tidy_b n) m a=some r→∀(_:Unit),BT Y (.call 151 [eF a] (lk []) (eS r) (lk [])):=by
 refine loopN_ind (fun self hs a r h=>?_)
 have hself:∀(a:Sol) (r:Sol),self a=some r→BT Y (.call 151 [eF a] (lk []) (eS r) (lk [])):=fun a r h=>hs a r h ()
 intro _
 obtain⟨a0,rfl⟩:∃x,x=a:=⟨a,rfl⟩
 unfold Dp_l12Tidy_b at h
 refine x_call (fn:=Tryz.f151) (c:=B151) (bs0:=[]) Tryz.func151 (by kernel_rfl) (by kernel_rfl) ?_
 obtain⟨v0,y0,h⟩:=bm h
 refine x_frk 11 [(3,.call [] [] (bl v0) [])] (oI (Tp_l8Leaf (Y:=Y) a0 _ y0)) h (fun h=>?_) (fun h=>?_)
 ·obtain⟨v1,y1,h⟩:=bm h
  obtain rfl:=sj h
  exact x_end 7 [(2,.call [] [] (eS v1) [])] [] (oI (Tp_Leaf (Y:=Y) a0.inn _ y1)) oN 
 ·obtain⟨v2,y2,h⟩:=bm h
  obtain⟨v3,y3,h⟩:=bm h
  obtain⟨v4,y4,h⟩:=bm h
  obtain⟨v5,y5,h⟩:=bm h
  obtain⟨v6,y6,h⟩:=bm h
  refine x_frk 28 [(2,.val (.cptr ((eSol false).c v2++(eSol false).f ((a0.kids).drop (Int.toNat 0+1))))),(1,.call [] [] (eS v3) []),(4,.val (.cptr ((eSol false).c v4++(eSol false).f ((a0.kids).drop (Int.toNat 1+1))))),(1,.call [] [] (eS v5) []),(2,.rows [(eSol false).f v3.kids]),(0,.rows [(eSol false).f v5.kids]),(0,.call [] [] (bl v6) [])] (oC (ix (eSol false) y2) (oC (hself v2 _ y3) (oC (ix (eSol false) y4) (oC (hself v4 _ y5) (oC (Enc.share (eSol true) (eSol false) (sSol true) v3.kids) (oC (Enc.share (eSol true) (eSol false) (sSol true) v5.kids) (oI (Tp_SameTree (Y:=Y) n v3 v5 _ y6)))))))) h (fun h=>?_) (fun h=>?_)
  ·obtain rfl:=sj h
   exact x_end 5 [] [] oN oN 
  ·obtain⟨v7,y7,h⟩:=bm h
   obtain rfl:=sj h
   exact x_end 10 [(4,.call [] [] (eS v7) [])] [] (oI (Tp_l8Nodeo1o2 (Y:=Y) a0.pl v3 v5 _ y7)) oN 
theorem Tp_l12Tidy{Y}(n:Nat)(a0:Sol)(r:Sol)(h:Dp_l12Tidy n a0=some r):BT Y (.call 151 [eF a0] (lk []) (eS r) (lk [])):=Tp_l12Tidy_b n n a0 r h ()
def Dp_l20Keeps_0(n:Nat)(a0:Dk8)(w8:Dk8):Option (Dk8×Int) :=
 (Dp_DeskOk n w8).bind fun v2=>frk (!v2) ((Dp_l20Copy n a0).bind fun v3=>some (v3,3)) (some (w8,0))
theorem Tp_l20Keeps_0{Y}(n:Nat)(a0:Dk8)(w8:Dk8)(r:(Dk8×Int))(h:Dp_l20Keeps_0 n a0 w8=some r):WT Y 68 [.code (cp [1,1,1,1,0,0] B68),.code (cp [1,1,1,1,0,1] B68),.code (cp [1,1,1,1,1] B68)] (FT Tryz.f68 [] (.tup [.agg (cT52o r.1),iN r.2]) []) ⟨[(3,.ptr 3 0),(6,.ptr 6 0),(8,.ptr 8 0)],[(3,⟨true,0,(cT52 a0)⟩),(6,⟨true,0,zD⟩),(8,⟨true,0,(cT52o w8)⟩)]⟩:=by
 unfold Dp_l20Keeps_0 at h
 obtain⟨v2,y2,h⟩:=bm h
 refine x_frk 5 [(0,.rows (kF w8)),(0,.call [] [] (bl v2) [])] (oSh8 w8 (oI (Tp_DeskOk (Y:=Y) n w8 _ y2))) h (fun h=>?_) (fun h=>?_)
 ·obtain⟨v3,y3,h⟩:=bm h
  obtain rfl:=sj h
  exact x_end 7 [(1,.call [] [] (.agg (cT52o v3)) [])] [] (oI (Tp_l20Copy (Y:=Y) n a0 _ y3)) oN 
 ·obtain rfl:=sj h
  exact x_end 7 [] [] oN oN 
def Dp_l20Keeps(n:Nat)(a0:Dk8)(a1:Int)(a2:Sol):Option (Dk8×Int) :=
 (Dp_l20Copy n a0).bind fun v0=>(Dp_l8Copy n a2).bind fun v1=>frk (a1==0) (Dp_l20Keeps_0 n a0 ((v1,v0.1.2.1,v0.1.2.2.1,v0.1.2.2.2.1,v0.1.2.2.2.2.1,v0.1.2.2.2.2.2.1,v0.1.2.2.2.2.2.2.1,v0.1.2.2.2.2.2.2.2),(true,v0.2.2.1,v0.2.2.2.1,v0.2.2.2.2.1,v0.2.2.2.2.2.1,v0.2.2.2.2.2.2.1,v0.2.2.2.2.2.2.2.1,v0.2.2.2.2.2.2.2.2))) (frk (a1==1) (Dp_l20Keeps_0 n a0 ((v0.1.1,v1,v0.1.2.2.1,v0.1.2.2.2.1,v0.1.2.2.2.2.1,v0.1.2.2.2.2.2.1,v0.1.2.2.2.2.2.2.1,v0.1.2.2.2.2.2.2.2),(v0.2.1,true,v0.2.2.2.1,v0.2.2.2.2.1,v0.2.2.2.2.2.1,v0.2.2.2.2.2.2.1,v0.2.2.2.2.2.2.2.1,v0.2.2.2.2.2.2.2.2))) (frk (a1==2) (Dp_l20Keeps_0 n a0 ((v0.1.1,v0.1.2.1,v1,v0.1.2.2.2.1,v0.1.2.2.2.2.1,v0.1.2.2.2.2.2.1,v0.1.2.2.2.2.2.2.1,v0.1.2.2.2.2.2.2.2),(v0.2.1,v0.2.2.1,true,v0.2.2.2.2.1,v0.2.2.2.2.2.1,v0.2.2.2.2.2.2.1,v0.2.2.2.2.2.2.2.1,v0.2.2.2.2.2.2.2.2))) (frk (a1==3) (Dp_l20Keeps_0 n a0 ((v0.1.1,v0.1.2.1,v0.1.2.2.1,v1,v0.1.2.2.2.2.1,v0.1.2.2.2.2.2.1,v0.1.2.2.2.2.2.2.1,v0.1.2.2.2.2.2.2.2),(v0.2.1,v0.2.2.1,v0.2.2.2.1,true,v0.2.2.2.2.2.1,v0.2.2.2.2.2.2.1,v0.2.2.2.2.2.2.2.1,v0.2.2.2.2.2.2.2.2))) (frk (a1==4) (Dp_l20Keeps_0 n a0 ((v0.1.1,v0.1.2.1,v0.1.2.2.1,v0.1.2.2.2.1,v1,v0.1.2.2.2.2.2.1,v0.1.2.2.2.2.2.2.1,v0.1.2.2.2.2.2.2.2),(v0.2.1,v0.2.2.1,v0.2.2.2.1,v0.2.2.2.2.1,true,v0.2.2.2.2.2.2.1,v0.2.2.2.2.2.2.2.1,v0.2.2.2.2.2.2.2.2))) (frk (a1==5) (Dp_l20Keeps_0 n a0 ((v0.1.1,v0.1.2.1,v0.1.2.2.1,v0.1.2.2.2.1,v0.1.2.2.2.2.1,v1,v0.1.2.2.2.2.2.2.1,v0.1.2.2.2.2.2.2.2),(v0.2.1,v0.2.2.1,v0.2.2.2.1,v0.2.2.2.2.1,v0.2.2.2.2.2.1,true,v0.2.2.2.2.2.2.2.1,v0.2.2.2.2.2.2.2.2))) (frk (a1==6) (Dp_l20Keeps_0 n a0 ((v0.1.1,v0.1.2.1,v0.1.2.2.1,v0.1.2.2.2.1,v0.1.2.2.2.2.1,v0.1.2.2.2.2.2.1,v1,v0.1.2.2.2.2.2.2.2),(v0.2.1,v0.2.2.1,v0.2.2.2.1,v0.2.2.2.2.1,v0.2.2.2.2.2.1,v0.2.2.2.2.2.2.1,true,v0.2.2.2.2.2.2.2.2))) (frk (a1==7) (Dp_l20Keeps_0 n a0 ((v0.1.1,v0.1.2.1,v0.1.2.2.1,v0.1.2.2.2.1,v0.1.2.2.2.2.1,v0.1.2.2.2.2.2.1,v0.1.2.2.2.2.2.2.1,v1),(v0.2.1,v0.2.2.1,v0.2.2.2.1,v0.2.2.2.2.1,v0.2.2.2.2.2.1,v0.2.2.2.2.2.2.1,v0.2.2.2.2.2.2.2.1,true))) (none))))))))
theorem Tp_l20Keeps{Y}(n:Nat)(a0:Dk8)(a1:Int)(a2:Sol)(r:(Dk8×Int))(h:Dp_l20Keeps n a0 a1 a2=some r):BT Y (.call 68 [.agg (cT52 a0),iN a1,eF a2] (lk []) (.tup [.agg (cT52o r.1),iN r.2]) (lk [])):=by
 unfold Dp_l20Keeps at h
 refine x_call (fn:=Tryz.f68) (c:=B68) (bs0:=[]) Tryz.func68 (by kernel_rfl) (by kernel_rfl) ?_
 obtain⟨v0,y0,h⟩:=bm h
 obtain⟨v1,y1,h⟩:=bm h
 refine x_pt 20 [(5,.call [] [] (.agg (cT52o v0)) []),(4,.call [] [] (eS v1) [])] (oC (Tp_l20Copy (Y:=Y) n a0 _ y0) (oI (Tp_l8Copy (Y:=Y) n a2 _ y1))) (by kernel_rfl) ?_
 rcases frk_eq h with ⟨hc,hk10⟩ | h
 ·subst hc
  replace h:=hk10
  exact x_to 12 [] oN (Tp_l20Keeps_0 n a0 ((v1,v0.1.2.1,v0.1.2.2.1,v0.1.2.2.2.1,v0.1.2.2.2.2.1,v0.1.2.2.2.2.2.1,v0.1.2.2.2.2.2.2.1,v0.1.2.2.2.2.2.2.2),(true,v0.2.2.1,v0.2.2.2.1,v0.2.2.2.2.1,v0.2.2.2.2.2.1,v0.2.2.2.2.2.2.1,v0.2.2.2.2.2.2.2.1,v0.2.2.2.2.2.2.2.2)) r h) 
 rcases frk_eq h with ⟨hc,hk11⟩ | h
 ·subst hc
  replace h:=hk11
  exact x_to 12 [] oN (Tp_l20Keeps_0 n a0 ((v0.1.1,v1,v0.1.2.2.1,v0.1.2.2.2.1,v0.1.2.2.2.2.1,v0.1.2.2.2.2.2.1,v0.1.2.2.2.2.2.2.1,v0.1.2.2.2.2.2.2.2),(v0.2.1,true,v0.2.2.2.1,v0.2.2.2.2.1,v0.2.2.2.2.2.1,v0.2.2.2.2.2.2.1,v0.2.2.2.2.2.2.2.1,v0.2.2.2.2.2.2.2.2)) r h) 
 rcases frk_eq h with ⟨hc,hk12⟩ | h
 ·subst hc
  replace h:=hk12
  exact x_to 12 [] oN (Tp_l20Keeps_0 n a0 ((v0.1.1,v0.1.2.1,v1,v0.1.2.2.2.1,v0.1.2.2.2.2.1,v0.1.2.2.2.2.2.1,v0.1.2.2.2.2.2.2.1,v0.1.2.2.2.2.2.2.2),(v0.2.1,v0.2.2.1,true,v0.2.2.2.2.1,v0.2.2.2.2.2.1,v0.2.2.2.2.2.2.1,v0.2.2.2.2.2.2.2.1,v0.2.2.2.2.2.2.2.2)) r h) 
 rcases frk_eq h with ⟨hc,hk13⟩ | h
 ·subst hc
  replace h:=hk13
  exact x_to 12 [] oN (Tp_l20Keeps_0 n a0 ((v0.1.1,v0.1.2.1,v0.1.2.2.1,v1,v0.1.2.2.2.2.1,v0.1.2.2.2.2.2.1,v0.1.2.2.2.2.2.2.1,v0.1.2.2.2.2.2.2.2),(v0.2.1,v0.2.2.1,v0.2.2.2.1,true,v0.2.2.2.2.2.1,v0.2.2.2.2.2.2.1,v0.2.2.2.2.2.2.2.1,v0.2.2.2.2.2.2.2.2)) r h) 
 rcases frk_eq h with ⟨hc,hk14⟩ | h
 ·subst hc
  replace h:=hk14
  exact x_to 12 [] oN (Tp_l20Keeps_0 n a0 ((v0.1.1,v0.1.2.1,v0.1.2.2.1,v0.1.2.2.2.1,v1,v0.1.2.2.2.2.2.1,v0.1.2.2.2.2.2.2.1,v0.1.2.2.2.2.2.2.2),(v0.2.1,v0.2.2.1,v0.2.2.2.1,v0.2.2.2.2.1,true,v0.2.2.2.2.2.2.1,v0.2.2.2.2.2.2.2.1,v0.2.2.2.2.2.2.2.2)) r h) 
 rcases frk_eq h with ⟨hc,hk15⟩ | h
 ·subst hc
  replace h:=hk15
  exact x_to 12 [] oN (Tp_l20Keeps_0 n a0 ((v0.1.1,v0.1.2.1,v0.1.2.2.1,v0.1.2.2.2.1,v0.1.2.2.2.2.1,v1,v0.1.2.2.2.2.2.2.1,v0.1.2.2.2.2.2.2.2),(v0.2.1,v0.2.2.1,v0.2.2.2.1,v0.2.2.2.2.1,v0.2.2.2.2.2.1,true,v0.2.2.2.2.2.2.2.1,v0.2.2.2.2.2.2.2.2)) r h) 
 rcases frk_eq h with ⟨hc,hk16⟩ | h
 ·subst hc
  replace h:=hk16
  exact x_to 12 [] oN (Tp_l20Keeps_0 n a0 ((v0.1.1,v0.1.2.1,v0.1.2.2.1,v0.1.2.2.2.1,v0.1.2.2.2.2.1,v0.1.2.2.2.2.2.1,v1,v0.1.2.2.2.2.2.2.2),(v0.2.1,v0.2.2.1,v0.2.2.2.1,v0.2.2.2.2.1,v0.2.2.2.2.2.1,v0.2.2.2.2.2.2.1,true,v0.2.2.2.2.2.2.2.2)) r h) 
 rcases frk_eq h with ⟨hc,hk17⟩ | h
 ·subst hc
  replace h:=hk17
  exact x_to 12 [] oN (Tp_l20Keeps_0 n a0 ((v0.1.1,v0.1.2.1,v0.1.2.2.1,v0.1.2.2.2.1,v0.1.2.2.2.2.1,v0.1.2.2.2.2.2.1,v0.1.2.2.2.2.2.2.1,v1),(v0.2.1,v0.2.2.1,v0.2.2.2.1,v0.2.2.2.2.1,v0.2.2.2.2.2.1,v0.2.2.2.2.2.2.1,v0.2.2.2.2.2.2.2.1,true)) r h) 
 exact absurd h (by simp)
end Evl.T
