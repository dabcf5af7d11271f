/- Walks. No condition. -/
import Derived.Test.YtomdcfehnigklaaJm
import Derived.Test.YtomdcfehnigklaaChecked
namespace Evl.T
open Go Evl Go.Proofs
set_option maxRecDepth 100000
def HF : FuncId → Bool := fun f => [11, 20, 39, 45, 111].contains f
def HB : Hints := { mv := hasP [(42, 12), (69, 26), (74, 23), (101, 18), (104, 15), (106, 17), (118, 24), (119, 23)], own := hasP [(60, 1), (65, 0), (67, 0), (134, 1), (134, 2), (136, 1), (136, 2), (155, 1), (189, 1), (189, 2), (200, 2), (200, 3)], mt := hasP [(87, 0), (88, 0), (89, 0), (90, 0), (91, 0), (92, 0), (93, 0), (132, 0), (145, 0), (146, 0), (147, 0), (148, 0), (149, 0), (150, 0), (175, 0), (185, 0), (186, 0), (188, 0), (199, 0), (200, 0), (217, 0)], eqt := fun t => [30, 104].contains t }
def H : Hints := withMarks HB Try.prog HF fun _ _ => True
def HL (l : List (Value × AV)) : Hints := HLg HB Try.prog HF l
def YL (l : List (Value × AV)) : FuncId → List AV → (Nat → Option Box) → AV → (Nat → Option Box) → Prop := YLg H Try.prog l
theorem gv {l : List (Value × AV)} {f : FuncId} {args args' : List AV} {bx bx' : Nat → Option Box} {r : AV} (h : Big Try.prog H (fun _ _ _ _ _ => False) (.call f args' bx r bx')) (ho : OldAs l args args') : Big Try.prog (HL l) (YL l) (.call f args bx r bx') := gvL h ho
def cT65 (a : ((Sol × Sol × Sol × Sol × Sol × Sol × Sol × Sol) × (Bool × Bool × Bool × Bool × Bool × Bool × Bool × Bool))) : List AV := [bl a.1.1.inn, i64 a.1.1.pl.A, i64 a.1.1.pl.B, i64 a.1.1.pl.C, i64 a.1.1.pl.D, .sl false 6 a.1.1.kids.length ((eSol false).f a.1.1.kids), bl a.1.2.1.inn, i64 a.1.2.1.pl.A, i64 a.1.2.1.pl.B, i64 a.1.2.1.pl.C, i64 a.1.2.1.pl.D, .sl false 6 a.1.2.1.kids.length ((eSol false).f a.1.2.1.kids), bl a.1.2.2.1.inn, i64 a.1.2.2.1.pl.A, i64 a.1.2.2.1.pl.B, i64 a.1.2.2.1.pl.C, i64 a.1.2.2.1.pl.D, .sl false 6 a.1.2.2.1.kids.length ((eSol false).f a.1.2.2.1.kids), bl a.1.2.2.2.1.inn, i64 a.1.2.2.2.1.pl.A, i64 a.1.2.2.2.1.pl.B, i64 a.1.2.2.2.1.pl.C, i64 a.1.2.2.2.1.pl.D, .sl false 6 a.1.2.2.2.1.kids.length ((eSol false).f a.1.2.2.2.1.kids), bl a.1.2.2.2.2.1.inn, i64 a.1.2.2.2.2.1.pl.A, i64 a.1.2.2.2.2.1.pl.B, i64 a.1.2.2.2.2.1.pl.C, i64 a.1.2.2.2.2.1.pl.D, .sl false 6 a.1.2.2.2.2.1.kids.length ((eSol false).f a.1.2.2.2.2.1.kids), bl a.1.2.2.2.2.2.1.inn, i64 a.1.2.2.2.2.2.1.pl.A, i64 a.1.2.2.2.2.2.1.pl.B, i64 a.1.2.2.2.2.2.1.pl.C, i64 a.1.2.2.2.2.2.1.pl.D, .sl false 6 a.1.2.2.2.2.2.1.kids.length ((eSol false).f a.1.2.2.2.2.2.1.kids), bl a.1.2.2.2.2.2.2.1.inn, i64 a.1.2.2.2.2.2.2.1.pl.A, i64 a.1.2.2.2.2.2.2.1.pl.B, i64 a.1.2.2.2.2.2.2.1.pl.C, i64 a.1.2.2.2.2.2.2.1.pl.D, .sl false 6 a.1.2.2.2.2.2.2.1.kids.length ((eSol false).f a.1.2.2.2.2.2.2.1.kids), bl a.1.2.2.2.2.2.2.2.inn, i64 a.1.2.2.2.2.2.2.2.pl.A, i64 a.1.2.2.2.2.2.2.2.pl.B, i64 a.1.2.2.2.2.2.2.2.pl.C, i64 a.1.2.2.2.2.2.2.2.pl.D, .sl false 6 a.1.2.2.2.2.2.2.2.kids.length ((eSol false).f a.1.2.2.2.2.2.2.2.kids), bl a.2.1, bl a.2.2.1, bl a.2.2.2.1, bl a.2.2.2.2.1, bl a.2.2.2.2.2.1, bl a.2.2.2.2.2.2.1, bl a.2.2.2.2.2.2.2.1, bl a.2.2.2.2.2.2.2.2]
def cT62 (a : (Sol × Sol × Sol × Sol × Sol × Sol × Sol × Sol)) : List AV := [bl a.1.inn, i64 a.1.pl.A, i64 a.1.pl.B, i64 a.1.pl.C, i64 a.1.pl.D, .sl false 6 a.1.kids.length ((eSol false).f a.1.kids), bl a.2.1.inn, i64 a.2.1.pl.A, i64 a.2.1.pl.B, i64 a.2.1.pl.C, i64 a.2.1.pl.D, .sl false 6 a.2.1.kids.length ((eSol false).f a.2.1.kids), bl a.2.2.1.inn, i64 a.2.2.1.pl.A, i64 a.2.2.1.pl.B, i64 a.2.2.1.pl.C, i64 a.2.2.1.pl.D, .sl false 6 a.2.2.1.kids.length ((eSol false).f a.2.2.1.kids), bl a.2.2.2.1.inn, i64 a.2.2.2.1.pl.A, i64 a.2.2.2.1.pl.B, i64 a.2.2.2.1.pl.C, i64 a.2.2.2.1.pl.D, .sl false 6 a.2.2.2.1.kids.length ((eSol false).f a.2.2.2.1.kids), bl a.2.2.2.2.1.inn, i64 a.2.2.2.2.1.pl.A, i64 a.2.2.2.2.1.pl.B, i64 a.2.2.2.2.1.pl.C, i64 a.2.2.2.2.1.pl.D, .sl false 6 a.2.2.2.2.1.kids.length ((eSol false).f a.2.2.2.2.1.kids), bl a.2.2.2.2.2.1.inn, i64 a.2.2.2.2.2.1.pl.A, i64 a.2.2.2.2.2.1.pl.B, i64 a.2.2.2.2.2.1.pl.C, i64 a.2.2.2.2.2.1.pl.D, .sl false 6 a.2.2.2.2.2.1.kids.length ((eSol false).f a.2.2.2.2.2.1.kids), bl a.2.2.2.2.2.2.1.inn, i64 a.2.2.2.2.2.2.1.pl.A, i64 a.2.2.2.2.2.2.1.pl.B, i64 a.2.2.2.2.2.2.1.pl.C, i64 a.2.2.2.2.2.2.1.pl.D, .sl false 6 a.2.2.2.2.2.2.1.kids.length ((eSol false).f a.2.2.2.2.2.2.1.kids), bl a.2.2.2.2.2.2.2.inn, i64 a.2.2.2.2.2.2.2.pl.A, i64 a.2.2.2.2.2.2.2.pl.B, i64 a.2.2.2.2.2.2.2.pl.C, i64 a.2.2.2.2.2.2.2.pl.D, .sl false 6 a.2.2.2.2.2.2.2.kids.length ((eSol false).f a.2.2.2.2.2.2.2.kids)]
def cT67o (a : (Sol × Sol × Sol × Sol × Sol × Sol × Sol × Sol)) : List AV := [bl a.1.inn, i64 a.1.pl.A, i64 a.1.pl.B, i64 a.1.pl.C, i64 a.1.pl.D, .sl true 6 a.1.kids.length ((eSol true).f a.1.kids), bl a.2.1.inn, i64 a.2.1.pl.A, i64 a.2.1.pl.B, i64 a.2.1.pl.C, i64 a.2.1.pl.D, .sl true 6 a.2.1.kids.length ((eSol true).f a.2.1.kids), bl a.2.2.1.inn, i64 a.2.2.1.pl.A, i64 a.2.2.1.pl.B, i64 a.2.2.1.pl.C, i64 a.2.2.1.pl.D, .sl true 6 a.2.2.1.kids.length ((eSol true).f a.2.2.1.kids), bl a.2.2.2.1.inn, i64 a.2.2.2.1.pl.A, i64 a.2.2.2.1.pl.B, i64 a.2.2.2.1.pl.C, i64 a.2.2.2.1.pl.D, .sl true 6 a.2.2.2.1.kids.length ((eSol true).f a.2.2.2.1.kids), bl a.2.2.2.2.1.inn, i64 a.2.2.2.2.1.pl.A, i64 a.2.2.2.2.1.pl.B, i64 a.2.2.2.2.1.pl.C, i64 a.2.2.2.2.1.pl.D, .sl true 6 a.2.2.2.2.1.kids.length ((eSol true).f a.2.2.2.2.1.kids), bl a.2.2.2.2.2.1.inn, i64 a.2.2.2.2.2.1.pl.A, i64 a.2.2.2.2.2.1.pl.B, i64 a.2.2.2.2.2.1.pl.C, i64 a.2.2.2.2.2.1.pl.D, .sl true 6 a.2.2.2.2.2.1.kids.length ((eSol true).f a.2.2.2.2.2.1.kids), bl a.2.2.2.2.2.2.1.inn, i64 a.2.2.2.2.2.2.1.pl.A, i64 a.2.2.2.2.2.2.1.pl.B, i64 a.2.2.2.2.2.2.1.pl.C, i64 a.2.2.2.2.2.2.1.pl.D, .sl true 6 a.2.2.2.2.2.2.1.kids.length ((eSol true).f a.2.2.2.2.2.2.1.kids), bl a.2.2.2.2.2.2.2.inn, i64 a.2.2.2.2.2.2.2.pl.A, i64 a.2.2.2.2.2.2.2.pl.B, i64 a.2.2.2.2.2.2.2.pl.C, i64 a.2.2.2.2.2.2.2.pl.D, .sl true 6 a.2.2.2.2.2.2.2.kids.length ((eSol true).f a.2.2.2.2.2.2.2.kids)]
def cT69o (a : ((Sol × Sol × Sol × Sol × Sol × Sol × Sol × Sol) × (Bool × Bool × Bool × Bool × Bool × Bool × Bool × Bool))) : List AV := [bl a.1.1.inn, i64 a.1.1.pl.A, i64 a.1.1.pl.B, i64 a.1.1.pl.C, i64 a.1.1.pl.D, .sl true 6 a.1.1.kids.length ((eSol true).f a.1.1.kids), bl a.1.2.1.inn, i64 a.1.2.1.pl.A, i64 a.1.2.1.pl.B, i64 a.1.2.1.pl.C, i64 a.1.2.1.pl.D, .sl true 6 a.1.2.1.kids.length ((eSol true).f a.1.2.1.kids), bl a.1.2.2.1.inn, i64 a.1.2.2.1.pl.A, i64 a.1.2.2.1.pl.B, i64 a.1.2.2.1.pl.C, i64 a.1.2.2.1.pl.D, .sl true 6 a.1.2.2.1.kids.length ((eSol true).f a.1.2.2.1.kids), bl a.1.2.2.2.1.inn, i64 a.1.2.2.2.1.pl.A, i64 a.1.2.2.2.1.pl.B, i64 a.1.2.2.2.1.pl.C, i64 a.1.2.2.2.1.pl.D, .sl true 6 a.1.2.2.2.1.kids.length ((eSol true).f a.1.2.2.2.1.kids), bl a.1.2.2.2.2.1.inn, i64 a.1.2.2.2.2.1.pl.A, i64 a.1.2.2.2.2.1.pl.B, i64 a.1.2.2.2.2.1.pl.C, i64 a.1.2.2.2.2.1.pl.D, .sl true 6 a.1.2.2.2.2.1.kids.length ((eSol true).f a.1.2.2.2.2.1.kids), bl a.1.2.2.2.2.2.1.inn, i64 a.1.2.2.2.2.2.1.pl.A, i64 a.1.2.2.2.2.2.1.pl.B, i64 a.1.2.2.2.2.2.1.pl.C, i64 a.1.2.2.2.2.2.1.pl.D, .sl true 6 a.1.2.2.2.2.2.1.kids.length ((eSol true).f a.1.2.2.2.2.2.1.kids), bl a.1.2.2.2.2.2.2.1.inn, i64 a.1.2.2.2.2.2.2.1.pl.A, i64 a.1.2.2.2.2.2.2.1.pl.B, i64 a.1.2.2.2.2.2.2.1.pl.C, i64 a.1.2.2.2.2.2.2.1.pl.D, .sl true 6 a.1.2.2.2.2.2.2.1.kids.length ((eSol true).f a.1.2.2.2.2.2.2.1.kids), bl a.1.2.2.2.2.2.2.2.inn, i64 a.1.2.2.2.2.2.2.2.pl.A, i64 a.1.2.2.2.2.2.2.2.pl.B, i64 a.1.2.2.2.2.2.2.2.pl.C, i64 a.1.2.2.2.2.2.2.2.pl.D, .sl true 6 a.1.2.2.2.2.2.2.2.kids.length ((eSol true).f a.1.2.2.2.2.2.2.2.kids), bl a.2.1, bl a.2.2.1, bl a.2.2.2.1, bl a.2.2.2.2.1, bl a.2.2.2.2.2.1, bl a.2.2.2.2.2.2.1, bl a.2.2.2.2.2.2.2.1, bl a.2.2.2.2.2.2.2.2]
def cT69 (a : ((Sol × Sol × Sol × Sol × Sol × Sol × Sol × Sol) × (Bool × Bool × Bool × Bool × Bool × Bool × Bool × Bool))) : List AV := [bl a.1.1.inn, i64 a.1.1.pl.A, i64 a.1.1.pl.B, i64 a.1.1.pl.C, i64 a.1.1.pl.D, .sl false 6 a.1.1.kids.length ((eSol false).f a.1.1.kids), bl a.1.2.1.inn, i64 a.1.2.1.pl.A, i64 a.1.2.1.pl.B, i64 a.1.2.1.pl.C, i64 a.1.2.1.pl.D, .sl false 6 a.1.2.1.kids.length ((eSol false).f a.1.2.1.kids), bl a.1.2.2.1.inn, i64 a.1.2.2.1.pl.A, i64 a.1.2.2.1.pl.B, i64 a.1.2.2.1.pl.C, i64 a.1.2.2.1.pl.D, .sl false 6 a.1.2.2.1.kids.length ((eSol false).f a.1.2.2.1.kids), bl a.1.2.2.2.1.inn, i64 a.1.2.2.2.1.pl.A, i64 a.1.2.2.2.1.pl.B, i64 a.1.2.2.2.1.pl.C, i64 a.1.2.2.2.1.pl.D, .sl false 6 a.1.2.2.2.1.kids.length ((eSol false).f a.1.2.2.2.1.kids), bl a.1.2.2.2.2.1.inn, i64 a.1.2.2.2.2.1.pl.A, i64 a.1.2.2.2.2.1.pl.B, i64 a.1.2.2.2.2.1.pl.C, i64 a.1.2.2.2.2.1.pl.D, .sl false 6 a.1.2.2.2.2.1.kids.length ((eSol false).f a.1.2.2.2.2.1.kids), bl a.1.2.2.2.2.2.1.inn, i64 a.1.2.2.2.2.2.1.pl.A, i64 a.1.2.2.2.2.2.1.pl.B, i64 a.1.2.2.2.2.2.1.pl.C, i64 a.1.2.2.2.2.2.1.pl.D, .sl false 6 a.1.2.2.2.2.2.1.kids.length ((eSol false).f a.1.2.2.2.2.2.1.kids), bl a.1.2.2.2.2.2.2.1.inn, i64 a.1.2.2.2.2.2.2.1.pl.A, i64 a.1.2.2.2.2.2.2.1.pl.B, i64 a.1.2.2.2.2.2.2.1.pl.C, i64 a.1.2.2.2.2.2.2.1.pl.D, .sl false 6 a.1.2.2.2.2.2.2.1.kids.length ((eSol false).f a.1.2.2.2.2.2.2.1.kids), bl a.1.2.2.2.2.2.2.2.inn, i64 a.1.2.2.2.2.2.2.2.pl.A, i64 a.1.2.2.2.2.2.2.2.pl.B, i64 a.1.2.2.2.2.2.2.2.pl.C, i64 a.1.2.2.2.2.2.2.2.pl.D, .sl false 6 a.1.2.2.2.2.2.2.2.kids.length ((eSol false).f a.1.2.2.2.2.2.2.2.kids), bl a.2.1, bl a.2.2.1, bl a.2.2.2.1, bl a.2.2.2.2.1, bl a.2.2.2.2.2.1, bl a.2.2.2.2.2.2.1, bl a.2.2.2.2.2.2.2.1, bl a.2.2.2.2.2.2.2.2]
def cT67 (a : (Sol × Sol × Sol × Sol × Sol × Sol × Sol × Sol)) : List AV := [bl a.1.inn, i64 a.1.pl.A, i64 a.1.pl.B, i64 a.1.pl.C, i64 a.1.pl.D, .sl false 6 a.1.kids.length ((eSol false).f a.1.kids), bl a.2.1.inn, i64 a.2.1.pl.A, i64 a.2.1.pl.B, i64 a.2.1.pl.C, i64 a.2.1.pl.D, .sl false 6 a.2.1.kids.length ((eSol false).f a.2.1.kids), bl a.2.2.1.inn, i64 a.2.2.1.pl.A, i64 a.2.2.1.pl.B, i64 a.2.2.1.pl.C, i64 a.2.2.1.pl.D, .sl false 6 a.2.2.1.kids.length ((eSol false).f a.2.2.1.kids), bl a.2.2.2.1.inn, i64 a.2.2.2.1.pl.A, i64 a.2.2.2.1.pl.B, i64 a.2.2.2.1.pl.C, i64 a.2.2.2.1.pl.D, .sl false 6 a.2.2.2.1.kids.length ((eSol false).f a.2.2.2.1.kids), bl a.2.2.2.2.1.inn, i64 a.2.2.2.2.1.pl.A, i64 a.2.2.2.2.1.pl.B, i64 a.2.2.2.2.1.pl.C, i64 a.2.2.2.2.1.pl.D, .sl false 6 a.2.2.2.2.1.kids.length ((eSol false).f a.2.2.2.2.1.kids), bl a.2.2.2.2.2.1.inn, i64 a.2.2.2.2.2.1.pl.A, i64 a.2.2.2.2.2.1.pl.B, i64 a.2.2.2.2.2.1.pl.C, i64 a.2.2.2.2.2.1.pl.D, .sl false 6 a.2.2.2.2.2.1.kids.length ((eSol false).f a.2.2.2.2.2.1.kids), bl a.2.2.2.2.2.2.1.inn, i64 a.2.2.2.2.2.2.1.pl.A, i64 a.2.2.2.2.2.2.1.pl.B, i64 a.2.2.2.2.2.2.1.pl.C, i64 a.2.2.2.2.2.2.1.pl.D, .sl false 6 a.2.2.2.2.2.2.1.kids.length ((eSol false).f a.2.2.2.2.2.2.1.kids), bl a.2.2.2.2.2.2.2.inn, i64 a.2.2.2.2.2.2.2.pl.A, i64 a.2.2.2.2.2.2.2.pl.B, i64 a.2.2.2.2.2.2.2.pl.C, i64 a.2.2.2.2.2.2.2.pl.D, .sl false 6 a.2.2.2.2.2.2.2.kids.length ((eSol false).f a.2.2.2.2.2.2.2.kids)]
/-! laws.szSolidS -/
def Dlaws_szSolidS_in_0 (_n : Nat) (self : (Sol × Int) → Option Int) (t0 : List Sol) (rec0 : (Int × Int) → Option Int) (a : (Int × Int)) : Option Int :=
  match a with
  | (t1, t5) => frk (decide (t5 < (t0.length : Int))) ((lget t0 t5).bind fun v0 => (self (v0, t1)).bind fun v1 => frk (decide (v1 < 0)) (some (-1)) (rec0 (v1, w64 (t5 + 1)))) (some t1)
theorem Tlaws_szSolidS_in_0 {Y} (n : Nat) (self : (Sol × Int) → Option Int) (hself : ∀ (a : (Sol × Int)) (r : Int), self a = some r → Big Try.prog H Y (.call 14 [.agg [bl a.1.inn, i64 a.1.pl.A, i64 a.1.pl.B, i64 a.1.pl.C, i64 a.1.pl.D, .sl false 6 a.1.kids.length ((eSol false).f a.1.kids)], i64 a.2] (lk []) (i64 r) (lk []))) (t0 : List Sol) : ∀ (m : Nat) (a : (Int × Int)) (r : Int), loopN (Dlaws_szSolidS_in_0 n self t0) m a = some r → Wk Try.prog H Y 34 [.code (cp [1, 1, 1, 0, 1, 0] (bodyOf Try.f34)), .blk 0, .code (cp [1, 1, 1, 1] (bodyOf Try.f34))] (FinX Try.prog Try.f34 [] (i64 r) []) ⟨[(0, .sl false 6 t0.length ((eSol false).f t0)), (1, i64 a.1), (5, i64 a.2)], []⟩ := by
  refine loopN_ind (fun _rec0 hrec0 a r h => ?_)
  obtain ⟨t1, t5⟩ := a
  unfold Dlaws_szSolidS_in_0 at h
  refine x_frk 9 [] onil h (by kernel_rfl) (fun h => ?_) (fun h => ?_)
  · obtain ⟨v0, hv0, h⟩ := bind_some h
    obtain ⟨v1, hv1, h⟩ := bind_some h
    refine x_frk 18 [(2, .val (.cptr ((eSol false).c v0 ++ (eSol false).f ((t0).drop (Int.toNat t5 + 1))))), (2, .call [] [] (i64 v1) [])] (ocons (ix (eSol false) hv0) (ocons (hself (v0, t1) _ hv1) onil)) h (by kernel_rfl) (fun h => ?_) (fun h => ?_)
    · replace h := Option.some.inj h; subst h
      exact x_end 4 [] [] onil onil (by kernel_rfl)
    · exact x_to 8 [] onil (hrec0 (v1, w64 (t5 + 1)) r h) (by kernel_rfl)
  · replace h := Option.some.inj h; subst h
    exact x_end 6 [] [] onil onil (by kernel_rfl)
def Dlaws_szSolidS_in (n : Nat) (self : (Sol × Int) → Option Int) (a0 : (List Sol)) (a1 : Int) : Option Int :=
  frk (decide ((w64 (a1 - (a0.length : Int))) < 0)) (some (-1)) (loopN (Dlaws_szSolidS_in_0 n self a0) n (w64 (a1 - (a0.length : Int)), 0))
theorem Tlaws_szSolidS_in {Y} (n : Nat) (self : (Sol × Int) → Option Int) (hself : ∀ (a : (Sol × Int)) (r : Int), self a = some r → Big Try.prog H Y (.call 14 [.agg [bl a.1.inn, i64 a.1.pl.A, i64 a.1.pl.B, i64 a.1.pl.C, i64 a.1.pl.D, .sl false 6 a.1.kids.length ((eSol false).f a.1.kids)], i64 a.2] (lk []) (i64 r) (lk []))) (a0 : (List Sol)) (a1 r : Int) (h : Dlaws_szSolidS_in n self a0 a1 = some r) : Big Try.prog H Y (.call 34 [.sl false 6 a0.length ((eSol false).f a0), i64 a1] (lk []) (i64 r) (lk [])) := by
  unfold Dlaws_szSolidS_in at h
  refine x_call (fn := Try.f34) (c := bodyOf Try.f34) (bs0 := []) Try.func34 (by kernel_rfl) (by kernel_rfl) ?_
  refine x_frk 18 [] onil h (by kernel_rfl) (fun h => ?_) (fun h => ?_)
  · replace h := Option.some.inj h; subst h
    exact x_end 4 [] [] onil onil (by kernel_rfl)
  · exact x_to 7 [] onil (Tlaws_szSolidS_in_0 n self hself a0 n (w64 (a1 - (a0.length : Int)), 0) r h) (by kernel_rfl)
/-! laws.szSolid -/
def Dlaws_szSolid_b (n : Nat) (self : (Sol × Int) → Option Int) (a : (Sol × Int)) : Option Int :=
  match a with
  | (a0, a1) => (Dlaws_szSolidS_in n self a0.kids a1).bind fun v0 => frk (decide (v0 < 0)) (some (-1)) (some v0)
def Dlaws_szSolid (n : Nat) (a0 : Sol) (a1 : Int) : Option Int := loopN (Dlaws_szSolid_b n) n (a0, a1)
theorem Tlaws_szSolid_b {Y} (n : Nat) : ∀ (m : Nat) (a : (Sol × Int)) (r : Int), loopN (Dlaws_szSolid_b n) m a = some r → ∀ (_ : Unit), Big Try.prog H Y (.call 14 [.agg [bl a.1.inn, i64 a.1.pl.A, i64 a.1.pl.B, i64 a.1.pl.C, i64 a.1.pl.D, .sl false 6 a.1.kids.length ((eSol false).f a.1.kids)], i64 a.2] (lk []) (i64 r) (lk [])) := by
  refine loopN_ind (fun self hs a r h => ?_)
  have hself : ∀ (a : (Sol × Int)) (r : Int), self a = some r → Big Try.prog H Y (.call 14 [.agg [bl a.1.inn, i64 a.1.pl.A, i64 a.1.pl.B, i64 a.1.pl.C, i64 a.1.pl.D, .sl false 6 a.1.kids.length ((eSol false).f a.1.kids)], i64 a.2] (lk []) (i64 r) (lk [])) := fun a r h => hs a r h ()
  intro _
  obtain ⟨a0, a1⟩ := a
  unfold Dlaws_szSolid_b at h
  refine x_call (fn := Try.f14) (c := bodyOf Try.f14) (bs0 := []) Try.func14 (by kernel_rfl) (by kernel_rfl) ?_
  obtain ⟨v0, hv0, h⟩ := bind_some h
  refine x_frk 19 [(5, .call [] [] (i64 v0) [])] (ocons (Tlaws_szSolidS_in (Y := Y) n self hself a0.kids a1 _ hv0) onil) h (by kernel_rfl) (fun h => ?_) (fun h => ?_)
  · replace h := Option.some.inj h; subst h
    exact x_end 4 [] [] onil onil (by kernel_rfl)
  · replace h := Option.some.inj h; subst h
    exact x_end 6 [] [] onil onil (by kernel_rfl)
theorem Tlaws_szSolid {Y} (n : Nat) (a0 : Sol) (a1 r : Int) (h : Dlaws_szSolid n a0 a1 = some r) : Big Try.prog H Y (.call 14 [.agg [bl a0.inn, i64 a0.pl.A, i64 a0.pl.B, i64 a0.pl.C, i64 a0.pl.D, .sl false 6 a0.kids.length ((eSol false).f a0.kids)], i64 a1] (lk []) (i64 r) (lk [])) := Tlaws_szSolid_b n n (a0, a1) r h ()
/-! laws.toPlane -/
def Dlaws_toPlane (a0 : Pl) : Option Pl :=
  some a0
theorem Tlaws_toPlane {Y} (a0 : Pl) (r : Pl) (h : Dlaws_toPlane a0 = some r) : Big Try.prog H Y (.call 63 [.agg [i64 a0.A, i64 a0.B, i64 a0.C, i64 a0.D]] (lk []) (.agg [i64 r.A, i64 r.B, i64 r.C, i64 r.D]) (lk [])) := by
  unfold Dlaws_toPlane at h
  refine x_call (fn := Try.f63) (c := bodyOf Try.f63) (bs0 := []) Try.func63 (by kernel_rfl) (by kernel_rfl) ?_
  replace h := Option.some.inj h; subst h
  exact x_end 42 [] [] onil onil (by kernel_rfl)
/-! laws.toSolidS -/
def Dlaws_toSolidS_in_0 (_n : Nat) (self : Sol → Option Sol) (t0 : List Sol) (rec0 : (Int × List Sol) → Option (List Sol)) (a : (Int × List Sol)) : Option (List Sol) :=
  match a with
  | (t4, l7) => frk (decide (t4 < (t0.length : Int))) ((lget t0 t4).bind fun v1 => (self v1).bind fun v2 => (lget l7 t4).bind fun _v3 => rec0 (w64 (t4 + 1), (l7.set (Int.toNat t4) v2))) (some l7)
theorem Tlaws_toSolidS_in_0 {Y} (n : Nat) (self : Sol → Option Sol) (hself : ∀ (a : Sol) (r : Sol), self a = some r → Big Try.prog H Y (.call 16 [.agg [bl a.inn, i64 a.pl.A, i64 a.pl.B, i64 a.pl.C, i64 a.pl.D, .sl false 6 a.kids.length ((eSol false).f a.kids)]] (lk []) (.agg [bl r.inn, i64 r.pl.A, i64 r.pl.B, i64 r.pl.C, i64 r.pl.D, .sl true 6 r.kids.length ((eSol true).f r.kids)]) (lk []))) (t0 : List Sol) : ∀ (m : Nat) (a : (Int × List Sol)) (r : (List Sol)), loopN (Dlaws_toSolidS_in_0 n self t0) m a = some r → Wk Try.prog H Y 36 [.code (cp [1, 1, 0, 1, 0] (bodyOf Try.f36)), .blk 0, .code (cp [1, 1, 1] (bodyOf Try.f36))] (FinX Try.prog Try.f36 [] (.sl true 6 r.length ((eSol true).f r)) []) ⟨[(0, .sl false 6 t0.length ((eSol false).f t0)), (3, .msl 7 a.2.length), (4, i64 a.1)], [(7, ⟨true, 6, (eSol true).f a.2⟩)]⟩ := by
  refine loopN_ind (fun _rec0 hrec0 a r h => ?_)
  obtain ⟨t4, l7⟩ := a
  unfold Dlaws_toSolidS_in_0 at h
  refine x_frk 9 [] onil h (by kernel_rfl) (fun h => ?_) (fun h => ?_)
  · obtain ⟨v1, hv1, h⟩ := bind_some h
    obtain ⟨v2, hv2, h⟩ := bind_some h
    obtain ⟨_v3, hv3, h⟩ := bind_some h
    exact x_to 23 [(4, .val (.cptr ((eSol false).c v1 ++ (eSol false).f ((t0).drop (Int.toNat t4 + 1))))), (1, .call [] [] (.agg [bl v2.inn, i64 v2.pl.A, i64 v2.pl.B, i64 v2.pl.C, i64 v2.pl.D, .sl true 6 v2.kids.length ((eSol true).f v2.kids)]) []), (0, .unit), (0, .cells ((eSol true).f (l7.set (Int.toNat t4) v2))), (0, .fix 3 (.msl 7 (l7.set (Int.toNat t4) v2).length)), (0, .fix 14 (.msl 7 (l7.set (Int.toNat t4) v2).length))] (ocons (ix (eSol false) hv1) (ocons (hself v1 _ hv2) (ocons (inr hv3) (ocons (stA (eSol true) hv3 0 6 [bl v2.inn, i64 v2.pl.A, i64 v2.pl.B, i64 v2.pl.C, i64 v2.pl.D, .sl true 6 v2.kids.length ((eSol true).f v2.kids)] v2 rfl rfl) (ocons (setLen 7 l7 (Int.toNat t4) v2) (ocons (setLen 7 l7 (Int.toNat t4) v2) onil)))))) (hrec0 (w64 (t4 + 1), (l7.set (Int.toNat t4) v2)) r h) (by kernel_rfl)
  · replace h := Option.some.inj h; subst h
    exact x_end 6 [] [] onil (ocons (len_row (L := l7) (eSol true)) onil) (by kernel_rfl)
def Dlaws_toSolidS_in (n : Nat) (self : Sol → Option Sol) (a0 : (List Sol)) : Option (List Sol) :=
  chk (mkB (a0.length : Int) 64) (loopN (Dlaws_toSolidS_in_0 n self a0) n (0, (List.replicate (Int.toNat (a0.length : Int)) zSol)))
theorem Tlaws_toSolidS_in {Y} (n : Nat) (self : Sol → Option Sol) (hself : ∀ (a : Sol) (r : Sol), self a = some r → Big Try.prog H Y (.call 16 [.agg [bl a.inn, i64 a.pl.A, i64 a.pl.B, i64 a.pl.C, i64 a.pl.D, .sl false 6 a.kids.length ((eSol false).f a.kids)]] (lk []) (.agg [bl r.inn, i64 r.pl.A, i64 r.pl.B, i64 r.pl.C, i64 r.pl.D, .sl true 6 r.kids.length ((eSol true).f r.kids)]) (lk []))) (a0 : (List Sol)) (r : (List Sol)) (h : Dlaws_toSolidS_in n self a0 = some r) : Big Try.prog H Y (.call 36 [.sl false 6 a0.length ((eSol false).f a0)] (lk []) (.sl true 6 r.length ((eSol true).f r)) (lk [])) := by
  unfold Dlaws_toSolidS_in at h
  refine x_call (fn := Try.f36) (c := bodyOf Try.f36) (bs0 := []) Try.func36 (by kernel_rfl) (by kernel_rfl) ?_
  obtain ⟨c0, h⟩ := chk_some h
  exact x_to 20 [(3, .mk (List.replicate (Int.toNat (a0.length : Int)) ()).length (eZs.f (List.replicate (Int.toNat (a0.length : Int)) ()))), (1, .wkb 7 ⟨true, 6, eZs.f (List.replicate (Int.toNat (a0.length : Int)) ())⟩ ⟨true, 6, (eSol true).f (List.replicate (Int.toNat (a0.length : Int)) zSol)⟩), (0, .fix 3 (.msl 7 (List.replicate (Int.toNat (a0.length : Int)) zSol).length)), (0, .fix 7 (.msl 7 (List.replicate (Int.toNat (a0.length : Int)) zSol).length))] (ocons (rflI (a0.length : Int)) (ocons (mkOk eZs c0 () rfl) (ocons (rflB ⟨true, 6, eZs.f (List.replicate (Int.toNat (a0.length : Int)) ())⟩) (ocons (wkZs true true (Int.toNat (a0.length : Int))) (ocons (congrArg (AV.msl 7) (zLen (Int.toNat (a0.length : Int)))) (ocons (congrArg (AV.msl 7) (zLen (Int.toNat (a0.length : Int)))) onil)))))) (Tlaws_toSolidS_in_0 n self hself a0 n (0, (List.replicate (Int.toNat (a0.length : Int)) zSol)) r h) (by kernel_rfl)
/-! laws.toSolid -/
def Dlaws_toSolid_b (n : Nat) (self : Sol → Option Sol) (a : Sol) : Option Sol :=
  match a with
  | a0 => (Dlaws_toPlane a0.pl).bind fun v0 => (Dlaws_toSolidS_in n self a0.kids).bind fun v1 => some (Sol.mk a0.inn v0 v1)
def Dlaws_toSolid (n : Nat) (a0 : Sol) : Option Sol := loopN (Dlaws_toSolid_b n) n a0
theorem Tlaws_toSolid_b {Y} (n : Nat) : ∀ (m : Nat) (a : Sol) (r : Sol), loopN (Dlaws_toSolid_b n) m a = some r → ∀ (_ : Unit), Big Try.prog H Y (.call 16 [.agg [bl a.inn, i64 a.pl.A, i64 a.pl.B, i64 a.pl.C, i64 a.pl.D, .sl false 6 a.kids.length ((eSol false).f a.kids)]] (lk []) (.agg [bl r.inn, i64 r.pl.A, i64 r.pl.B, i64 r.pl.C, i64 r.pl.D, .sl true 6 r.kids.length ((eSol true).f r.kids)]) (lk [])) := by
  refine loopN_ind (fun self hs a r h => ?_)
  have hself : ∀ (a : Sol) (r : Sol), self a = some r → Big Try.prog H Y (.call 16 [.agg [bl a.inn, i64 a.pl.A, i64 a.pl.B, i64 a.pl.C, i64 a.pl.D, .sl false 6 a.kids.length ((eSol false).f a.kids)]] (lk []) (.agg [bl r.inn, i64 r.pl.A, i64 r.pl.B, i64 r.pl.C, i64 r.pl.D, .sl true 6 r.kids.length ((eSol true).f r.kids)]) (lk [])) := fun a r h => hs a r h ()
  intro _
  obtain ⟨a0, rfl⟩ : ∃ x, x = a := ⟨a, rfl⟩
  unfold Dlaws_toSolid_b at h
  refine x_call (fn := Try.f16) (c := bodyOf Try.f16) (bs0 := []) Try.func16 (by kernel_rfl) (by kernel_rfl) ?_
  obtain ⟨v0, hv0, h⟩ := bind_some h
  obtain ⟨v1, hv1, h⟩ := bind_some h
  replace h := Option.some.inj h; subst h
  exact x_end 37 [(9, .call [] [] (.agg [i64 v0.A, i64 v0.B, i64 v0.C, i64 v0.D]) []), (4, .call [] [] (.sl true 6 v1.length ((eSol true).f v1)) [])] [] (ocons (Tlaws_toPlane (Y := Y) a0.pl _ hv0) (ocons (Tlaws_toSolidS_in (Y := Y) n self hself a0.kids _ hv1) onil)) (ocons (len_row (L := v1) (eSol true)) onil) (by kernel_rfl)
theorem Tlaws_toSolid {Y} (n : Nat) (a0 : Sol) (r : Sol) (h : Dlaws_toSolid n a0 = some r) : Big Try.prog H Y (.call 16 [.agg [bl a0.inn, i64 a0.pl.A, i64 a0.pl.B, i64 a0.pl.C, i64 a0.pl.D, .sl false 6 a0.kids.length ((eSol false).f a0.kids)]] (lk []) (.agg [bl r.inn, i64 r.pl.A, i64 r.pl.B, i64 r.pl.C, i64 r.pl.D, .sl true 6 r.kids.length ((eSol true).f r.kids)]) (lk [])) := Tlaws_toSolid_b n n a0 r h ()
/-! laws.eqPlane -/
def Dlaws_eqPlane (a0 : Pl) (a1 : Pl) : Option Bool :=
  frk (a0.A != a1.A) (some false) (frk (a0.B != a1.B) (some false) (frk (a0.C != a1.C) (some false) (frk (a0.D != a1.D) (some false) (some true))))
theorem Tlaws_eqPlane {Y} (a0 : Pl) (a1 : Pl) (r : Bool) (h : Dlaws_eqPlane a0 a1 = some r) : Big Try.prog H Y (.call 68 [.agg [i64 a0.A, i64 a0.B, i64 a0.C, i64 a0.D], .agg [i64 a1.A, i64 a1.B, i64 a1.C, i64 a1.D]] (lk []) (bl r) (lk [])) := by
  unfold Dlaws_eqPlane at h
  refine x_call (fn := Try.f68) (c := bodyOf Try.f68) (bs0 := []) Try.func68 (by kernel_rfl) (by kernel_rfl) ?_
  refine x_frk 15 [] onil h (by kernel_rfl) (fun h => ?_) (fun h => ?_)
  · replace h := Option.some.inj h; subst h
    exact x_end 4 [] [] onil onil (by kernel_rfl)
  · refine x_frk 10 [] onil h (by kernel_rfl) (fun h => ?_) (fun h => ?_)
    · replace h := Option.some.inj h; subst h
      exact x_end 4 [] [] onil onil (by kernel_rfl)
    · refine x_frk 10 [] onil h (by kernel_rfl) (fun h => ?_) (fun h => ?_)
      · replace h := Option.some.inj h; subst h
        exact x_end 4 [] [] onil onil (by kernel_rfl)
      · refine x_frk 10 [] onil h (by kernel_rfl) (fun h => ?_) (fun h => ?_)
        · replace h := Option.some.inj h; subst h
          exact x_end 4 [] [] onil onil (by kernel_rfl)
        · replace h := Option.some.inj h; subst h
          exact x_end 5 [] [] onil onil (by kernel_rfl)
/-! laws.eqSolidS -/
def Dlaws_eqSolidS_in_0 (_n : Nat) (self : (Sol × Sol) → Option Bool) (t0 t1 : List Sol) (rec0 : Int → Option Bool) (a : Int) : Option Bool :=
  match a with
  | t5 => frk (decide (t5 < (t0.length : Int))) ((lget t0 t5).bind fun v0 => (lget t1 t5).bind fun v1 => (self (v0, v1)).bind fun v2 => frk (!v2) (some false) (rec0 (w64 (t5 + 1)))) (some true)
theorem Tlaws_eqSolidS_in_0 {Y} (n : Nat) (self : (Sol × Sol) → Option Bool) (hself : ∀ (a : (Sol × Sol)) (r : Bool), self a = some r → Big Try.prog H Y (.call 19 [.agg [bl a.1.inn, i64 a.1.pl.A, i64 a.1.pl.B, i64 a.1.pl.C, i64 a.1.pl.D, .sl false 6 a.1.kids.length ((eSol false).f a.1.kids)], .agg [bl a.2.inn, i64 a.2.pl.A, i64 a.2.pl.B, i64 a.2.pl.C, i64 a.2.pl.D, .sl false 6 a.2.kids.length ((eSol false).f a.2.kids)]] (lk []) (bl r) (lk []))) (t0 t1 : List Sol) : ∀ (m : Nat) (a : Int) (r : Bool), loopN (Dlaws_eqSolidS_in_0 n self t0 t1) m a = some r → Wk Try.prog H Y 38 [.code (cp [1, 1, 0, 1, 0] (bodyOf Try.f38)), .blk 0, .code (cp [1, 1, 1] (bodyOf Try.f38))] (FinX Try.prog Try.f38 [] (bl r) []) ⟨[(0, .sl false 6 t0.length ((eSol false).f t0)), (1, .sl false 6 t1.length ((eSol false).f t1)), (5, i64 a)], []⟩ := by
  refine loopN_ind (fun _rec0 hrec0 a r h => ?_)
  obtain ⟨t5, rfl⟩ : ∃ x, x = a := ⟨a, rfl⟩
  unfold Dlaws_eqSolidS_in_0 at h
  refine x_frk 9 [] onil h (by kernel_rfl) (fun h => ?_) (fun h => ?_)
  · obtain ⟨v0, hv0, h⟩ := bind_some h
    obtain ⟨v1, hv1, h⟩ := bind_some h
    obtain ⟨v2, hv2, h⟩ := bind_some h
    refine x_frk 16 [(2, .val (.cptr ((eSol false).c v0 ++ (eSol false).f ((t0).drop (Int.toNat t5 + 1))))), (3, .val (.cptr ((eSol false).c v1 ++ (eSol false).f ((t1).drop (Int.toNat t5 + 1))))), (1, .call [] [] (bl v2) [])] (ocons (ix (eSol false) hv0) (ocons (ix (eSol false) hv1) (ocons (hself (v0, v1) _ hv2) onil))) h (by kernel_rfl) (fun h => ?_) (fun h => ?_)
    · replace h := Option.some.inj h; subst h
      exact x_end 4 [] [] onil onil (by kernel_rfl)
    · exact x_to 8 [] onil (hrec0 (w64 (t5 + 1)) r h) (by kernel_rfl)
  · replace h := Option.some.inj h; subst h
    exact x_end 5 [] [] onil onil (by kernel_rfl)
def Dlaws_eqSolidS_in (n : Nat) (self : (Sol × Sol) → Option Bool) (a0 : (List Sol)) (a1 : (List Sol)) : Option Bool :=
  frk ((a0.length : Int) != (a1.length : Int)) (some false) (loopN (Dlaws_eqSolidS_in_0 n self a0 a1) n 0)
theorem Tlaws_eqSolidS_in {Y} (n : Nat) (self : (Sol × Sol) → Option Bool) (hself : ∀ (a : (Sol × Sol)) (r : Bool), self a = some r → Big Try.prog H Y (.call 19 [.agg [bl a.1.inn, i64 a.1.pl.A, i64 a.1.pl.B, i64 a.1.pl.C, i64 a.1.pl.D, .sl false 6 a.1.kids.length ((eSol false).f a.1.kids)], .agg [bl a.2.inn, i64 a.2.pl.A, i64 a.2.pl.B, i64 a.2.pl.C, i64 a.2.pl.D, .sl false 6 a.2.kids.length ((eSol false).f a.2.kids)]] (lk []) (bl r) (lk []))) (a0 : (List Sol)) (a1 : (List Sol)) (r : Bool) (h : Dlaws_eqSolidS_in n self a0 a1 = some r) : Big Try.prog H Y (.call 38 [.sl false 6 a0.length ((eSol false).f a0), .sl false 6 a1.length ((eSol false).f a1)] (lk []) (bl r) (lk [])) := by
  unfold Dlaws_eqSolidS_in at h
  refine x_call (fn := Try.f38) (c := bodyOf Try.f38) (bs0 := []) Try.func38 (by kernel_rfl) (by kernel_rfl) ?_
  refine x_frk 13 [] onil h (by kernel_rfl) (fun h => ?_) (fun h => ?_)
  · replace h := Option.some.inj h; subst h
    exact x_end 4 [] [] onil onil (by kernel_rfl)
  · exact x_to 7 [] onil (Tlaws_eqSolidS_in_0 n self hself a0 a1 n 0 r h) (by kernel_rfl)
/-! laws.eqSolid -/
def Dlaws_eqSolid_b (n : Nat) (self : (Sol × Sol) → Option Bool) (a : (Sol × Sol)) : Option Bool :=
  match a with
  | (a0, a1) => frk (!(a0.inn == a1.inn)) (some false) ((Dlaws_eqPlane a0.pl a1.pl).bind fun v0 => frk (!v0) (some false) ((Dlaws_eqSolidS_in n self a0.kids a1.kids).bind fun v1 => frk (!v1) (some false) (some true)))
def Dlaws_eqSolid (n : Nat) (a0 : Sol) (a1 : Sol) : Option Bool := loopN (Dlaws_eqSolid_b n) n (a0, a1)
theorem Tlaws_eqSolid_b {Y} (n : Nat) : ∀ (m : Nat) (a : (Sol × Sol)) (r : Bool), loopN (Dlaws_eqSolid_b n) m a = some r → ∀ (_ : Unit), Big Try.prog H Y (.call 19 [.agg [bl a.1.inn, i64 a.1.pl.A, i64 a.1.pl.B, i64 a.1.pl.C, i64 a.1.pl.D, .sl false 6 a.1.kids.length ((eSol false).f a.1.kids)], .agg [bl a.2.inn, i64 a.2.pl.A, i64 a.2.pl.B, i64 a.2.pl.C, i64 a.2.pl.D, .sl false 6 a.2.kids.length ((eSol false).f a.2.kids)]] (lk []) (bl r) (lk [])) := by
  refine loopN_ind (fun self hs a r h => ?_)
  have hself : ∀ (a : (Sol × Sol)) (r : Bool), self a = some r → Big Try.prog H Y (.call 19 [.agg [bl a.1.inn, i64 a.1.pl.A, i64 a.1.pl.B, i64 a.1.pl.C, i64 a.1.pl.D, .sl false 6 a.1.kids.length ((eSol false).f a.1.kids)], .agg [bl a.2.inn, i64 a.2.pl.A, i64 a.2.pl.B, i64 a.2.pl.C, i64 a.2.pl.D, .sl false 6 a.2.kids.length ((eSol false).f a.2.kids)]] (lk []) (bl r) (lk [])) := fun a r h => hs a r h ()
  intro _
  obtain ⟨a0, a1⟩ := a
  unfold Dlaws_eqSolid_b at h
  refine x_call (fn := Try.f19) (c := bodyOf Try.f19) (bs0 := []) Try.func19 (by kernel_rfl) (by kernel_rfl) ?_
  refine x_frk 15 [] onil h (by kernel_rfl) (fun h => ?_) (fun h => ?_)
  · replace h := Option.some.inj h; subst h
    exact x_end 4 [] [] onil onil (by kernel_rfl)
  · obtain ⟨v0, hv0, h⟩ := bind_some h
    refine x_frk 11 [(4, .call [] [] (bl v0) [])] (ocons (Tlaws_eqPlane (Y := Y) a0.pl a1.pl _ hv0) onil) h (by kernel_rfl) (fun h => ?_) (fun h => ?_)
    · replace h := Option.some.inj h; subst h
      exact x_end 4 [] [] onil onil (by kernel_rfl)
    · obtain ⟨v1, hv1, h⟩ := bind_some h
      refine x_frk 11 [(4, .call [] [] (bl v1) [])] (ocons (Tlaws_eqSolidS_in (Y := Y) n self hself a0.kids a1.kids _ hv1) onil) h (by kernel_rfl) (fun h => ?_) (fun h => ?_)
      · replace h := Option.some.inj h; subst h
        exact x_end 4 [] [] onil onil (by kernel_rfl)
      · replace h := Option.some.inj h; subst h
        exact x_end 5 [] [] onil onil (by kernel_rfl)
theorem Tlaws_eqSolid {Y} (n : Nat) (a0 : Sol) (a1 : Sol) (r : Bool) (h : Dlaws_eqSolid n a0 a1 = some r) : Big Try.prog H Y (.call 19 [.agg [bl a0.inn, i64 a0.pl.A, i64 a0.pl.B, i64 a0.pl.C, i64 a0.pl.D, .sl false 6 a0.kids.length ((eSol false).f a0.kids)], .agg [bl a1.inn, i64 a1.pl.A, i64 a1.pl.B, i64 a1.pl.C, i64 a1.pl.D, .sl false 6 a1.kids.length ((eSol false).f a1.kids)]] (lk []) (bl r) (lk [])) := Tlaws_eqSolid_b n n (a0, a1) r h ()
/-! spec.l8Leaf -/
def Dspec_l8Leaf (a0 : Sol) : Option Bool :=
  some ((a0.kids.length : Int) == 0)
theorem Tspec_l8Leaf {Y} (a0 : Sol) (r : Bool) (h : Dspec_l8Leaf a0 = some r) : Big Try.prog H Y (.call 131 [.agg [bl a0.inn, i64 a0.pl.A, i64 a0.pl.B, i64 a0.pl.C, i64 a0.pl.D, .sl false 6 a0.kids.length ((eSol false).f a0.kids)]] (lk []) (bl r) (lk [])) := by
  unfold Dspec_l8Leaf at h
  refine x_call (fn := Try.f131) (c := bodyOf Try.f131) (bs0 := []) Try.func131 (by kernel_rfl) (by kernel_rfl) ?_
  replace h := Option.some.inj h; subst h
  exact x_end 13 [] [] onil onil (by kernel_rfl)
/-! spec.l8Count -/
def Dspec_l8Count_1 (_n : Nat) (self : (Sol × Int) → Option Int) (t1 : Int) (_b2_0 : Bool) (_b2_1 _b2_2 _b2_3 _b2_4 : Int) (b2_5 : List Sol) (rec0 : (Int × Int) → Option Int) (a : (Int × Int)) : Option Int :=
  match a with
  | (t5, t6) => frk (decide (t6 < (b2_5.length : Int))) ((lget b2_5 t6).bind fun v1 => (self (v1, w64 (t1 - t5))).bind fun v2 => rec0 (w64 (t5 + v2), w64 (t6 + 1))) (some t5)
theorem Tspec_l8Count_1 {Y} (n : Nat) (self : (Sol × Int) → Option Int) (hself : ∀ (a : (Sol × Int)) (r : Int), self a = some r → Big Try.prog H Y (.call 129 [.agg [bl a.1.inn, i64 a.1.pl.A, i64 a.1.pl.B, i64 a.1.pl.C, i64 a.1.pl.D, .sl false 6 a.1.kids.length ((eSol false).f a.1.kids)], i64 a.2] (lk []) (i64 r) (lk []))) (t1 : Int) (b2_0 : Bool) (b2_1 b2_2 b2_3 b2_4 : Int) (b2_5 : List Sol) : ∀ (m : Nat) (a : (Int × Int)) (r : Int), loopN (Dspec_l8Count_1 n self t1 b2_0 b2_1 b2_2 b2_3 b2_4 b2_5) m a = some r → Wk Try.prog H Y 129 [.code (cp [1, 1, 1, 0, 1, 0] (bodyOf Try.f129)), .blk 0, .code (cp [1, 1, 1, 1] (bodyOf Try.f129))] (FinX Try.prog Try.f129 [] (i64 r) []) ⟨[(1, i64 t1), (2, .ptr 2 0), (5, i64 a.1), (6, i64 a.2)], [(2, ⟨true, 0, [bl b2_0, i64 b2_1, i64 b2_2, i64 b2_3, i64 b2_4, .sl false 6 b2_5.length ((eSol false).f b2_5)]⟩)]⟩ := by
  refine loopN_ind (fun _rec0 hrec0 a r h => ?_)
  obtain ⟨t5, t6⟩ := a
  unfold Dspec_l8Count_1 at h
  refine x_frk 10 [] onil h (by kernel_rfl) (fun h => ?_) (fun h => ?_)
  · obtain ⟨v1, hv1, h⟩ := bind_some h
    obtain ⟨v2, hv2, h⟩ := bind_some h
    exact x_to 24 [(4, .val (.cptr ((eSol false).c v1 ++ (eSol false).f ((b2_5).drop (Int.toNat t6 + 1))))), (4, .call [] [] (i64 v2) [])] (ocons (ix (eSol false) hv1) (ocons (hself (v1, w64 (t1 - t5)) _ hv2) onil)) (hrec0 (w64 (t5 + v2), w64 (t6 + 1)) r h) (by kernel_rfl)
  · replace h := Option.some.inj h; subst h
    exact x_end 6 [] [] onil onil (by kernel_rfl)
def Dspec_l8Count_0 (n : Nat) (self : (Sol × Int) → Option Int) (t1 : Int) (t12 b2_0 : Bool) (b2_1 b2_2 b2_3 b2_4 : Int) (b2_5 : List Sol) : Option Int :=
  frk t12 (some 0) (loopN (Dspec_l8Count_1 n self t1 b2_0 b2_1 b2_2 b2_3 b2_4 b2_5) n (1, 0))
theorem Tspec_l8Count_0 {Y} (n : Nat) (self : (Sol × Int) → Option Int) (hself : ∀ (a : (Sol × Int)) (r : Int), self a = some r → Big Try.prog H Y (.call 129 [.agg [bl a.1.inn, i64 a.1.pl.A, i64 a.1.pl.B, i64 a.1.pl.C, i64 a.1.pl.D, .sl false 6 a.1.kids.length ((eSol false).f a.1.kids)], i64 a.2] (lk []) (i64 r) (lk []))) (t1 : Int) (t12 b2_0 : Bool) (b2_1 b2_2 b2_3 b2_4 : Int) (b2_5 : List Sol) (r : Int) (h : Dspec_l8Count_0 n self t1 t12 b2_0 b2_1 b2_2 b2_3 b2_4 b2_5 = some r) : Wk Try.prog H Y 129 [.code (cp [1, 0, 1] (bodyOf Try.f129)), .code (cp [1, 1] (bodyOf Try.f129))] (FinX Try.prog Try.f129 [] (i64 r) []) ⟨[(1, i64 t1), (2, .ptr 2 0), (12, bl t12)], [(2, ⟨true, 0, [bl b2_0, i64 b2_1, i64 b2_2, i64 b2_3, i64 b2_4, .sl false 6 b2_5.length ((eSol false).f b2_5)]⟩)]⟩ := by
  unfold Dspec_l8Count_0 at h
  refine x_frk 0 [] onil h (by kernel_rfl) (fun h => ?_) (fun h => ?_)
  · replace h := Option.some.inj h; subst h
    exact x_end 4 [] [] onil onil (by kernel_rfl)
  · exact x_to 11 [] onil (Tspec_l8Count_1 n self hself t1 b2_0 b2_1 b2_2 b2_3 b2_4 b2_5 n (1, 0) r h) (by kernel_rfl)
def Dspec_l8Count_b (n : Nat) (self : (Sol × Int) → Option Int) (a : (Sol × Int)) : Option Int :=
  match a with
  | (a0, a1) => (Dspec_l8Leaf a0).bind fun v0 => frk v0 (some 0) (Dspec_l8Count_0 n self a1 (decide (a1 ≤ 0)) a0.inn a0.pl.A a0.pl.B a0.pl.C a0.pl.D a0.kids)
def Dspec_l8Count (n : Nat) (a0 : Sol) (a1 : Int) : Option Int := loopN (Dspec_l8Count_b n) n (a0, a1)
theorem Tspec_l8Count_b {Y} (n : Nat) : ∀ (m : Nat) (a : (Sol × Int)) (r : Int), loopN (Dspec_l8Count_b n) m a = some r → ∀ (_ : Unit), Big Try.prog H Y (.call 129 [.agg [bl a.1.inn, i64 a.1.pl.A, i64 a.1.pl.B, i64 a.1.pl.C, i64 a.1.pl.D, .sl false 6 a.1.kids.length ((eSol false).f a.1.kids)], i64 a.2] (lk []) (i64 r) (lk [])) := by
  refine loopN_ind (fun self hs a r h => ?_)
  have hself : ∀ (a : (Sol × Int)) (r : Int), self a = some r → Big Try.prog H Y (.call 129 [.agg [bl a.1.inn, i64 a.1.pl.A, i64 a.1.pl.B, i64 a.1.pl.C, i64 a.1.pl.D, .sl false 6 a.1.kids.length ((eSol false).f a.1.kids)], i64 a.2] (lk []) (i64 r) (lk [])) := fun a r h => hs a r h ()
  intro _
  obtain ⟨a0, a1⟩ := a
  unfold Dspec_l8Count_b at h
  refine x_call (fn := Try.f129) (c := bodyOf Try.f129) (bs0 := []) Try.func129 (by kernel_rfl) (by kernel_rfl) ?_
  obtain ⟨v0, hv0, h⟩ := bind_some h
  refine x_frk 11 [(3, .call [] [] (bl v0) [])] (ocons (Tspec_l8Leaf (Y := Y) a0 _ hv0) onil) h (by kernel_rfl) (fun h => ?_) (fun h => ?_)
  · replace h := Option.some.inj h; subst h
    exact x_end 9 [] [] onil onil (by kernel_rfl)
  · exact x_to 4 [] onil (Tspec_l8Count_0 n self hself a1 (decide (a1 ≤ 0)) a0.inn a0.pl.A a0.pl.B a0.pl.C a0.pl.D a0.kids r h) (by kernel_rfl)
theorem Tspec_l8Count {Y} (n : Nat) (a0 : Sol) (a1 r : Int) (h : Dspec_l8Count n a0 a1 = some r) : Big Try.prog H Y (.call 129 [.agg [bl a0.inn, i64 a0.pl.A, i64 a0.pl.B, i64 a0.pl.C, i64 a0.pl.D, .sl false 6 a0.kids.length ((eSol false).f a0.kids)], i64 a1] (lk []) (i64 r) (lk [])) := Tspec_l8Count_b n n (a0, a1) r h ()
/-! spec.l1In -/
def Dspec_l1In (a0 a1 a2 : Int) : Option Bool :=
  frk (decide (a0 ≥ a1)) (some (decide (a0 ≤ a2))) (some false)
theorem Tspec_l1In {Y} (a0 a1 a2 : Int) (r : Bool) (h : Dspec_l1In a0 a1 a2 = some r) : Big Try.prog H Y (.call 70 [i64 a0, i64 a1, i64 a2] (lk []) (bl r) (lk [])) := by
  unfold Dspec_l1In at h
  refine x_call (fn := Try.f70) (c := bodyOf Try.f70) (bs0 := []) Try.func70 (by kernel_rfl) (by kernel_rfl) ?_
  refine x_frk 10 [] onil h (by kernel_rfl) (fun h => ?_) (fun h => ?_)
  · replace h := Option.some.inj h; subst h
    exact x_end 6 [] [] onil onil (by kernel_rfl)
  · replace h := Option.some.inj h; subst h
    exact x_end 6 [] [] onil onil (by kernel_rfl)
/-! spec.l3In -/
def Dspec_l3In (a0 : Pl) : Option Bool :=
  (Dspec_l1In a0.A (-500) 500).bind fun v0 => frk v0 ((Dspec_l1In a0.B (-500) 500).bind fun v1 => frk v1 ((Dspec_l1In a0.C (-500) 500).bind fun v2 => frk v2 ((Dspec_l1In a0.D (-500) 500).bind fun v3 => some v3) (some false)) (some false)) (some false)
theorem Tspec_l3In {Y} (a0 : Pl) (r : Bool) (h : Dspec_l3In a0 = some r) : Big Try.prog H Y (.call 170 [.agg [i64 a0.A, i64 a0.B, i64 a0.C, i64 a0.D]] (lk []) (bl r) (lk [])) := by
  unfold Dspec_l3In at h
  refine x_call (fn := Try.f170) (c := bodyOf Try.f170) (bs0 := []) Try.func170 (by kernel_rfl) (by kernel_rfl) ?_
  obtain ⟨v0, hv0, h⟩ := bind_some h
  refine x_frk 18 [(8, .call [] [] (bl v0) [])] (ocons (Tspec_l1In (Y := Y) a0.A (-500) 500 _ hv0) onil) h (by kernel_rfl) (fun h => ?_) (fun h => ?_)
  · obtain ⟨v1, hv1, h⟩ := bind_some h
    refine x_frk 8 [(5, .call [] [] (bl v1) [])] (ocons (Tspec_l1In (Y := Y) a0.B (-500) 500 _ hv1) onil) h (by kernel_rfl) (fun h => ?_) (fun h => ?_)
    · obtain ⟨v2, hv2, h⟩ := bind_some h
      refine x_frk 8 [(5, .call [] [] (bl v2) [])] (ocons (Tspec_l1In (Y := Y) a0.C (-500) 500 _ hv2) onil) h (by kernel_rfl) (fun h => ?_) (fun h => ?_)
      · obtain ⟨v3, hv3, h⟩ := bind_some h
        replace h := Option.some.inj h; subst h
        exact x_end 9 [(5, .call [] [] (bl v3) [])] [] (ocons (Tspec_l1In (Y := Y) a0.D (-500) 500 _ hv3) onil) onil (by kernel_rfl)
      · replace h := Option.some.inj h; subst h
        exact x_end 9 [] [] onil onil (by kernel_rfl)
    · replace h := Option.some.inj h; subst h
      exact x_end 17 [] [] onil onil (by kernel_rfl)
  · replace h := Option.some.inj h; subst h
    exact x_end 25 [] [] onil onil (by kernel_rfl)
/-! spec.l3Abs -/
def Dspec_l3Abs (a0 : Int) : Option Int :=
  frk (decide (a0 < 0)) (some (w64 (0 - a0))) (some a0)
theorem Tspec_l3Abs {Y} (a0 r : Int) (h : Dspec_l3Abs a0 = some r) : Big Try.prog H Y (.call 169 [i64 a0] (lk []) (i64 r) (lk [])) := by
  unfold Dspec_l3Abs at h
  refine x_call (fn := Try.f169) (c := bodyOf Try.f169) (bs0 := []) Try.func169 (by kernel_rfl) (by kernel_rfl) ?_
  refine x_frk 10 [] onil h (by kernel_rfl) (fun h => ?_) (fun h => ?_)
  · replace h := Option.some.inj h; subst h
    exact x_end 6 [] [] onil onil (by kernel_rfl)
  · replace h := Option.some.inj h; subst h
    exact x_end 6 [] [] onil onil (by kernel_rfl)
/-! spec.l3Gcd -/
def Dspec_l3Gcd_0 (_n : Nat) (rec0 : (Int × Int) → Option Int) (a : (Int × Int)) : Option Int :=
  match a with
  | (t0, t1) => frk (decide (t1 > 0)) ((rm .i64 t0 t1).bind fun v2 => rec0 (t1, v2)) (some t0)
theorem Tspec_l3Gcd_0 {Y} (n : Nat) : ∀ (m : Nat) (a : (Int × Int)) (r : Int), loopN (Dspec_l3Gcd_0 n) m a = some r → Wk Try.prog H Y 171 [.code (cp [1, 1, 1, 0, 0] (bodyOf Try.f171)), .blk 0, .code (cp [1, 1, 1, 1] (bodyOf Try.f171))] (FinX Try.prog Try.f171 [] (i64 r) []) ⟨[(0, i64 a.1), (1, i64 a.2)], []⟩ := by
  refine loopN_ind (fun _rec0 hrec0 a r h => ?_)
  obtain ⟨_t0, t1⟩ := a
  unfold Dspec_l3Gcd_0 at h
  refine x_frk 7 [] onil h (by kernel_rfl) (fun h => ?_) (fun h => ?_)
  · obtain ⟨v2, hv2, h⟩ := bind_some h
    exact x_to 20 [(2, .val (i64 v2))] (ocons (rmOk hv2) onil) (hrec0 (t1, v2) r h) (by kernel_rfl)
  · replace h := Option.some.inj h; subst h
    exact x_end 6 [] [] onil onil (by kernel_rfl)
def Dspec_l3Gcd (n : Nat) (a0 a1 : Int) : Option Int :=
  (Dspec_l3Abs a0).bind fun v0 => (Dspec_l3Abs a1).bind fun v1 => loopN (Dspec_l3Gcd_0 n) n (v0, v1)
theorem Tspec_l3Gcd {Y} (n : Nat) (a0 a1 r : Int) (h : Dspec_l3Gcd n a0 a1 = some r) : Big Try.prog H Y (.call 171 [i64 a0, i64 a1] (lk []) (i64 r) (lk [])) := by
  unfold Dspec_l3Gcd at h
  refine x_call (fn := Try.f171) (c := bodyOf Try.f171) (bs0 := []) Try.func171 (by kernel_rfl) (by kernel_rfl) ?_
  obtain ⟨v0, hv0, h⟩ := bind_some h
  obtain ⟨v1, hv1, h⟩ := bind_some h
  exact x_to 18 [(2, .call [] [] (i64 v0) []), (2, .call [] [] (i64 v1) [])] (ocons (Tspec_l3Abs (Y := Y) a0 _ hv0) (ocons (Tspec_l3Abs (Y := Y) a1 _ hv1) onil)) (Tspec_l3Gcd_0 n n (v0, v1) r h) (by kernel_rfl)
/-! spec.PlaneOk -/
def Dspec_PlaneOk (n : Nat) (a0 : Pl) : Option Bool :=
  (Dspec_l3In a0).bind fun v0 => frk v0 (frk (a0.A != 0) ((Dspec_l3Gcd n a0.A a0.B).bind fun v1 => (Dspec_l3Gcd n a0.C a0.D).bind fun v2 => (Dspec_l3Gcd n v1 v2).bind fun v3 => some (v3 == 1)) (frk (a0.B != 0) ((Dspec_l3Gcd n a0.A a0.B).bind fun v4 => (Dspec_l3Gcd n a0.C a0.D).bind fun v5 => (Dspec_l3Gcd n v4 v5).bind fun v6 => some (v6 == 1)) (frk (a0.C != 0) ((Dspec_l3Gcd n a0.A a0.B).bind fun v7 => (Dspec_l3Gcd n a0.C a0.D).bind fun v8 => (Dspec_l3Gcd n v7 v8).bind fun v9 => some (v9 == 1)) (some false)))) (some false)
theorem Tspec_PlaneOk {Y} (n : Nat) (a0 : Pl) (r : Bool) (h : Dspec_PlaneOk n a0 = some r) : Big Try.prog H Y (.call 122 [.agg [i64 a0.A, i64 a0.B, i64 a0.C, i64 a0.D]] (lk []) (bl r) (lk [])) := by
  unfold Dspec_PlaneOk at h
  refine x_call (fn := Try.f122) (c := bodyOf Try.f122) (bs0 := []) Try.func122 (by kernel_rfl) (by kernel_rfl) ?_
  obtain ⟨v0, hv0, h⟩ := bind_some h
  refine x_frk 10 [(3, .call [] [] (bl v0) [])] (ocons (Tspec_l3In (Y := Y) a0 _ hv0) onil) h (by kernel_rfl) (fun h => ?_) (fun h => ?_)
  · refine x_frk 4 [] onil h (by kernel_rfl) (fun h => ?_) (fun h => ?_)
    · obtain ⟨v1, hv1, h⟩ := bind_some h
      obtain ⟨v2, hv2, h⟩ := bind_some h
      obtain ⟨v3, hv3, h⟩ := bind_some h
      replace h := Option.some.inj h; subst h
      exact x_end 26 [(15, .call [] [] (i64 v1) []), (4, .call [] [] (i64 v2) []), (0, .call [] [] (i64 v3) [])] [] (ocons (Tspec_l3Gcd (Y := Y) n a0.A a0.B _ hv1) (ocons (Tspec_l3Gcd (Y := Y) n a0.C a0.D _ hv2) (ocons (Tspec_l3Gcd (Y := Y) n v1 v2 _ hv3) onil))) onil (by kernel_rfl)
    · refine x_frk 5 [] onil h (by kernel_rfl) (fun h => ?_) (fun h => ?_)
      · obtain ⟨v4, hv4, h⟩ := bind_some h
        obtain ⟨v5, hv5, h⟩ := bind_some h
        obtain ⟨v6, hv6, h⟩ := bind_some h
        replace h := Option.some.inj h; subst h
        exact x_end 21 [(10, .call [] [] (i64 v4) []), (4, .call [] [] (i64 v5) []), (0, .call [] [] (i64 v6) [])] [] (ocons (Tspec_l3Gcd (Y := Y) n a0.A a0.B _ hv4) (ocons (Tspec_l3Gcd (Y := Y) n a0.C a0.D _ hv5) (ocons (Tspec_l3Gcd (Y := Y) n v4 v5 _ hv6) onil))) onil (by kernel_rfl)
      · refine x_frk 6 [] onil h (by kernel_rfl) (fun h => ?_) (fun h => ?_)
        · obtain ⟨v7, hv7, h⟩ := bind_some h
          obtain ⟨v8, hv8, h⟩ := bind_some h
          obtain ⟨v9, hv9, h⟩ := bind_some h
          replace h := Option.some.inj h; subst h
          exact x_end 15 [(4, .call [] [] (i64 v7) []), (4, .call [] [] (i64 v8) []), (0, .call [] [] (i64 v9) [])] [] (ocons (Tspec_l3Gcd (Y := Y) n a0.A a0.B _ hv7) (ocons (Tspec_l3Gcd (Y := Y) n a0.C a0.D _ hv8) (ocons (Tspec_l3Gcd (Y := Y) n v7 v8 _ hv9) onil))) onil (by kernel_rfl)
        · replace h := Option.some.inj h; subst h
          exact x_end 15 [] [] onil onil (by kernel_rfl)
  · replace h := Option.some.inj h; subst h
    exact x_end 30 [] [] onil onil (by kernel_rfl)
/-! spec.l4Cross -/
def Dspec_l4Cross (a0 : Pl) (a1 : Pl) : Option (Int × Int × Int) :=
  some (w64 ((w64 (a0.B * a1.C)) - (w64 (a0.C * a1.B))), w64 ((w64 (a0.C * a1.A)) - (w64 (a0.A * a1.C))), w64 ((w64 (a0.A * a1.B)) - (w64 (a0.B * a1.A))))
theorem Tspec_l4Cross {Y} (a0 : Pl) (a1 : Pl) (r : (Int × Int × Int)) (h : Dspec_l4Cross a0 a1 = some r) : Big Try.prog H Y (.call 212 [.agg [i64 a0.A, i64 a0.B, i64 a0.C, i64 a0.D], .agg [i64 a1.A, i64 a1.B, i64 a1.C, i64 a1.D]] (lk []) (.agg [i64 r.1, i64 r.2.1, i64 r.2.2]) (lk [])) := by
  unfold Dspec_l4Cross at h
  refine x_call (fn := Try.f212) (c := bodyOf Try.f212) (bs0 := []) Try.func212 (by kernel_rfl) (by kernel_rfl) ?_
  replace h := Option.some.inj h; subst h
  exact x_end 44 [] [] onil onil (by kernel_rfl)
/-! spec.l3Sign -/
def Dspec_l3Sign (a0 : Int) : Option Int :=
  frk (decide (a0 > 0)) (some 1) (frk (decide (a0 < 0)) (some (-1)) (some 0))
theorem Tspec_l3Sign {Y} (a0 r : Int) (h : Dspec_l3Sign a0 = some r) : Big Try.prog H Y (.call 206 [i64 a0] (lk []) (i64 r) (lk [])) := by
  unfold Dspec_l3Sign at h
  refine x_call (fn := Try.f206) (c := bodyOf Try.f206) (bs0 := []) Try.func206 (by kernel_rfl) (by kernel_rfl) ?_
  refine x_frk 12 [] onil h (by kernel_rfl) (fun h => ?_) (fun h => ?_)
  · replace h := Option.some.inj h; subst h
    exact x_end 4 [] [] onil onil (by kernel_rfl)
  · refine x_frk 6 [] onil h (by kernel_rfl) (fun h => ?_) (fun h => ?_)
    · replace h := Option.some.inj h; subst h
      exact x_end 4 [] [] onil onil (by kernel_rfl)
    · replace h := Option.some.inj h; subst h
      exact x_end 6 [] [] onil onil (by kernel_rfl)
/-! spec.l4Parallel -/
def Dspec_l4Parallel (a0 : Pl) (a1 : Pl) : Option Int :=
  (Dspec_l4Cross a0 a1).bind fun v0 => frk (!(v0.1 == 0 && (v0.2.1 == 0 && (v0.2.2 == 0 && true)))) (some 0) ((Dspec_l3Sign (w64 ((w64 ((w64 (a0.A * a1.A)) + (w64 (a0.B * a1.B)))) + (w64 (a0.C * a1.C))))).bind fun v1 => some v1)
theorem Tspec_l4Parallel {Y} (a0 : Pl) (a1 : Pl) (r : Int) (h : Dspec_l4Parallel a0 a1 = some r) : Big Try.prog H Y (.call 210 [.agg [i64 a0.A, i64 a0.B, i64 a0.C, i64 a0.D], .agg [i64 a1.A, i64 a1.B, i64 a1.C, i64 a1.D]] (lk []) (i64 r) (lk [])) := by
  unfold Dspec_l4Parallel at h
  refine x_call (fn := Try.f210) (c := bodyOf Try.f210) (bs0 := []) Try.func210 (by kernel_rfl) (by kernel_rfl) ?_
  obtain ⟨v0, hv0, h⟩ := bind_some h
  refine x_frk 15 [(5, .call [] [] (.agg [i64 v0.1, i64 v0.2.1, i64 v0.2.2]) [])] (ocons (Tspec_l4Cross (Y := Y) a0 a1 _ hv0) onil) h (by kernel_rfl) (fun h => ?_) (fun h => ?_)
  · replace h := Option.some.inj h; subst h
    exact x_end 4 [] [] onil onil (by kernel_rfl)
  · obtain ⟨v1, hv1, h⟩ := bind_some h
    replace h := Option.some.inj h; subst h
    exact x_end 23 [(17, .call [] [] (i64 v1) [])] [] (ocons (Tspec_l3Sign (Y := Y) (w64 ((w64 ((w64 (a0.A * a1.A)) + (w64 (a0.B * a1.B)))) + (w64 (a0.C * a1.C)))) _ hv1) onil) onil (by kernel_rfl)
/-! spec.l6Clash2 -/
def Dspec_l6Clash2 (a0 : Pl) (a1 : Pl) : Option Bool :=
  (Dspec_l4Parallel a0 a1).bind fun v0 => frk (decide (v0 ≥ 0)) (some false) ((Dspec_l3Abs a1.A).bind fun v1 => (Dspec_l3Abs a1.B).bind fun v2 => (Dspec_l3Abs a1.C).bind fun v3 => (Dspec_l3Abs a0.A).bind fun v4 => (Dspec_l3Abs a0.B).bind fun v5 => (Dspec_l3Abs a0.C).bind fun v6 => some (decide ((w64 ((w64 ((w64 ((w64 (v1 + v2)) + v3)) * a0.D)) + (w64 ((w64 ((w64 (v4 + v5)) + v6)) * a1.D)))) ≤ 0)))
theorem Tspec_l6Clash2 {Y} (a0 : Pl) (a1 : Pl) (r : Bool) (h : Dspec_l6Clash2 a0 a1 = some r) : Big Try.prog H Y (.call 193 [.agg [i64 a0.A, i64 a0.B, i64 a0.C, i64 a0.D], .agg [i64 a1.A, i64 a1.B, i64 a1.C, i64 a1.D]] (lk []) (bl r) (lk [])) := by
  unfold Dspec_l6Clash2 at h
  refine x_call (fn := Try.f193) (c := bodyOf Try.f193) (bs0 := []) Try.func193 (by kernel_rfl) (by kernel_rfl) ?_
  obtain ⟨v0, hv0, h⟩ := bind_some h
  refine x_frk 14 [(5, .call [] [] (i64 v0) [])] (ocons (Tspec_l4Parallel (Y := Y) a0 a1 _ hv0) onil) h (by kernel_rfl) (fun h => ?_) (fun h => ?_)
  · replace h := Option.some.inj h; subst h
    exact x_end 4 [] [] onil onil (by kernel_rfl)
  · obtain ⟨v1, hv1, h⟩ := bind_some h
    obtain ⟨v2, hv2, h⟩ := bind_some h
    obtain ⟨v3, hv3, h⟩ := bind_some h
    obtain ⟨v4, hv4, h⟩ := bind_some h
    obtain ⟨v5, hv5, h⟩ := bind_some h
    obtain ⟨v6, hv6, h⟩ := bind_some h
    replace h := Option.some.inj h; subst h
    exact x_end 45 [(2, .call [] [] (i64 v1) []), (2, .call [] [] (i64 v2) []), (3, .call [] [] (i64 v3) []), (4, .call [] [] (i64 v4) []), (2, .call [] [] (i64 v5) []), (3, .call [] [] (i64 v6) [])] [] (ocons (Tspec_l3Abs (Y := Y) a1.A _ hv1) (ocons (Tspec_l3Abs (Y := Y) a1.B _ hv2) (ocons (Tspec_l3Abs (Y := Y) a1.C _ hv3) (ocons (Tspec_l3Abs (Y := Y) a0.A _ hv4) (ocons (Tspec_l3Abs (Y := Y) a0.B _ hv5) (ocons (Tspec_l3Abs (Y := Y) a0.C _ hv6) onil)))))) onil (by kernel_rfl)
/-! spec.l4Det3 -/
def Dspec_l4Det3 (a0 : Pl) (a1 : Pl) (a2 : Pl) : Option Int :=
  (Dspec_l4Cross a1 a2).bind fun v0 => some (w64 ((w64 ((w64 (a0.A * v0.1)) + (w64 (a0.B * v0.2.1)))) + (w64 (a0.C * v0.2.2))))
theorem Tspec_l4Det3 {Y} (a0 : Pl) (a1 : Pl) (a2 : Pl) (r : Int) (h : Dspec_l4Det3 a0 a1 a2 = some r) : Big Try.prog H Y (.call 211 [.agg [i64 a0.A, i64 a0.B, i64 a0.C, i64 a0.D], .agg [i64 a1.A, i64 a1.B, i64 a1.C, i64 a1.D], .agg [i64 a2.A, i64 a2.B, i64 a2.C, i64 a2.D]] (lk []) (i64 r) (lk [])) := by
  unfold Dspec_l4Det3 at h
  refine x_call (fn := Try.f211) (c := bodyOf Try.f211) (bs0 := []) Try.func211 (by kernel_rfl) (by kernel_rfl) ?_
  obtain ⟨v0, hv0, h⟩ := bind_some h
  replace h := Option.some.inj h; subst h
  exact x_end 36 [(6, .call [] [] (.agg [i64 v0.1, i64 v0.2.1, i64 v0.2.2]) [])] [] (ocons (Tspec_l4Cross (Y := Y) a1 a2 _ hv0) onil) onil (by kernel_rfl)
/-! spec.l6Sum -/
def Dspec_l6Sum_1 (_n : Nat) (rec0 : (Bool × Bool × Int × Int) → Option Bool) (t0 : List Int) (t1 : List Int) (t5 t6 : Bool) (t7 t8 : Int) : Option Bool :=
  (lget t0 t8).bind fun v2 => (Dspec_l3Abs v2).bind fun v3 => (lget t1 t8).bind fun v4 => rec0 (t5, t6, w64 (t7 + (w64 (v3 * v4))), w64 (t8 + 1))
theorem Tspec_l6Sum_1 {Y} (n : Nat) (rec0 : (Bool × Bool × Int × Int) → Option Bool) (t0 : List Int) (t1 : List Int) (hrec0 : ∀ (a : (Bool × Bool × Int × Int)) (r : Bool), rec0 a = some r → Wk Try.prog H Y 213 [.code (cp [1, 1, 1, 1, 0, 1, 0] (bodyOf Try.f213)), .blk 0, .code (cp [1, 1, 1, 1, 1] (bodyOf Try.f213))] (FinX Try.prog Try.f213 [] (bl r) []) ⟨[(0, .sl false 1 t0.length ((eInt).f t0)), (1, .sl false 1 t1.length ((eInt).f t1)), (5, bl a.1), (6, bl a.2.1), (7, i64 a.2.2.1), (8, i64 a.2.2.2)], []⟩) (t5 t6 : Bool) (t7 t8 : Int) (r : Bool) (h : Dspec_l6Sum_1 n rec0 t0 t1 t5 t6 t7 t8 = some r) : Wk Try.prog H Y 213 [.code (cp [1, 1, 1, 1, 0, 1, 0, 0, 1, 0, 0, 1, 1] (bodyOf Try.f213)), .blk 1, .code (cp [1, 1, 1, 1, 0, 1, 0, 0, 1, 1] (bodyOf Try.f213)), .lp (cp [1, 1, 1, 1, 0, 1, 0] (bodyOf Try.f213)), .blk 0, .code (cp [1, 1, 1, 1, 1] (bodyOf Try.f213))] (FinX Try.prog Try.f213 [] (bl r) []) ⟨[(0, .sl false 1 t0.length ((eInt).f t0)), (1, .sl false 1 t1.length ((eInt).f t1)), (5, bl t5), (6, bl t6), (7, i64 t7), (8, i64 t8)], []⟩ := by
  unfold Dspec_l6Sum_1 at h
  obtain ⟨v2, hv2, h⟩ := bind_some h
  obtain ⟨v3, hv3, h⟩ := bind_some h
  obtain ⟨v4, hv4, h⟩ := bind_some h
  exact x_to 22 [(3, .val (.cptr (eInt.c v2 ++ (eInt).f ((t0).drop (Int.toNat t8 + 1))))), (1, .call [] [] (i64 v3) []), (2, .val (.cptr (eInt.c v4 ++ (eInt).f ((t1).drop (Int.toNat t8 + 1)))))] (ocons (ix eInt hv2) (ocons (Tspec_l3Abs (Y := Y) v2 _ hv3) (ocons (ix eInt hv4) onil))) (hrec0 (t5, t6, w64 (t7 + (w64 (v3 * v4))), w64 (t8 + 1)) r h) (by kernel_rfl)
def Dspec_l6Sum_0 (n : Nat) (rec0 : (Bool × Bool × Int × Int) → Option Bool) (t0 : List Int) (t1 : List Int) (t5 t6 : Bool) (t7 t8 : Int) : Option Bool :=
  frk t6 ((lget t0 t8).bind fun v1 => Dspec_l6Sum_1 n rec0 t0 t1 t5 (decide (v1 < 0)) t7 t8) (Dspec_l6Sum_1 n rec0 t0 t1 t5 false t7 t8)
theorem Tspec_l6Sum_0 {Y} (n : Nat) (rec0 : (Bool × Bool × Int × Int) → Option Bool) (t0 : List Int) (t1 : List Int) (hrec0 : ∀ (a : (Bool × Bool × Int × Int)) (r : Bool), rec0 a = some r → Wk Try.prog H Y 213 [.code (cp [1, 1, 1, 1, 0, 1, 0] (bodyOf Try.f213)), .blk 0, .code (cp [1, 1, 1, 1, 1] (bodyOf Try.f213))] (FinX Try.prog Try.f213 [] (bl r) []) ⟨[(0, .sl false 1 t0.length ((eInt).f t0)), (1, .sl false 1 t1.length ((eInt).f t1)), (5, bl a.1), (6, bl a.2.1), (7, i64 a.2.2.1), (8, i64 a.2.2.2)], []⟩) (t5 t6 : Bool) (t7 t8 : Int) (r : Bool) (h : Dspec_l6Sum_0 n rec0 t0 t1 t5 t6 t7 t8 = some r) : Wk Try.prog H Y 213 [.code (cp [1, 1, 1, 1, 0, 1, 0, 0, 1, 0, 0, 1, 0] (bodyOf Try.f213)), .code (cp [1, 1, 1, 1, 0, 1, 0, 0, 1, 0, 0, 1, 1] (bodyOf Try.f213)), .blk 1, .code (cp [1, 1, 1, 1, 0, 1, 0, 0, 1, 1] (bodyOf Try.f213)), .lp (cp [1, 1, 1, 1, 0, 1, 0] (bodyOf Try.f213)), .blk 0, .code (cp [1, 1, 1, 1, 1] (bodyOf Try.f213))] (FinX Try.prog Try.f213 [] (bl r) []) ⟨[(0, .sl false 1 t0.length ((eInt).f t0)), (1, .sl false 1 t1.length ((eInt).f t1)), (5, bl t5), (6, bl t6), (7, i64 t7), (8, i64 t8)], []⟩ := by
  unfold Dspec_l6Sum_0 at h
  refine x_frk 3 [] onil h (by kernel_rfl) (fun h => ?_) (fun h => ?_)
  · obtain ⟨v1, hv1, h⟩ := bind_some h
    exact x_to 8 [(2, .val (.cptr (eInt.c v1 ++ (eInt).f ((t0).drop (Int.toNat t8 + 1)))))] (ocons (ix eInt hv1) onil) (Tspec_l6Sum_1 n rec0 t0 t1 hrec0 t5 (decide (v1 < 0)) t7 t8 r h) (by kernel_rfl)
  · exact x_to 8 [] onil (Tspec_l6Sum_1 n rec0 t0 t1 hrec0 t5 false t7 t8 r h) (by kernel_rfl)
def Dspec_l6Sum_2 (_n : Nat) (t5 t6 : Bool) (t7 : Int) : Option Bool :=
  frk t5 (some (decide (t7 ≤ 0))) (frk t6 (some (decide (t7 ≤ 0))) (some false))
theorem Tspec_l6Sum_2 {Y} (n : Nat) (t5 t6 : Bool) (t7 : Int) (r : Bool) (h : Dspec_l6Sum_2 n t5 t6 t7 = some r) : Wk Try.prog H Y 213 [.code (cp [1, 1, 1, 1, 1, 0] (bodyOf Try.f213)), .code (cp [1, 1, 1, 1, 1, 1] (bodyOf Try.f213))] (FinX Try.prog Try.f213 [] (bl r) []) ⟨[(5, bl t5), (6, bl t6), (7, i64 t7)], []⟩ := by
  unfold Dspec_l6Sum_2 at h
  refine x_frk 3 [] onil h (by kernel_rfl) (fun h => ?_) (fun h => ?_)
  · replace h := Option.some.inj h; subst h
    exact x_end 8 [] [] onil onil (by kernel_rfl)
  · refine x_frk 3 [] onil h (by kernel_rfl) (fun h => ?_) (fun h => ?_)
    · replace h := Option.some.inj h; subst h
      exact x_end 5 [] [] onil onil (by kernel_rfl)
    · replace h := Option.some.inj h; subst h
      exact x_end 5 [] [] onil onil (by kernel_rfl)
def Dspec_l6Sum_3 (n : Nat) (t0 : List Int) (t1 : List Int) (rec0 : (Bool × Bool × Int × Int) → Option Bool) (a : (Bool × Bool × Int × Int)) : Option Bool :=
  match a with
  | (t5, t6, t7, t8) => frk (decide (t8 < (t0.length : Int))) (frk t5 ((lget t0 t8).bind fun v0 => Dspec_l6Sum_0 n rec0 t0 t1 (decide (v0 > 0)) t6 t7 t8) (Dspec_l6Sum_0 n rec0 t0 t1 false t6 t7 t8)) (Dspec_l6Sum_2 n t5 t6 t7)
theorem Tspec_l6Sum_3 {Y} (n : Nat) (t0 : List Int) (t1 : List Int) : ∀ (m : Nat) (a : (Bool × Bool × Int × Int)) (r : Bool), loopN (Dspec_l6Sum_3 n t0 t1) m a = some r → Wk Try.prog H Y 213 [.code (cp [1, 1, 1, 1, 0, 1, 0] (bodyOf Try.f213)), .blk 0, .code (cp [1, 1, 1, 1, 1] (bodyOf Try.f213))] (FinX Try.prog Try.f213 [] (bl r) []) ⟨[(0, .sl false 1 t0.length ((eInt).f t0)), (1, .sl false 1 t1.length ((eInt).f t1)), (5, bl a.1), (6, bl a.2.1), (7, i64 a.2.2.1), (8, i64 a.2.2.2)], []⟩ := by
  refine loopN_ind (fun rec0 hrec0 a r h => ?_)
  obtain ⟨t5, t6, t7, t8⟩ := a
  unfold Dspec_l6Sum_3 at h
  refine x_frk 9 [] onil h (by kernel_rfl) (fun h => ?_) (fun h => ?_)
  · refine x_frk 7 [] onil h (by kernel_rfl) (fun h => ?_) (fun h => ?_)
    · obtain ⟨v0, hv0, h⟩ := bind_some h
      exact x_to 9 [(2, .val (.cptr (eInt.c v0 ++ (eInt).f ((t0).drop (Int.toNat t8 + 1)))))] (ocons (ix eInt hv0) onil) (Tspec_l6Sum_0 n rec0 t0 t1 hrec0 (decide (v0 > 0)) t6 t7 t8 r h) (by kernel_rfl)
    · exact x_to 9 [] onil (Tspec_l6Sum_0 n rec0 t0 t1 hrec0 false t6 t7 t8 r h) (by kernel_rfl)
  · exact x_to 2 [] onil (Tspec_l6Sum_2 n t5 t6 t7 r h) (by kernel_rfl)
def Dspec_l6Sum (n : Nat) (a0 : (List Int)) (a1 : (List Int)) : Option Bool :=
  loopN (Dspec_l6Sum_3 n a0 a1) n (true, true, 0, 0)
theorem Tspec_l6Sum {Y} (n : Nat) (a0 : (List Int)) (a1 : (List Int)) (r : Bool) (h : Dspec_l6Sum n a0 a1 = some r) : Big Try.prog H Y (.call 213 [.sl false 1 a0.length ((eInt).f a0), .sl false 1 a1.length ((eInt).f a1)] (lk []) (bl r) (lk [])) := by
  unfold Dspec_l6Sum at h
  refine x_call (fn := Try.f213) (c := bodyOf Try.f213) (bs0 := []) Try.func213 (by kernel_rfl) (by kernel_rfl) ?_
  exact x_to 22 [] onil (Tspec_l6Sum_3 n a0 a1 n (true, true, 0, 0) r h) (by kernel_rfl)
/-! spec.l6Clash3 -/
def Dspec_l6Clash3_0 (n : Nat) (_b3_0 _b3_1 _b3_2 b3_3 _b4_0 _b4_1 _b4_2 b4_3 _b5_0 _b5_1 _b5_2 b5_3 b7_0 _b7_1 _b7_2 b8_0 _b8_1 _b8_2 b9_0 _b9_1 _b9_2 : Int) : Option Bool :=
  (Dspec_l6Sum n [b7_0, b8_0, b9_0] [b3_3, b4_3, b5_3]).bind fun v4 => some v4
theorem Tspec_l6Clash3_0 {Y} (n : Nat) (b3_0 b3_1 b3_2 b3_3 b4_0 b4_1 b4_2 b4_3 b5_0 b5_1 b5_2 b5_3 b7_0 b7_1 b7_2 b8_0 b8_1 b8_2 b9_0 b9_1 b9_2 : Int) (r : Bool) (h : Dspec_l6Clash3_0 n b3_0 b3_1 b3_2 b3_3 b4_0 b4_1 b4_2 b4_3 b5_0 b5_1 b5_2 b5_3 b7_0 b7_1 b7_2 b8_0 b8_1 b8_2 b9_0 b9_1 b9_2 = some r) : Wk Try.prog H Y 194 [.code (cp [1, 1, 1, 1, 1, 0, 1, 0, 0, 1, 0, 0, 1, 0, 0] (bodyOf Try.f194)), .code (cp [1, 1, 1, 1, 1, 0, 1, 0, 0, 1, 0, 0, 1, 0, 1] (bodyOf Try.f194)), .blk 1, .code (cp [1, 1, 1, 1, 1, 0, 1, 0, 0, 1, 1] (bodyOf Try.f194)), .lp (cp [1, 1, 1, 1, 1, 0, 1, 0] (bodyOf Try.f194)), .blk 0, .code (cp [1, 1, 1, 1, 1, 1] (bodyOf Try.f194))] (FinX Try.prog Try.f194 [] (bl r) []) ⟨[(3, .ptr 3 0), (4, .ptr 4 0), (5, .ptr 5 0), (7, .ptr 7 0), (8, .ptr 8 0), (9, .ptr 9 0), (10, i64 0)], [(3, ⟨true, 0, [i64 b3_0, i64 b3_1, i64 b3_2, i64 b3_3]⟩), (4, ⟨true, 0, [i64 b4_0, i64 b4_1, i64 b4_2, i64 b4_3]⟩), (5, ⟨true, 0, [i64 b5_0, i64 b5_1, i64 b5_2, i64 b5_3]⟩), (7, ⟨true, 0, [i64 b7_0, i64 b7_1, i64 b7_2]⟩), (8, ⟨true, 0, [i64 b8_0, i64 b8_1, i64 b8_2]⟩), (9, ⟨true, 0, [i64 b9_0, i64 b9_1, i64 b9_2]⟩)]⟩ := by
  unfold Dspec_l6Clash3_0 at h
  obtain ⟨v4, hv4, h⟩ := bind_some h
  replace h := Option.some.inj h; subst h
  exact x_end 21 [(17, .call [] [(eInt).f [b3_3, b4_3, b5_3], (eInt).f [b7_0, b8_0, b9_0]] (bl v4) [])] [] (ocons (Tspec_l6Sum (Y := Y) n [b7_0, b8_0, b9_0] [b3_3, b4_3, b5_3] _ hv4) (ocons (len_row (L := [b7_0, b8_0, b9_0]) eInt) (ocons (Enc.share eInt eInt sInt [b7_0, b8_0, b9_0]) (ocons (len_row (L := [b3_3, b4_3, b5_3]) eInt) (ocons (Enc.share eInt eInt sInt [b3_3, b4_3, b5_3]) onil))))) onil (by kernel_rfl)
def Dspec_l6Clash3_2 (n : Nat) (_b3_0 _b3_1 _b3_2 b3_3 _b4_0 _b4_1 _b4_2 b4_3 _b5_0 _b5_1 _b5_2 b5_3 _b7_0 b7_1 _b7_2 _b8_0 b8_1 _b8_2 _b9_0 b9_1 _b9_2 : Int) : Option Bool :=
  (Dspec_l6Sum n [b7_1, b8_1, b9_1] [b3_3, b4_3, b5_3]).bind fun v6 => some v6
theorem Tspec_l6Clash3_2 {Y} (n : Nat) (b3_0 b3_1 b3_2 b3_3 b4_0 b4_1 b4_2 b4_3 b5_0 b5_1 b5_2 b5_3 b7_0 b7_1 b7_2 b8_0 b8_1 b8_2 b9_0 b9_1 b9_2 : Int) (r : Bool) (h : Dspec_l6Clash3_2 n b3_0 b3_1 b3_2 b3_3 b4_0 b4_1 b4_2 b4_3 b5_0 b5_1 b5_2 b5_3 b7_0 b7_1 b7_2 b8_0 b8_1 b8_2 b9_0 b9_1 b9_2 = some r) : Wk Try.prog H Y 194 [.code (cp [1, 1, 1, 1, 1, 0, 1, 0, 0, 1, 0, 0, 1, 0, 0] (bodyOf Try.f194)), .code (cp [1, 1, 1, 1, 1, 0, 1, 0, 0, 1, 0, 0, 1, 0, 1] (bodyOf Try.f194)), .blk 1, .code (cp [1, 1, 1, 1, 1, 0, 1, 0, 0, 1, 1] (bodyOf Try.f194)), .lp (cp [1, 1, 1, 1, 1, 0, 1, 0] (bodyOf Try.f194)), .blk 0, .code (cp [1, 1, 1, 1, 1, 1] (bodyOf Try.f194))] (FinX Try.prog Try.f194 [] (bl r) []) ⟨[(3, .ptr 3 0), (4, .ptr 4 0), (5, .ptr 5 0), (7, .ptr 7 0), (8, .ptr 8 0), (9, .ptr 9 0), (10, i64 1)], [(3, ⟨true, 0, [i64 b3_0, i64 b3_1, i64 b3_2, i64 b3_3]⟩), (4, ⟨true, 0, [i64 b4_0, i64 b4_1, i64 b4_2, i64 b4_3]⟩), (5, ⟨true, 0, [i64 b5_0, i64 b5_1, i64 b5_2, i64 b5_3]⟩), (7, ⟨true, 0, [i64 b7_0, i64 b7_1, i64 b7_2]⟩), (8, ⟨true, 0, [i64 b8_0, i64 b8_1, i64 b8_2]⟩), (9, ⟨true, 0, [i64 b9_0, i64 b9_1, i64 b9_2]⟩)]⟩ := by
  unfold Dspec_l6Clash3_2 at h
  obtain ⟨v6, hv6, h⟩ := bind_some h
  replace h := Option.some.inj h; subst h
  exact x_end 21 [(17, .call [] [(eInt).f [b3_3, b4_3, b5_3], (eInt).f [b7_1, b8_1, b9_1]] (bl v6) [])] [] (ocons (Tspec_l6Sum (Y := Y) n [b7_1, b8_1, b9_1] [b3_3, b4_3, b5_3] _ hv6) (ocons (len_row (L := [b7_1, b8_1, b9_1]) eInt) (ocons (Enc.share eInt eInt sInt [b7_1, b8_1, b9_1]) (ocons (len_row (L := [b3_3, b4_3, b5_3]) eInt) (ocons (Enc.share eInt eInt sInt [b3_3, b4_3, b5_3]) onil))))) onil (by kernel_rfl)
def Dspec_l6Clash3_4 (n : Nat) (_b3_0 _b3_1 _b3_2 b3_3 _b4_0 _b4_1 _b4_2 b4_3 _b5_0 _b5_1 _b5_2 b5_3 _b7_0 _b7_1 b7_2 _b8_0 _b8_1 b8_2 _b9_0 _b9_1 b9_2 : Int) : Option Bool :=
  (Dspec_l6Sum n [b7_2, b8_2, b9_2] [b3_3, b4_3, b5_3]).bind fun v8 => some v8
theorem Tspec_l6Clash3_4 {Y} (n : Nat) (b3_0 b3_1 b3_2 b3_3 b4_0 b4_1 b4_2 b4_3 b5_0 b5_1 b5_2 b5_3 b7_0 b7_1 b7_2 b8_0 b8_1 b8_2 b9_0 b9_1 b9_2 : Int) (r : Bool) (h : Dspec_l6Clash3_4 n b3_0 b3_1 b3_2 b3_3 b4_0 b4_1 b4_2 b4_3 b5_0 b5_1 b5_2 b5_3 b7_0 b7_1 b7_2 b8_0 b8_1 b8_2 b9_0 b9_1 b9_2 = some r) : Wk Try.prog H Y 194 [.code (cp [1, 1, 1, 1, 1, 0, 1, 0, 0, 1, 0, 0, 1, 0, 0] (bodyOf Try.f194)), .code (cp [1, 1, 1, 1, 1, 0, 1, 0, 0, 1, 0, 0, 1, 0, 1] (bodyOf Try.f194)), .blk 1, .code (cp [1, 1, 1, 1, 1, 0, 1, 0, 0, 1, 1] (bodyOf Try.f194)), .lp (cp [1, 1, 1, 1, 1, 0, 1, 0] (bodyOf Try.f194)), .blk 0, .code (cp [1, 1, 1, 1, 1, 1] (bodyOf Try.f194))] (FinX Try.prog Try.f194 [] (bl r) []) ⟨[(3, .ptr 3 0), (4, .ptr 4 0), (5, .ptr 5 0), (7, .ptr 7 0), (8, .ptr 8 0), (9, .ptr 9 0), (10, i64 2)], [(3, ⟨true, 0, [i64 b3_0, i64 b3_1, i64 b3_2, i64 b3_3]⟩), (4, ⟨true, 0, [i64 b4_0, i64 b4_1, i64 b4_2, i64 b4_3]⟩), (5, ⟨true, 0, [i64 b5_0, i64 b5_1, i64 b5_2, i64 b5_3]⟩), (7, ⟨true, 0, [i64 b7_0, i64 b7_1, i64 b7_2]⟩), (8, ⟨true, 0, [i64 b8_0, i64 b8_1, i64 b8_2]⟩), (9, ⟨true, 0, [i64 b9_0, i64 b9_1, i64 b9_2]⟩)]⟩ := by
  unfold Dspec_l6Clash3_4 at h
  obtain ⟨v8, hv8, h⟩ := bind_some h
  replace h := Option.some.inj h; subst h
  exact x_end 21 [(17, .call [] [(eInt).f [b3_3, b4_3, b5_3], (eInt).f [b7_2, b8_2, b9_2]] (bl v8) [])] [] (ocons (Tspec_l6Sum (Y := Y) n [b7_2, b8_2, b9_2] [b3_3, b4_3, b5_3] _ hv8) (ocons (len_row (L := [b7_2, b8_2, b9_2]) eInt) (ocons (Enc.share eInt eInt sInt [b7_2, b8_2, b9_2]) (ocons (len_row (L := [b3_3, b4_3, b5_3]) eInt) (ocons (Enc.share eInt eInt sInt [b3_3, b4_3, b5_3]) onil))))) onil (by kernel_rfl)
def Dspec_l6Clash3_5 (n : Nat) (t44 : Bool) (_b3_0 _b3_1 _b3_2 b3_3 _b4_0 _b4_1 _b4_2 b4_3 _b5_0 _b5_1 _b5_2 b5_3 _b7_0 _b7_1 b7_2 _b8_0 _b8_1 b8_2 _b9_0 _b9_1 b9_2 : Int) : Option Bool :=
  frk t44 ((Dspec_l6Sum n [b7_2, b8_2, b9_2] [b3_3, b4_3, b5_3]).bind fun v9 => some v9) (some false)
theorem Tspec_l6Clash3_5 {Y} (n : Nat) (t44 : Bool) (b3_0 b3_1 b3_2 b3_3 b4_0 b4_1 b4_2 b4_3 b5_0 b5_1 b5_2 b5_3 b7_0 b7_1 b7_2 b8_0 b8_1 b8_2 b9_0 b9_1 b9_2 : Int) (r : Bool) (h : Dspec_l6Clash3_5 n t44 b3_0 b3_1 b3_2 b3_3 b4_0 b4_1 b4_2 b4_3 b5_0 b5_1 b5_2 b5_3 b7_0 b7_1 b7_2 b8_0 b8_1 b8_2 b9_0 b9_1 b9_2 = some r) : Wk Try.prog H Y 194 [.code (cp [1, 1, 1, 1, 1, 0, 1, 0, 0, 1, 0, 0, 1] (bodyOf Try.f194)), .blk 1, .code (cp [1, 1, 1, 1, 1, 0, 1, 0, 0, 1, 1] (bodyOf Try.f194)), .lp (cp [1, 1, 1, 1, 1, 0, 1, 0] (bodyOf Try.f194)), .blk 0, .code (cp [1, 1, 1, 1, 1, 1] (bodyOf Try.f194))] (FinX Try.prog Try.f194 [] (bl r) []) ⟨[(3, .ptr 3 0), (4, .ptr 4 0), (5, .ptr 5 0), (7, .ptr 7 0), (8, .ptr 8 0), (9, .ptr 9 0), (10, i64 2), (44, bl t44)], [(3, ⟨true, 0, [i64 b3_0, i64 b3_1, i64 b3_2, i64 b3_3]⟩), (4, ⟨true, 0, [i64 b4_0, i64 b4_1, i64 b4_2, i64 b4_3]⟩), (5, ⟨true, 0, [i64 b5_0, i64 b5_1, i64 b5_2, i64 b5_3]⟩), (7, ⟨true, 0, [i64 b7_0, i64 b7_1, i64 b7_2]⟩), (8, ⟨true, 0, [i64 b8_0, i64 b8_1, i64 b8_2]⟩), (9, ⟨true, 0, [i64 b9_0, i64 b9_1, i64 b9_2]⟩)]⟩ := by
  unfold Dspec_l6Clash3_5 at h
  refine x_frk 0 [] onil h (by kernel_rfl) (fun h => ?_) (fun h => ?_)
  · obtain ⟨v9, hv9, h⟩ := bind_some h
    replace h := Option.some.inj h; subst h
    exact x_end 22 [(17, .call [] [(eInt).f [b3_3, b4_3, b5_3], (eInt).f [b7_2, b8_2, b9_2]] (bl v9) [])] [] (ocons (Tspec_l6Sum (Y := Y) n [b7_2, b8_2, b9_2] [b3_3, b4_3, b5_3] _ hv9) (ocons (len_row (L := [b7_2, b8_2, b9_2]) eInt) (ocons (Enc.share eInt eInt sInt [b7_2, b8_2, b9_2]) (ocons (len_row (L := [b3_3, b4_3, b5_3]) eInt) (ocons (Enc.share eInt eInt sInt [b3_3, b4_3, b5_3]) onil))))) onil (by kernel_rfl)
  · replace h := Option.some.inj h; subst h
    exact x_end 21 [] [] onil onil (by kernel_rfl)
def Dspec_l6Clash3_3 (n : Nat) (t44 : Bool) (b3_0 b3_1 b3_2 b3_3 b4_0 b4_1 b4_2 b4_3 b5_0 b5_1 b5_2 b5_3 b7_0 b7_1 b7_2 b8_0 b8_1 b8_2 b9_0 b9_1 b9_2 : Int) : Option Bool :=
  frk t44 ((Dspec_l6Sum n [b7_1, b8_1, b9_1] [b3_3, b4_3, b5_3]).bind fun v7 => some v7) (frk (b7_2 != 0) (Dspec_l6Clash3_4 n b3_0 b3_1 b3_2 b3_3 b4_0 b4_1 b4_2 b4_3 b5_0 b5_1 b5_2 b5_3 b7_0 b7_1 b7_2 b8_0 b8_1 b8_2 b9_0 b9_1 b9_2) (frk (b8_2 != 0) (Dspec_l6Clash3_4 n b3_0 b3_1 b3_2 b3_3 b4_0 b4_1 b4_2 b4_3 b5_0 b5_1 b5_2 b5_3 b7_0 b7_1 b7_2 b8_0 b8_1 b8_2 b9_0 b9_1 b9_2) (Dspec_l6Clash3_5 n (b9_2 != 0) b3_0 b3_1 b3_2 b3_3 b4_0 b4_1 b4_2 b4_3 b5_0 b5_1 b5_2 b5_3 b7_0 b7_1 b7_2 b8_0 b8_1 b8_2 b9_0 b9_1 b9_2)))
theorem Tspec_l6Clash3_3 {Y} (n : Nat) (t44 : Bool) (b3_0 b3_1 b3_2 b3_3 b4_0 b4_1 b4_2 b4_3 b5_0 b5_1 b5_2 b5_3 b7_0 b7_1 b7_2 b8_0 b8_1 b8_2 b9_0 b9_1 b9_2 : Int) (r : Bool) (h : Dspec_l6Clash3_3 n t44 b3_0 b3_1 b3_2 b3_3 b4_0 b4_1 b4_2 b4_3 b5_0 b5_1 b5_2 b5_3 b7_0 b7_1 b7_2 b8_0 b8_1 b8_2 b9_0 b9_1 b9_2 = some r) : Wk Try.prog H Y 194 [.code (cp [1, 1, 1, 1, 1, 0, 1, 0, 0, 1, 0, 0, 1] (bodyOf Try.f194)), .blk 1, .code (cp [1, 1, 1, 1, 1, 0, 1, 0, 0, 1, 1] (bodyOf Try.f194)), .lp (cp [1, 1, 1, 1, 1, 0, 1, 0] (bodyOf Try.f194)), .blk 0, .code (cp [1, 1, 1, 1, 1, 1] (bodyOf Try.f194))] (FinX Try.prog Try.f194 [] (bl r) []) ⟨[(3, .ptr 3 0), (4, .ptr 4 0), (5, .ptr 5 0), (7, .ptr 7 0), (8, .ptr 8 0), (9, .ptr 9 0), (10, i64 1), (44, bl t44)], [(3, ⟨true, 0, [i64 b3_0, i64 b3_1, i64 b3_2, i64 b3_3]⟩), (4, ⟨true, 0, [i64 b4_0, i64 b4_1, i64 b4_2, i64 b4_3]⟩), (5, ⟨true, 0, [i64 b5_0, i64 b5_1, i64 b5_2, i64 b5_3]⟩), (7, ⟨true, 0, [i64 b7_0, i64 b7_1, i64 b7_2]⟩), (8, ⟨true, 0, [i64 b8_0, i64 b8_1, i64 b8_2]⟩), (9, ⟨true, 0, [i64 b9_0, i64 b9_1, i64 b9_2]⟩)]⟩ := by
  unfold Dspec_l6Clash3_3 at h
  refine x_frk 0 [] onil h (by kernel_rfl) (fun h => ?_) (fun h => ?_)
  · obtain ⟨v7, hv7, h⟩ := bind_some h
    replace h := Option.some.inj h; subst h
    exact x_end 22 [(17, .call [] [(eInt).f [b3_3, b4_3, b5_3], (eInt).f [b7_1, b8_1, b9_1]] (bl v7) [])] [] (ocons (Tspec_l6Sum (Y := Y) n [b7_1, b8_1, b9_1] [b3_3, b4_3, b5_3] _ hv7) (ocons (len_row (L := [b7_1, b8_1, b9_1]) eInt) (ocons (Enc.share eInt eInt sInt [b7_1, b8_1, b9_1]) (ocons (len_row (L := [b3_3, b4_3, b5_3]) eInt) (ocons (Enc.share eInt eInt sInt [b3_3, b4_3, b5_3]) onil))))) onil (by kernel_rfl)
  · refine x_frk 26 [] onil h (by kernel_rfl) (fun h => ?_) (fun h => ?_)
    · exact x_to 14 [] onil (Tspec_l6Clash3_4 n b3_0 b3_1 b3_2 b3_3 b4_0 b4_1 b4_2 b4_3 b5_0 b5_1 b5_2 b5_3 b7_0 b7_1 b7_2 b8_0 b8_1 b8_2 b9_0 b9_1 b9_2 r h) (by kernel_rfl)
    · refine x_frk 6 [] onil h (by kernel_rfl) (fun h => ?_) (fun h => ?_)
      · exact x_to 8 [] onil (Tspec_l6Clash3_4 n b3_0 b3_1 b3_2 b3_3 b4_0 b4_1 b4_2 b4_3 b5_0 b5_1 b5_2 b5_3 b7_0 b7_1 b7_2 b8_0 b8_1 b8_2 b9_0 b9_1 b9_2 r h) (by kernel_rfl)
      · exact x_to 6 [] onil (Tspec_l6Clash3_5 n (b9_2 != 0) b3_0 b3_1 b3_2 b3_3 b4_0 b4_1 b4_2 b4_3 b5_0 b5_1 b5_2 b5_3 b7_0 b7_1 b7_2 b8_0 b8_1 b8_2 b9_0 b9_1 b9_2 r h) (by kernel_rfl)
def Dspec_l6Clash3_1 (n : Nat) (t44 : Bool) (b3_0 b3_1 b3_2 b3_3 b4_0 b4_1 b4_2 b4_3 b5_0 b5_1 b5_2 b5_3 b7_0 b7_1 b7_2 b8_0 b8_1 b8_2 b9_0 b9_1 b9_2 : Int) : Option Bool :=
  frk t44 ((Dspec_l6Sum n [b7_0, b8_0, b9_0] [b3_3, b4_3, b5_3]).bind fun v5 => some v5) (frk (b7_1 != 0) (Dspec_l6Clash3_2 n b3_0 b3_1 b3_2 b3_3 b4_0 b4_1 b4_2 b4_3 b5_0 b5_1 b5_2 b5_3 b7_0 b7_1 b7_2 b8_0 b8_1 b8_2 b9_0 b9_1 b9_2) (frk (b8_1 != 0) (Dspec_l6Clash3_2 n b3_0 b3_1 b3_2 b3_3 b4_0 b4_1 b4_2 b4_3 b5_0 b5_1 b5_2 b5_3 b7_0 b7_1 b7_2 b8_0 b8_1 b8_2 b9_0 b9_1 b9_2) (Dspec_l6Clash3_3 n (b9_1 != 0) b3_0 b3_1 b3_2 b3_3 b4_0 b4_1 b4_2 b4_3 b5_0 b5_1 b5_2 b5_3 b7_0 b7_1 b7_2 b8_0 b8_1 b8_2 b9_0 b9_1 b9_2)))
theorem Tspec_l6Clash3_1 {Y} (n : Nat) (t44 : Bool) (b3_0 b3_1 b3_2 b3_3 b4_0 b4_1 b4_2 b4_3 b5_0 b5_1 b5_2 b5_3 b7_0 b7_1 b7_2 b8_0 b8_1 b8_2 b9_0 b9_1 b9_2 : Int) (r : Bool) (h : Dspec_l6Clash3_1 n t44 b3_0 b3_1 b3_2 b3_3 b4_0 b4_1 b4_2 b4_3 b5_0 b5_1 b5_2 b5_3 b7_0 b7_1 b7_2 b8_0 b8_1 b8_2 b9_0 b9_1 b9_2 = some r) : Wk Try.prog H Y 194 [.code (cp [1, 1, 1, 1, 1, 0, 1, 0, 0, 1, 0, 0, 1] (bodyOf Try.f194)), .blk 1, .code (cp [1, 1, 1, 1, 1, 0, 1, 0, 0, 1, 1] (bodyOf Try.f194)), .lp (cp [1, 1, 1, 1, 1, 0, 1, 0] (bodyOf Try.f194)), .blk 0, .code (cp [1, 1, 1, 1, 1, 1] (bodyOf Try.f194))] (FinX Try.prog Try.f194 [] (bl r) []) ⟨[(3, .ptr 3 0), (4, .ptr 4 0), (5, .ptr 5 0), (7, .ptr 7 0), (8, .ptr 8 0), (9, .ptr 9 0), (10, i64 0), (44, bl t44)], [(3, ⟨true, 0, [i64 b3_0, i64 b3_1, i64 b3_2, i64 b3_3]⟩), (4, ⟨true, 0, [i64 b4_0, i64 b4_1, i64 b4_2, i64 b4_3]⟩), (5, ⟨true, 0, [i64 b5_0, i64 b5_1, i64 b5_2, i64 b5_3]⟩), (7, ⟨true, 0, [i64 b7_0, i64 b7_1, i64 b7_2]⟩), (8, ⟨true, 0, [i64 b8_0, i64 b8_1, i64 b8_2]⟩), (9, ⟨true, 0, [i64 b9_0, i64 b9_1, i64 b9_2]⟩)]⟩ := by
  unfold Dspec_l6Clash3_1 at h
  refine x_frk 0 [] onil h (by kernel_rfl) (fun h => ?_) (fun h => ?_)
  · obtain ⟨v5, hv5, h⟩ := bind_some h
    replace h := Option.some.inj h; subst h
    exact x_end 22 [(17, .call [] [(eInt).f [b3_3, b4_3, b5_3], (eInt).f [b7_0, b8_0, b9_0]] (bl v5) [])] [] (ocons (Tspec_l6Sum (Y := Y) n [b7_0, b8_0, b9_0] [b3_3, b4_3, b5_3] _ hv5) (ocons (len_row (L := [b7_0, b8_0, b9_0]) eInt) (ocons (Enc.share eInt eInt sInt [b7_0, b8_0, b9_0]) (ocons (len_row (L := [b3_3, b4_3, b5_3]) eInt) (ocons (Enc.share eInt eInt sInt [b3_3, b4_3, b5_3]) onil))))) onil (by kernel_rfl)
  · refine x_frk 26 [] onil h (by kernel_rfl) (fun h => ?_) (fun h => ?_)
    · exact x_to 14 [] onil (Tspec_l6Clash3_2 n b3_0 b3_1 b3_2 b3_3 b4_0 b4_1 b4_2 b4_3 b5_0 b5_1 b5_2 b5_3 b7_0 b7_1 b7_2 b8_0 b8_1 b8_2 b9_0 b9_1 b9_2 r h) (by kernel_rfl)
    · refine x_frk 6 [] onil h (by kernel_rfl) (fun h => ?_) (fun h => ?_)
      · exact x_to 8 [] onil (Tspec_l6Clash3_2 n b3_0 b3_1 b3_2 b3_3 b4_0 b4_1 b4_2 b4_3 b5_0 b5_1 b5_2 b5_3 b7_0 b7_1 b7_2 b8_0 b8_1 b8_2 b9_0 b9_1 b9_2 r h) (by kernel_rfl)
      · exact x_to 6 [] onil (Tspec_l6Clash3_3 n (b9_1 != 0) b3_0 b3_1 b3_2 b3_3 b4_0 b4_1 b4_2 b4_3 b5_0 b5_1 b5_2 b5_3 b7_0 b7_1 b7_2 b8_0 b8_1 b8_2 b9_0 b9_1 b9_2 r h) (by kernel_rfl)
def Dspec_l6Clash3 (n : Nat) (a0 : Pl) (a1 : Pl) (a2 : Pl) : Option Bool :=
  (Dspec_l4Det3 a0 a1 a2).bind fun v0 => frk (v0 != 0) (some false) ((Dspec_l4Cross a1 a2).bind fun v1 => (Dspec_l4Cross a2 a0).bind fun v2 => (Dspec_l4Cross a0 a1).bind fun v3 => frk (v1.1 != 0) (Dspec_l6Clash3_0 n a0.A a0.B a0.C a0.D a1.A a1.B a1.C a1.D a2.A a2.B a2.C a2.D v1.1 v1.2.1 v1.2.2 v2.1 v2.2.1 v2.2.2 v3.1 v3.2.1 v3.2.2) (frk (v2.1 != 0) (Dspec_l6Clash3_0 n a0.A a0.B a0.C a0.D a1.A a1.B a1.C a1.D a2.A a2.B a2.C a2.D v1.1 v1.2.1 v1.2.2 v2.1 v2.2.1 v2.2.2 v3.1 v3.2.1 v3.2.2) (Dspec_l6Clash3_1 n (v3.1 != 0) a0.A a0.B a0.C a0.D a1.A a1.B a1.C a1.D a2.A a2.B a2.C a2.D v1.1 v1.2.1 v1.2.2 v2.1 v2.2.1 v2.2.2 v3.1 v3.2.1 v3.2.2)))
theorem Tspec_l6Clash3 {Y} (n : Nat) (a0 : Pl) (a1 : Pl) (a2 : Pl) (r : Bool) (h : Dspec_l6Clash3 n a0 a1 a2 = some r) : Big Try.prog H Y (.call 194 [.agg [i64 a0.A, i64 a0.B, i64 a0.C, i64 a0.D], .agg [i64 a1.A, i64 a1.B, i64 a1.C, i64 a1.D], .agg [i64 a2.A, i64 a2.B, i64 a2.C, i64 a2.D]] (lk []) (bl r) (lk [])) := by
  unfold Dspec_l6Clash3 at h
  refine x_call (fn := Try.f194) (c := bodyOf Try.f194) (bs0 := []) Try.func194 (by kernel_rfl) (by kernel_rfl) ?_
  obtain ⟨v0, hv0, h⟩ := bind_some h
  refine x_frk 16 [(7, .call [] [] (i64 v0) [])] (ocons (Tspec_l4Det3 (Y := Y) a0 a1 a2 _ hv0) onil) h (by kernel_rfl) (fun h => ?_) (fun h => ?_)
  · replace h := Option.some.inj h; subst h
    exact x_end 4 [] [] onil onil (by kernel_rfl)
  · obtain ⟨v1, hv1, h⟩ := bind_some h
    obtain ⟨v2, hv2, h⟩ := bind_some h
    obtain ⟨v3, hv3, h⟩ := bind_some h
    refine x_frk 49 [(2, .call [] [] (.agg [i64 v1.1, i64 v1.2.1, i64 v1.2.2]) []), (4, .call [] [] (.agg [i64 v2.1, i64 v2.2.1, i64 v2.2.2]) []), (4, .call [] [] (.agg [i64 v3.1, i64 v3.2.1, i64 v3.2.2]) [])] (ocons (Tspec_l4Cross (Y := Y) a1 a2 _ hv1) (ocons (Tspec_l4Cross (Y := Y) a2 a0 _ hv2) (ocons (Tspec_l4Cross (Y := Y) a0 a1 _ hv3) onil))) h (by kernel_rfl) (fun h => ?_) (fun h => ?_)
    · exact x_to 14 [] onil (Tspec_l6Clash3_0 n a0.A a0.B a0.C a0.D a1.A a1.B a1.C a1.D a2.A a2.B a2.C a2.D v1.1 v1.2.1 v1.2.2 v2.1 v2.2.1 v2.2.2 v3.1 v3.2.1 v3.2.2 r h) (by kernel_rfl)
    · refine x_frk 6 [] onil h (by kernel_rfl) (fun h => ?_) (fun h => ?_)
      · exact x_to 8 [] onil (Tspec_l6Clash3_0 n a0.A a0.B a0.C a0.D a1.A a1.B a1.C a1.D a2.A a2.B a2.C a2.D v1.1 v1.2.1 v1.2.2 v2.1 v2.2.1 v2.2.2 v3.1 v3.2.1 v3.2.2 r h) (by kernel_rfl)
      · exact x_to 6 [] onil (Tspec_l6Clash3_1 n (v3.1 != 0) a0.A a0.B a0.C a0.D a1.A a1.B a1.C a1.D a2.A a2.B a2.C a2.D v1.1 v1.2.1 v1.2.2 v2.1 v2.2.1 v2.2.2 v3.1 v3.2.1 v3.2.2 r h) (by kernel_rfl)
/-! spec.l6Clash4 -/
def Dspec_l6Clash4 (n : Nat) (a0 : Pl) (a1 : Pl) (a2 : Pl) (a3 : Pl) : Option Bool :=
  (Dspec_l4Det3 a1 a2 a3).bind fun v0 => (Dspec_l4Det3 a0 a2 a3).bind fun v1 => (Dspec_l4Det3 a0 a1 a3).bind fun v2 => (Dspec_l4Det3 a0 a1 a2).bind fun v3 => (Dspec_l6Sum n [v0, w64 (0 - v1), v2, w64 (0 - v3)] [a0.D, a1.D, a2.D, a3.D]).bind fun v4 => some v4
theorem Tspec_l6Clash4 {Y} (n : Nat) (a0 : Pl) (a1 : Pl) (a2 : Pl) (a3 : Pl) (r : Bool) (h : Dspec_l6Clash4 n a0 a1 a2 a3 = some r) : Big Try.prog H Y (.call 195 [.agg [i64 a0.A, i64 a0.B, i64 a0.C, i64 a0.D], .agg [i64 a1.A, i64 a1.B, i64 a1.C, i64 a1.D], .agg [i64 a2.A, i64 a2.B, i64 a2.C, i64 a2.D], .agg [i64 a3.A, i64 a3.B, i64 a3.C, i64 a3.D]] (lk []) (bl r) (lk [])) := by
  unfold Dspec_l6Clash4 at h
  refine x_call (fn := Try.f195) (c := bodyOf Try.f195) (bs0 := []) Try.func195 (by kernel_rfl) (by kernel_rfl) ?_
  obtain ⟨v0, hv0, h⟩ := bind_some h
  obtain ⟨v1, hv1, h⟩ := bind_some h
  obtain ⟨v2, hv2, h⟩ := bind_some h
  obtain ⟨v3, hv3, h⟩ := bind_some h
  obtain ⟨v4, hv4, h⟩ := bind_some h
  replace h := Option.some.inj h; subst h
  exact x_end 46 [(8, .call [] [] (i64 v0) []), (3, .call [] [] (i64 v1) []), (4, .call [] [] (i64 v2) []), (3, .call [] [] (i64 v3) []), (13, .call [] [(eInt).f [a0.D, a1.D, a2.D, a3.D], (eInt).f [v0, w64 (0 - v1), v2, w64 (0 - v3)]] (bl v4) [])] [] (ocons (Tspec_l4Det3 (Y := Y) a1 a2 a3 _ hv0) (ocons (Tspec_l4Det3 (Y := Y) a0 a2 a3 _ hv1) (ocons (Tspec_l4Det3 (Y := Y) a0 a1 a3 _ hv2) (ocons (Tspec_l4Det3 (Y := Y) a0 a1 a2 _ hv3) (ocons (Tspec_l6Sum (Y := Y) n [v0, w64 (0 - v1), v2, w64 (0 - v3)] [a0.D, a1.D, a2.D, a3.D] _ hv4) (ocons (len_row (L := [v0, w64 (0 - v1), v2, w64 (0 - v3)]) eInt) (ocons (Enc.share eInt eInt sInt [v0, w64 (0 - v1), v2, w64 (0 - v3)]) (ocons (len_row (L := [a0.D, a1.D, a2.D, a3.D]) eInt) (ocons (Enc.share eInt eInt sInt [a0.D, a1.D, a2.D, a3.D]) onil))))))))) onil (by kernel_rfl)
/-! spec.l6With -/
def Dspec_l6With_0 (n : Nat) (rec1 : Int → Option Bool) (_rec0 : Int → Option Bool) (t6 : Int) (t0 : List Pl) (t5 b3_0 b3_1 b3_2 b3_3 t7 : Int) (rec2 : Int → Option Bool) (a : Int) : Option Bool :=
  match a with
  | t8 => frk (decide (t8 < t5)) ((lget t0 t6).bind fun v5 => (lget t0 t7).bind fun v6 => (lget t0 t8).bind fun v7 => (Dspec_l6Clash4 n v5 v6 v7 (Pl.mk b3_0 b3_1 b3_2 b3_3)).bind fun v8 => frk v8 (some true) (rec2 (w64 (t8 + 1)))) (rec1 (w64 (t7 + 1)))
theorem Tspec_l6With_0 {Y} (n : Nat) (rec1 : Int → Option Bool) (rec0 : Int → Option Bool) (t6 : Int) (t0 : List Pl) (t5 b3_0 b3_1 b3_2 b3_3 : Int) (hrec1 : ∀ (a : Int) (r : Bool), rec1 a = some r → Wk Try.prog H Y 160 [.code (cp [1, 1, 0, 1, 0, 0, 1, 0, 0, 1, 1, 0] (bodyOf Try.f160)), .blk 2, .blk 1, .code (cp [1, 1, 0, 1, 0, 0, 1, 1] (bodyOf Try.f160)), .lp (cp [1, 1, 0, 1, 0] (bodyOf Try.f160)), .blk 0, .code (cp [1, 1, 1] (bodyOf Try.f160))] (FinX Try.prog Try.f160 [] (bl r) []) ⟨[(0, .sl false 4 t0.length ((ePl).f t0)), (3, .ptr 3 0), (5, i64 t5), (6, i64 t6), (7, i64 a)], [(3, ⟨true, 0, [i64 b3_0, i64 b3_1, i64 b3_2, i64 b3_3]⟩)]⟩) (_hrec0 : ∀ (a : Int) (r : Bool), rec0 a = some r → Wk Try.prog H Y 160 [.code (cp [1, 1, 0, 1, 0] (bodyOf Try.f160)), .blk 0, .code (cp [1, 1, 1] (bodyOf Try.f160))] (FinX Try.prog Try.f160 [] (bl r) []) ⟨[(0, .sl false 4 t0.length ((ePl).f t0)), (3, .ptr 3 0), (5, i64 t5), (6, i64 a)], [(3, ⟨true, 0, [i64 b3_0, i64 b3_1, i64 b3_2, i64 b3_3]⟩)]⟩) (t7 : Int) : ∀ (m : Nat) (a : Int) (r : Bool), loopN (Dspec_l6With_0 n rec1 rec0 t6 t0 t5 b3_0 b3_1 b3_2 b3_3 t7) m a = some r → Wk Try.prog H Y 160 [.code (cp [1, 1, 0, 1, 0, 0, 1, 0, 0, 1, 1, 0, 0, 1, 0, 0, 1, 1, 0] (bodyOf Try.f160)), .blk 4, .blk 3, .code (cp [1, 1, 0, 1, 0, 0, 1, 0, 0, 1, 1, 0, 0, 1, 1] (bodyOf Try.f160)), .lp (cp [1, 1, 0, 1, 0, 0, 1, 0, 0, 1, 1, 0] (bodyOf Try.f160)), .blk 2, .blk 1, .code (cp [1, 1, 0, 1, 0, 0, 1, 1] (bodyOf Try.f160)), .lp (cp [1, 1, 0, 1, 0] (bodyOf Try.f160)), .blk 0, .code (cp [1, 1, 1] (bodyOf Try.f160))] (FinX Try.prog Try.f160 [] (bl r) []) ⟨[(0, .sl false 4 t0.length ((ePl).f t0)), (3, .ptr 3 0), (5, i64 t5), (6, i64 t6), (7, i64 t7), (8, i64 a)], [(3, ⟨true, 0, [i64 b3_0, i64 b3_1, i64 b3_2, i64 b3_3]⟩)]⟩ := by
  refine loopN_ind (fun _rec2 hrec2 a r h => ?_)
  obtain ⟨t8, rfl⟩ : ∃ x, x = a := ⟨a, rfl⟩
  unfold Dspec_l6With_0 at h
  refine x_frk 8 [] onil h (by kernel_rfl) (fun h => ?_) (fun h => ?_)
  · obtain ⟨v5, hv5, h⟩ := bind_some h
    obtain ⟨v6, hv6, h⟩ := bind_some h
    obtain ⟨v7, hv7, h⟩ := bind_some h
    obtain ⟨v8, hv8, h⟩ := bind_some h
    refine x_frk 20 [(2, .val (.cptr (ePl.c v5 ++ (ePl).f ((t0).drop (Int.toNat t6 + 1))))), (3, .val (.cptr (ePl.c v6 ++ (ePl).f ((t0).drop (Int.toNat t7 + 1))))), (3, .val (.cptr (ePl.c v7 ++ (ePl).f ((t0).drop (Int.toNat t8 + 1))))), (2, .call [] [] (bl v8) [])] (ocons (ix ePl hv5) (ocons (ix ePl hv6) (ocons (ix ePl hv7) (ocons (Tspec_l6Clash4 (Y := Y) n v5 v6 v7 (Pl.mk b3_0 b3_1 b3_2 b3_3) _ hv8) onil)))) h (by kernel_rfl) (fun h => ?_) (fun h => ?_)
    · replace h := Option.some.inj h; subst h
      exact x_end 4 [] [] onil onil (by kernel_rfl)
    · exact x_to 8 [] onil (hrec2 (w64 (t8 + 1)) r h) (by kernel_rfl)
  · exact x_to 8 [] onil (hrec1 (w64 (t7 + 1)) r h) (by kernel_rfl)
def Dspec_l6With_1 (n : Nat) (rec0 : Int → Option Bool) (t0 : List Pl) (t5 b3_0 b3_1 b3_2 b3_3 t6 : Int) (rec1 : Int → Option Bool) (a : Int) : Option Bool :=
  match a with
  | t7 => frk (decide (t7 < t5)) ((lget t0 t6).bind fun v2 => (lget t0 t7).bind fun v3 => (Dspec_l6Clash3 n v2 v3 (Pl.mk b3_0 b3_1 b3_2 b3_3)).bind fun v4 => frk v4 (some true) (loopN (Dspec_l6With_0 n rec1 rec0 t6 t0 t5 b3_0 b3_1 b3_2 b3_3 t7) n (w64 (t7 + 1)))) (rec0 (w64 (t6 + 1)))
theorem Tspec_l6With_1 {Y} (n : Nat) (rec0 : Int → Option Bool) (t0 : List Pl) (t5 b3_0 b3_1 b3_2 b3_3 : Int) (hrec0 : ∀ (a : Int) (r : Bool), rec0 a = some r → Wk Try.prog H Y 160 [.code (cp [1, 1, 0, 1, 0] (bodyOf Try.f160)), .blk 0, .code (cp [1, 1, 1] (bodyOf Try.f160))] (FinX Try.prog Try.f160 [] (bl r) []) ⟨[(0, .sl false 4 t0.length ((ePl).f t0)), (3, .ptr 3 0), (5, i64 t5), (6, i64 a)], [(3, ⟨true, 0, [i64 b3_0, i64 b3_1, i64 b3_2, i64 b3_3]⟩)]⟩) (t6 : Int) : ∀ (m : Nat) (a : Int) (r : Bool), loopN (Dspec_l6With_1 n rec0 t0 t5 b3_0 b3_1 b3_2 b3_3 t6) m a = some r → Wk Try.prog H Y 160 [.code (cp [1, 1, 0, 1, 0, 0, 1, 0, 0, 1, 1, 0] (bodyOf Try.f160)), .blk 2, .blk 1, .code (cp [1, 1, 0, 1, 0, 0, 1, 1] (bodyOf Try.f160)), .lp (cp [1, 1, 0, 1, 0] (bodyOf Try.f160)), .blk 0, .code (cp [1, 1, 1] (bodyOf Try.f160))] (FinX Try.prog Try.f160 [] (bl r) []) ⟨[(0, .sl false 4 t0.length ((ePl).f t0)), (3, .ptr 3 0), (5, i64 t5), (6, i64 t6), (7, i64 a)], [(3, ⟨true, 0, [i64 b3_0, i64 b3_1, i64 b3_2, i64 b3_3]⟩)]⟩ := by
  refine loopN_ind (fun rec1 hrec1 a r h => ?_)
  obtain ⟨t7, rfl⟩ : ∃ x, x = a := ⟨a, rfl⟩
  unfold Dspec_l6With_1 at h
  refine x_frk 8 [] onil h (by kernel_rfl) (fun h => ?_) (fun h => ?_)
  · obtain ⟨v2, hv2, h⟩ := bind_some h
    obtain ⟨v3, hv3, h⟩ := bind_some h
    obtain ⟨v4, hv4, h⟩ := bind_some h
    refine x_frk 17 [(2, .val (.cptr (ePl.c v2 ++ (ePl).f ((t0).drop (Int.toNat t6 + 1))))), (3, .val (.cptr (ePl.c v3 ++ (ePl).f ((t0).drop (Int.toNat t7 + 1))))), (2, .call [] [] (bl v4) [])] (ocons (ix ePl hv2) (ocons (ix ePl hv3) (ocons (Tspec_l6Clash3 (Y := Y) n v2 v3 (Pl.mk b3_0 b3_1 b3_2 b3_3) _ hv4) onil))) h (by kernel_rfl) (fun h => ?_) (fun h => ?_)
    · replace h := Option.some.inj h; subst h
      exact x_end 4 [] [] onil onil (by kernel_rfl)
    · exact x_to 8 [] onil (Tspec_l6With_0 n rec1 rec0 t6 t0 t5 b3_0 b3_1 b3_2 b3_3 hrec1 hrec0 t7 n (w64 (t7 + 1)) r h) (by kernel_rfl)
  · exact x_to 8 [] onil (hrec0 (w64 (t6 + 1)) r h) (by kernel_rfl)
def Dspec_l6With_2 (n : Nat) (t0 : List Pl) (t5 b3_0 b3_1 b3_2 b3_3 : Int) (rec0 : Int → Option Bool) (a : Int) : Option Bool :=
  match a with
  | t6 => frk (decide (t6 < t5)) ((lget t0 t6).bind fun v0 => (Dspec_l6Clash2 v0 (Pl.mk b3_0 b3_1 b3_2 b3_3)).bind fun v1 => frk v1 (some true) (loopN (Dspec_l6With_1 n rec0 t0 t5 b3_0 b3_1 b3_2 b3_3 t6) n (w64 (t6 + 1)))) (some false)
theorem Tspec_l6With_2 {Y} (n : Nat) (t0 : List Pl) (t5 b3_0 b3_1 b3_2 b3_3 : Int) : ∀ (m : Nat) (a : Int) (r : Bool), loopN (Dspec_l6With_2 n t0 t5 b3_0 b3_1 b3_2 b3_3) m a = some r → Wk Try.prog H Y 160 [.code (cp [1, 1, 0, 1, 0] (bodyOf Try.f160)), .blk 0, .code (cp [1, 1, 1] (bodyOf Try.f160))] (FinX Try.prog Try.f160 [] (bl r) []) ⟨[(0, .sl false 4 t0.length ((ePl).f t0)), (3, .ptr 3 0), (5, i64 t5), (6, i64 a)], [(3, ⟨true, 0, [i64 b3_0, i64 b3_1, i64 b3_2, i64 b3_3]⟩)]⟩ := by
  refine loopN_ind (fun rec0 hrec0 a r h => ?_)
  obtain ⟨t6, rfl⟩ : ∃ x, x = a := ⟨a, rfl⟩
  unfold Dspec_l6With_2 at h
  refine x_frk 8 [] onil h (by kernel_rfl) (fun h => ?_) (fun h => ?_)
  · obtain ⟨v0, hv0, h⟩ := bind_some h
    obtain ⟨v1, hv1, h⟩ := bind_some h
    refine x_frk 13 [(2, .val (.cptr (ePl.c v0 ++ (ePl).f ((t0).drop (Int.toNat t6 + 1))))), (2, .call [] [] (bl v1) [])] (ocons (ix ePl hv0) (ocons (Tspec_l6Clash2 (Y := Y) v0 (Pl.mk b3_0 b3_1 b3_2 b3_3) _ hv1) onil)) h (by kernel_rfl) (fun h => ?_) (fun h => ?_)
    · replace h := Option.some.inj h; subst h
      exact x_end 4 [] [] onil onil (by kernel_rfl)
    · exact x_to 8 [] onil (Tspec_l6With_1 n rec0 t0 t5 b3_0 b3_1 b3_2 b3_3 hrec0 t6 n (w64 (t6 + 1)) r h) (by kernel_rfl)
  · replace h := Option.some.inj h; subst h
    exact x_end 5 [] [] onil onil (by kernel_rfl)
def Dspec_l6With (n : Nat) (a0 : (List Pl)) (a1 : Pl) : Option Bool :=
  loopN (Dspec_l6With_2 n a0 (a0.length : Int) a1.A a1.B a1.C a1.D) n 0
theorem Tspec_l6With {Y} (n : Nat) (a0 : (List Pl)) (a1 : Pl) (r : Bool) (h : Dspec_l6With n a0 a1 = some r) : Big Try.prog H Y (.call 160 [.sl false 4 a0.length ((ePl).f a0), .agg [i64 a1.A, i64 a1.B, i64 a1.C, i64 a1.D]] (lk []) (bl r) (lk [])) := by
  unfold Dspec_l6With at h
  refine x_call (fn := Try.f160) (c := bodyOf Try.f160) (bs0 := []) Try.func160 (by kernel_rfl) (by kernel_rfl) ?_
  exact x_to 17 [] onil (Tspec_l6With_2 n a0 (a0.length : Int) a1.A a1.B a1.C a1.D n 0 r h) (by kernel_rfl)
/-! spec.l3Flip -/
def Dspec_l3Flip (a0 : Pl) : Option Pl :=
  some (Pl.mk (w64 (0 - a0.A)) (w64 (0 - a0.B)) (w64 (0 - a0.C)) (w64 (0 - a0.D)))
theorem Tspec_l3Flip {Y} (a0 : Pl) (r : Pl) (h : Dspec_l3Flip a0 = some r) : Big Try.prog H Y (.call 157 [.agg [i64 a0.A, i64 a0.B, i64 a0.C, i64 a0.D]] (lk []) (.agg [i64 r.A, i64 r.B, i64 r.C, i64 r.D]) (lk [])) := by
  unfold Dspec_l3Flip at h
  refine x_call (fn := Try.f157) (c := bodyOf Try.f157) (bs0 := []) Try.func157 (by kernel_rfl) (by kernel_rfl) ?_
  replace h := Option.some.inj h; subst h
  exact x_end 22 [] [] onil onil (by kernel_rfl)
/-! spec.l8Path -/
def Dspec_l8Path (a0 : (List Pl)) (a1 : Pl) : Option (List Pl) :=
  chk (apB 32 (0 + a0.length)) (chk (apB 32 (([] ++ a0).length + 1)) (some (([] ++ a0) ++ [a1])))
theorem Tspec_l8Path {Y} (a0 : (List Pl)) (a1 : Pl) (r : (List Pl)) (h : Dspec_l8Path a0 a1 = some r) : Big Try.prog H Y (.call 179 [.sl false 4 a0.length ((ePl).f a0), .agg [i64 a1.A, i64 a1.B, i64 a1.C, i64 a1.D]] (lk []) (.sl true 4 r.length ((ePl).f r)) (lk [])) := by
  unfold Dspec_l8Path at h
  refine x_call (fn := Try.f179) (c := bodyOf Try.f179) (bs0 := []) Try.func179 (by kernel_rfl) (by kernel_rfl) ?_
  obtain ⟨c0, h⟩ := chk_some h
  obtain ⟨c1, h⟩ := chk_some h
  replace h := Option.some.inj h; subst h
  exact x_end 15 [(4, .app false (List.length ([] ++ a0)) ((ePl).f ([] ++ a0))), (2, .app false (List.length (([] ++ a0) ++ [a1])) ((ePl).f (([] ++ a0) ++ [a1])))] [] (ocons (len_row' (L := []) ePl) (ocons (app_one (L := []) (M := a0) ePl c0) (ocons (app_new (L := []) (M := a0) ePl) (ocons (app_m (L := []) (M := a0) ePl rfl) (ocons (len_row' (L := a0) ePl) (ocons (len_row' (L := ([] ++ a0)) ePl) (ocons (app_one (L := ([] ++ a0)) (M := [a1]) ePl c1) (ocons (app_new (L := ([] ++ a0)) (M := [a1]) ePl) (ocons (app_m (L := ([] ++ a0)) (M := [a1]) ePl rfl) (ocons (len_row' (L := [a1]) ePl) (ocons (Enc.noOwn ePl (fun _ => rfl) [a1]) onil))))))))))) (ocons (len_row (L := (([] ++ a0) ++ [a1])) ePl) onil) (by kernel_rfl)
/-! spec.l8Look -/
def Dspec_l8Look_0 (_n : Nat) (self : (Sol × (List Pl)) → Option Bool) (t1 : List Pl) (t42 _b2_0 : Bool) (b2_1 b2_2 b2_3 b2_4 : Int) (b2_5 : List Sol) : Option Bool :=
  frk t42 (some false) ((lget b2_5 0).bind fun v5 => (Dspec_l8Path t1 (Pl.mk b2_1 b2_2 b2_3 b2_4)).bind fun v6 => (self (v5, v6)).bind fun v7 => frk v7 ((lget b2_5 1).bind fun v8 => (Dspec_l3Flip (Pl.mk b2_1 b2_2 b2_3 b2_4)).bind fun v9 => (Dspec_l8Path t1 v9).bind fun v10 => (self (v8, v10)).bind fun v11 => some v11) (some false))
theorem Tspec_l8Look_0 {Y} (n : Nat) (self : (Sol × (List Pl)) → Option Bool) (hself : ∀ (a : (Sol × (List Pl))) (r : Bool), self a = some r → Big Try.prog H Y (.call 130 [.agg [bl a.1.inn, i64 a.1.pl.A, i64 a.1.pl.B, i64 a.1.pl.C, i64 a.1.pl.D, .sl false 6 a.1.kids.length ((eSol false).f a.1.kids)], .sl false 4 a.2.length ((ePl).f a.2)] (lk []) (bl r) (lk []))) (t1 : List Pl) (t42 b2_0 : Bool) (b2_1 b2_2 b2_3 b2_4 : Int) (b2_5 : List Sol) (r : Bool) (h : Dspec_l8Look_0 n self t1 t42 b2_0 b2_1 b2_2 b2_3 b2_4 b2_5 = some r) : Wk Try.prog H Y 130 [.code (cp [1, 1, 0, 1] (bodyOf Try.f130)), .code (cp [1, 1, 1] (bodyOf Try.f130))] (FinX Try.prog Try.f130 [] (bl r) []) ⟨[(1, .sl false 4 t1.length ((ePl).f t1)), (2, .ptr 2 0), (42, bl t42)], [(2, ⟨true, 0, [bl b2_0, i64 b2_1, i64 b2_2, i64 b2_3, i64 b2_4, .sl false 6 b2_5.length ((eSol false).f b2_5)]⟩)]⟩ := by
  unfold Dspec_l8Look_0 at h
  refine x_frk 0 [] onil h (by kernel_rfl) (fun h => ?_) (fun h => ?_)
  · replace h := Option.some.inj h; subst h
    exact x_end 4 [] [] onil onil (by kernel_rfl)
  · obtain ⟨v5, hv5, h⟩ := bind_some h
    obtain ⟨v6, hv6, h⟩ := bind_some h
    obtain ⟨v7, hv7, h⟩ := bind_some h
    refine x_frk 13 [(2, .val (.cptr ((eSol false).c v5 ++ (eSol false).f ((b2_5).drop (Int.toNat 0 + 1))))), (4, .call [] [] (.sl false 4 v6.length ((ePl).f v6)) []), (0, .call [] [] (bl v7) [])] (ocons (ix (eSol false) hv5) (ocons (shSl (L := v6) ePl ePl sPl (Tspec_l8Path (Y := Y) t1 (Pl.mk b2_1 b2_2 b2_3 b2_4) _ hv6)) (ocons (hself (v5, v6) _ hv7) onil))) h (by kernel_rfl) (fun h => ?_) (fun h => ?_)
    · obtain ⟨v8, hv8, h⟩ := bind_some h
      obtain ⟨v9, hv9, h⟩ := bind_some h
      obtain ⟨v10, hv10, h⟩ := bind_some h
      obtain ⟨v11, hv11, h⟩ := bind_some h
      replace h := Option.some.inj h; subst h
      exact x_end 13 [(2, .val (.cptr ((eSol false).c v8 ++ (eSol false).f ((b2_5).drop (Int.toNat 1 + 1))))), (4, .call [] [] (.agg [i64 v9.A, i64 v9.B, i64 v9.C, i64 v9.D]) []), (0, .call [] [] (.sl false 4 v10.length ((ePl).f v10)) []), (0, .call [] [] (bl v11) [])] [] (ocons (ix (eSol false) hv8) (ocons (Tspec_l3Flip (Y := Y) (Pl.mk b2_1 b2_2 b2_3 b2_4) _ hv9) (ocons (shSl (L := v10) ePl ePl sPl (Tspec_l8Path (Y := Y) t1 v9 _ hv10)) (ocons (hself (v8, v10) _ hv11) onil)))) onil (by kernel_rfl)
    · replace h := Option.some.inj h; subst h
      exact x_end 13 [] [] onil onil (by kernel_rfl)
def Dspec_l8Look_b (n : Nat) (self : (Sol × (List Pl)) → Option Bool) (a : (Sol × (List Pl))) : Option Bool :=
  match a with
  | (a0, a1) => (Dspec_l8Leaf a0).bind fun v0 => frk v0 (some (a0.pl.A == 0 && (a0.pl.B == 0 && (a0.pl.C == 0 && (a0.pl.D == 0 && true))))) (frk ((a0.kids.length : Int) != 2) (some false) (frk a0.inn (some false) ((Dspec_PlaneOk n a0.pl).bind fun v1 => frk (!v1) (some false) (frk ((a1.length : Int) == 24) (some false) ((Dspec_l6With n a1 a0.pl).bind fun v2 => frk v2 (some false) ((Dspec_l3Flip a0.pl).bind fun v3 => (Dspec_l6With n a1 v3).bind fun v4 => Dspec_l8Look_0 n self a1 v4 a0.inn a0.pl.A a0.pl.B a0.pl.C a0.pl.D a0.kids))))))
def Dspec_l8Look (n : Nat) (a0 : Sol) (a1 : (List Pl)) : Option Bool := loopN (Dspec_l8Look_b n) n (a0, a1)
theorem Tspec_l8Look_b {Y} (n : Nat) : ∀ (m : Nat) (a : (Sol × (List Pl))) (r : Bool), loopN (Dspec_l8Look_b n) m a = some r → ∀ (_ : Unit), Big Try.prog H Y (.call 130 [.agg [bl a.1.inn, i64 a.1.pl.A, i64 a.1.pl.B, i64 a.1.pl.C, i64 a.1.pl.D, .sl false 6 a.1.kids.length ((eSol false).f a.1.kids)], .sl false 4 a.2.length ((ePl).f a.2)] (lk []) (bl r) (lk [])) := by
  refine loopN_ind (fun self hs a r h => ?_)
  have hself : ∀ (a : (Sol × (List Pl))) (r : Bool), self a = some r → Big Try.prog H Y (.call 130 [.agg [bl a.1.inn, i64 a.1.pl.A, i64 a.1.pl.B, i64 a.1.pl.C, i64 a.1.pl.D, .sl false 6 a.1.kids.length ((eSol false).f a.1.kids)], .sl false 4 a.2.length ((ePl).f a.2)] (lk []) (bl r) (lk [])) := fun a r h => hs a r h ()
  intro _
  obtain ⟨a0, a1⟩ := a
  unfold Dspec_l8Look_b at h
  refine x_call (fn := Try.f130) (c := bodyOf Try.f130) (bs0 := []) Try.func130 (by kernel_rfl) (by kernel_rfl) ?_
  obtain ⟨v0, hv0, h⟩ := bind_some h
  refine x_frk 11 [(3, .call [] [] (bl v0) [])] (ocons (Tspec_l8Leaf (Y := Y) a0 _ hv0) onil) h (by kernel_rfl) (fun h => ?_) (fun h => ?_)
  · replace h := Option.some.inj h; subst h
    exact x_end 8 [] [] onil onil (by kernel_rfl)
  · refine x_frk 9 [] onil h (by kernel_rfl) (fun h => ?_) (fun h => ?_)
    · replace h := Option.some.inj h; subst h
      exact x_end 33 [] [] onil onil (by kernel_rfl)
    · refine x_frk 4 [] onil h (by kernel_rfl) (fun h => ?_) (fun h => ?_)
      · replace h := Option.some.inj h; subst h
        exact x_end 29 [] [] onil onil (by kernel_rfl)
      · obtain ⟨v1, hv1, h⟩ := bind_some h
        refine x_frk 6 [(2, .call [] [] (bl v1) [])] (ocons (Tspec_PlaneOk (Y := Y) n a0.pl _ hv1) onil) h (by kernel_rfl) (fun h => ?_) (fun h => ?_)
        · replace h := Option.some.inj h; subst h
          exact x_end 23 [] [] onil onil (by kernel_rfl)
        · refine x_frk 5 [] onil h (by kernel_rfl) (fun h => ?_) (fun h => ?_)
          · replace h := Option.some.inj h; subst h
            exact x_end 18 [] [] onil onil (by kernel_rfl)
          · obtain ⟨v2, hv2, h⟩ := bind_some h
            refine x_frk 6 [(3, .call [] [] (bl v2) [])] (ocons (Tspec_l6With (Y := Y) n a1 a0.pl _ hv2) onil) h (by kernel_rfl) (fun h => ?_) (fun h => ?_)
            · replace h := Option.some.inj h; subst h
              exact x_end 12 [] [] onil onil (by kernel_rfl)
            · obtain ⟨v3, hv3, h⟩ := bind_some h
              obtain ⟨v4, hv4, h⟩ := bind_some h
              exact x_to 7 [(3, .call [] [] (.agg [i64 v3.A, i64 v3.B, i64 v3.C, i64 v3.D]) []), (0, .call [] [] (bl v4) [])] (ocons (Tspec_l3Flip (Y := Y) a0.pl _ hv3) (ocons (Tspec_l6With (Y := Y) n a1 v3 _ hv4) onil)) (Tspec_l8Look_0 n self hself a1 v4 a0.inn a0.pl.A a0.pl.B a0.pl.C a0.pl.D a0.kids r h) (by kernel_rfl)
theorem Tspec_l8Look {Y} (n : Nat) (a0 : Sol) (a1 : (List Pl)) (r : Bool) (h : Dspec_l8Look n a0 a1 = some r) : Big Try.prog H Y (.call 130 [.agg [bl a0.inn, i64 a0.pl.A, i64 a0.pl.B, i64 a0.pl.C, i64 a0.pl.D, .sl false 6 a0.kids.length ((eSol false).f a0.kids)], .sl false 4 a1.length ((ePl).f a1)] (lk []) (bl r) (lk [])) := Tspec_l8Look_b n n (a0, a1) r h ()
/-! spec.SolidOk -/
def Dspec_SolidOk (n : Nat) (a0 : Sol) : Option Bool :=
  (Dspec_l8Count n a0 301).bind fun v0 => frk (decide (v0 ≤ 300)) ((Dspec_l8Look n a0 []).bind fun v1 => some v1) (some false)
theorem Tspec_SolidOk {Y} (n : Nat) (a0 : Sol) (r : Bool) (h : Dspec_SolidOk n a0 = some r) : Big Try.prog H Y (.call 59 [.agg [bl a0.inn, i64 a0.pl.A, i64 a0.pl.B, i64 a0.pl.C, i64 a0.pl.D, .sl false 6 a0.kids.length ((eSol false).f a0.kids)]] (lk []) (bl r) (lk [])) := by
  unfold Dspec_SolidOk at h
  refine x_call (fn := Try.f59) (c := bodyOf Try.f59) (bs0 := []) Try.func59 (by kernel_rfl) (by kernel_rfl) ?_
  obtain ⟨v0, hv0, h⟩ := bind_some h
  refine x_frk 11 [(3, .call [] [] (i64 v0) [])] (ocons (Tspec_l8Count (Y := Y) n a0 301 _ hv0) onil) h (by kernel_rfl) (fun h => ?_) (fun h => ?_)
  · obtain ⟨v1, hv1, h⟩ := bind_some h
    replace h := Option.some.inj h; subst h
    exact x_end 6 [(2, .call [] [(ePl).f []] (bl v1) [])] [] (ocons (Tspec_l8Look (Y := Y) n a0 [] _ hv1) (ocons (len_row (L := []) ePl) (ocons (Enc.share ePl ePl sPl []) onil))) onil (by kernel_rfl)
  · replace h := Option.some.inj h; subst h
    exact x_end 6 [] [] onil onil (by kernel_rfl)
/-! impl.Solid).isLeaf -/
def Dimpl_Solid_isLeaf (a0 : Sol) : Option Bool :=
  some ((a0.kids.length : Int) == 0)
theorem Timpl_Solid_isLeaf {Y} (a0 : Sol) (q0 : List AV) (r : Bool) (h : Dimpl_Solid_isLeaf a0 = some r) : Big Try.prog H Y (.call 133 [.cptr ([bl a0.inn, i64 a0.pl.A, i64 a0.pl.B, i64 a0.pl.C, i64 a0.pl.D, .sl false 6 a0.kids.length ((eSol false).f a0.kids)] ++ q0)] (lk []) (bl r) (lk [])) := by
  unfold Dimpl_Solid_isLeaf at h
  refine x_call (fn := Try.f133) (c := bodyOf Try.f133) (bs0 := []) Try.func133 (by kernel_rfl) (by kernel_rfl) ?_
  replace h := Option.some.inj h; subst h
  exact x_end 14 [] [] onil onil (by kernel_rfl)
/-! impl.inRange -/
def Dimpl_inRange (a0 a1 a2 : Int) : Option Bool :=
  frk (decide (a0 ≥ a1)) (some (decide (a0 ≤ a2))) (some false)
theorem Timpl_inRange {Y} (a0 a1 a2 : Int) (r : Bool) (h : Dimpl_inRange a0 a1 a2 = some r) : Big Try.prog H Y (.call 96 [i64 a0, i64 a1, i64 a2] (lk []) (bl r) (lk [])) := by
  unfold Dimpl_inRange at h
  refine x_call (fn := Try.f96) (c := bodyOf Try.f96) (bs0 := []) Try.func96 (by kernel_rfl) (by kernel_rfl) ?_
  refine x_frk 10 [] onil h (by kernel_rfl) (fun h => ?_) (fun h => ?_)
  · replace h := Option.some.inj h; subst h
    exact x_end 6 [] [] onil onil (by kernel_rfl)
  · replace h := Option.some.inj h; subst h
    exact x_end 6 [] [] onil onil (by kernel_rfl)
/-! impl.isCoef -/
def Dimpl_isCoef (a0 : Int) : Option Bool :=
  (Dimpl_inRange a0 (-500) 500).bind fun v0 => some v0
theorem Timpl_isCoef {Y} (a0 : Int) (r : Bool) (h : Dimpl_isCoef a0 = some r) : Big Try.prog H Y (.call 178 [i64 a0] (lk []) (bl r) (lk [])) := by
  unfold Dimpl_isCoef at h
  refine x_call (fn := Try.f178) (c := bodyOf Try.f178) (bs0 := []) Try.func178 (by kernel_rfl) (by kernel_rfl) ?_
  obtain ⟨v0, hv0, h⟩ := bind_some h
  replace h := Option.some.inj h; subst h
  exact x_end 10 [(2, .call [] [] (bl v0) [])] [] (ocons (Timpl_inRange (Y := Y) a0 (-500) 500 _ hv0) onil) onil (by kernel_rfl)
/-! impl.divisor -/
def Dimpl_divisor_0 (_n : Nat) (rec0 : (Int × Int) → Option Int) (_t6 : List Int) (_t7 t8 : Int) (rec1 : (Int × Int) → Option Int) (a : (Int × Int)) : Option Int :=
  match a with
  | (t3, t5) => frk (t5 != 0) ((rm .i64 t3 t5).bind fun v1 => rec1 (t5, v1)) (rec0 (t3, w64 (t8 + 1)))
theorem Timpl_divisor_0 {Y} (n : Nat) (rec0 : (Int × Int) → Option Int) (t6 : List Int) (t7 : Int) (hrec0 : ∀ (a : (Int × Int)) (r : Int), rec0 a = some r → Wk Try.prog H Y 202 [.code (cp [1, 1, 0, 1, 0] (bodyOf Try.f202)), .blk 0, .code (cp [1, 1, 1] (bodyOf Try.f202))] (FinX Try.prog Try.f202 [] (i64 r) []) ⟨[(3, i64 a.1), (6, .sl false 1 t6.length ((eInt).f t6)), (7, i64 t7), (8, i64 a.2)], []⟩) (t8 : Int) : ∀ (m : Nat) (a : (Int × Int)) (r : Int), loopN (Dimpl_divisor_0 n rec0 t6 t7 t8) m a = some r → Wk Try.prog H Y 202 [.code (cp [1, 1, 0, 1, 0, 0, 1, 1, 0, 0, 1, 1, 0] (bodyOf Try.f202)), .blk 2, .blk 1, .code (cp [1, 1, 0, 1, 0, 0, 1, 1, 1] (bodyOf Try.f202)), .lp (cp [1, 1, 0, 1, 0] (bodyOf Try.f202)), .blk 0, .code (cp [1, 1, 1] (bodyOf Try.f202))] (FinX Try.prog Try.f202 [] (i64 r) []) ⟨[(3, i64 a.1), (5, i64 a.2), (6, .sl false 1 t6.length ((eInt).f t6)), (7, i64 t7), (8, i64 t8)], []⟩ := by
  refine loopN_ind (fun _rec1 hrec1 a r h => ?_)
  obtain ⟨t3, t5⟩ := a
  unfold Dimpl_divisor_0 at h
  refine x_frk 7 [] onil h (by kernel_rfl) (fun h => ?_) (fun h => ?_)
  · obtain ⟨v1, hv1, h⟩ := bind_some h
    exact x_to 12 [(3, .val (i64 v1))] (ocons (rmOk hv1) onil) (hrec1 (t5, v1) r h) (by kernel_rfl)
  · exact x_to 7 [] onil (hrec0 (t3, w64 (t8 + 1)) r h) (by kernel_rfl)
def Dimpl_divisor_1 (n : Nat) (t6 : List Int) (t7 : Int) (rec0 : (Int × Int) → Option Int) (a : (Int × Int)) : Option Int :=
  match a with
  | (t3, t8) => frk (decide (t8 < t7)) ((lget t6 t8).bind fun v0 => loopN (Dimpl_divisor_0 n rec0 t6 t7 t8) n (t3, maxN v0 [w64 (0 - v0)])) (some t3)
theorem Timpl_divisor_1 {Y} (n : Nat) (t6 : List Int) (t7 : Int) : ∀ (m : Nat) (a : (Int × Int)) (r : Int), loopN (Dimpl_divisor_1 n t6 t7) m a = some r → Wk Try.prog H Y 202 [.code (cp [1, 1, 0, 1, 0] (bodyOf Try.f202)), .blk 0, .code (cp [1, 1, 1] (bodyOf Try.f202))] (FinX Try.prog Try.f202 [] (i64 r) []) ⟨[(3, i64 a.1), (6, .sl false 1 t6.length ((eInt).f t6)), (7, i64 t7), (8, i64 a.2)], []⟩ := by
  refine loopN_ind (fun rec0 hrec0 a r h => ?_)
  obtain ⟨t3, t8⟩ := a
  unfold Dimpl_divisor_1 at h
  refine x_frk 6 [] onil h (by kernel_rfl) (fun h => ?_) (fun h => ?_)
  · obtain ⟨v0, hv0, h⟩ := bind_some h
    exact x_to 18 [(0, .val (.cptr (eInt.c v0 ++ (eInt).f ((t6).drop (Int.toNat t8 + 1))))), (5, .val (.lit (.int .i64 (maxN v0 [w64 (0 - v0)]))))] (ocons (ix eInt hv0) (ocons (maxNok .i64 [w64 (0 - v0)] v0) onil)) (Timpl_divisor_0 n rec0 t6 t7 hrec0 t8 n (t3, maxN v0 [w64 (0 - v0)]) r h) (by kernel_rfl)
  · replace h := Option.some.inj h; subst h
    exact x_end 6 [] [] onil onil (by kernel_rfl)
def Dimpl_divisor (n : Nat) (a0 : (List Int)) : Option Int :=
  loopN (Dimpl_divisor_1 n a0 (a0.length : Int)) n (0, 0)
theorem Timpl_divisor {Y} (n : Nat) (a0 : (List Int)) (r : Int) (h : Dimpl_divisor n a0 = some r) : Big Try.prog H Y (.call 202 [.sl false 1 a0.length ((eInt).f a0)] (lk []) (i64 r) (lk [])) := by
  unfold Dimpl_divisor at h
  refine x_call (fn := Try.f202) (c := bodyOf Try.f202) (bs0 := []) Try.func202 (by kernel_rfl) (by kernel_rfl) ?_
  exact x_to 16 [] onil (Timpl_divisor_1 n a0 (a0.length : Int) n (0, 0) r h) (by kernel_rfl)
/-! impl.PlaneOk -/
def Dimpl_PlaneOk_0 (n : Nat) (t24 : Bool) (b1_0 b1_1 b1_2 b1_3 : Int) : Option Bool :=
  frk t24 (some false) (frk (b1_0 != 0) ((Dimpl_divisor n [b1_0, b1_1, b1_2, b1_3]).bind fun v4 => some (v4 == 1)) (frk (b1_1 != 0) ((Dimpl_divisor n [b1_0, b1_1, b1_2, b1_3]).bind fun v5 => some (v5 == 1)) (frk (b1_2 != 0) ((Dimpl_divisor n [b1_0, b1_1, b1_2, b1_3]).bind fun v6 => some (v6 == 1)) (some false))))
theorem Timpl_PlaneOk_0 {Y} (n : Nat) (t24 : Bool) (b1_0 b1_1 b1_2 b1_3 : Int) (r : Bool) (h : Dimpl_PlaneOk_0 n t24 b1_0 b1_1 b1_2 b1_3 = some r) : Wk Try.prog H Y 177 [.code (cp [1, 0, 1] (bodyOf Try.f177)), .code (cp [1, 1] (bodyOf Try.f177))] (FinX Try.prog Try.f177 [] (bl r) []) ⟨[(1, .ptr 1 0), (24, bl t24)], [(1, ⟨true, 0, [i64 b1_0, i64 b1_1, i64 b1_2, i64 b1_3]⟩)]⟩ := by
  unfold Dimpl_PlaneOk_0 at h
  refine x_frk 0 [] onil h (by kernel_rfl) (fun h => ?_) (fun h => ?_)
  · replace h := Option.some.inj h; subst h
    exact x_end 4 [] [] onil onil (by kernel_rfl)
  · refine x_frk 7 [] onil h (by kernel_rfl) (fun h => ?_) (fun h => ?_)
    · obtain ⟨v4, hv4, h⟩ := bind_some h
      replace h := Option.some.inj h; subst h
      exact x_end 24 [(19, .call [] [(eInt).f [b1_0, b1_1, b1_2, b1_3]] (i64 v4) [])] [] (ocons (Timpl_divisor (Y := Y) n [b1_0, b1_1, b1_2, b1_3] _ hv4) (ocons (len_row (L := [b1_0, b1_1, b1_2, b1_3]) eInt) (ocons (Enc.share eInt eInt sInt [b1_0, b1_1, b1_2, b1_3]) onil))) onil (by kernel_rfl)
    · refine x_frk 5 [] onil h (by kernel_rfl) (fun h => ?_) (fun h => ?_)
      · obtain ⟨v5, hv5, h⟩ := bind_some h
        replace h := Option.some.inj h; subst h
        exact x_end 19 [(14, .call [] [(eInt).f [b1_0, b1_1, b1_2, b1_3]] (i64 v5) [])] [] (ocons (Timpl_divisor (Y := Y) n [b1_0, b1_1, b1_2, b1_3] _ hv5) (ocons (len_row (L := [b1_0, b1_1, b1_2, b1_3]) eInt) (ocons (Enc.share eInt eInt sInt [b1_0, b1_1, b1_2, b1_3]) onil))) onil (by kernel_rfl)
      · refine x_frk 5 [] onil h (by kernel_rfl) (fun h => ?_) (fun h => ?_)
        · obtain ⟨v6, hv6, h⟩ := bind_some h
          replace h := Option.some.inj h; subst h
          exact x_end 14 [(9, .call [] [(eInt).f [b1_0, b1_1, b1_2, b1_3]] (i64 v6) [])] [] (ocons (Timpl_divisor (Y := Y) n [b1_0, b1_1, b1_2, b1_3] _ hv6) (ocons (len_row (L := [b1_0, b1_1, b1_2, b1_3]) eInt) (ocons (Enc.share eInt eInt sInt [b1_0, b1_1, b1_2, b1_3]) onil))) onil (by kernel_rfl)
        · replace h := Option.some.inj h; subst h
          exact x_end 14 [] [] onil onil (by kernel_rfl)
def Dimpl_PlaneOk (n : Nat) (a0 : Pl) : Option Bool :=
  (Dimpl_isCoef a0.A).bind fun v0 => frk (!v0) (some false) ((Dimpl_isCoef a0.B).bind fun v1 => frk (!v1) (some false) ((Dimpl_isCoef a0.C).bind fun v2 => frk (!v2) (some false) ((Dimpl_isCoef a0.D).bind fun v3 => Dimpl_PlaneOk_0 n (!v3) a0.A a0.B a0.C a0.D)))
theorem Timpl_PlaneOk {Y} (n : Nat) (a0 : Pl) (r : Bool) (h : Dimpl_PlaneOk n a0 = some r) : Big Try.prog H Y (.call 177 [.agg [i64 a0.A, i64 a0.B, i64 a0.C, i64 a0.D]] (lk []) (bl r) (lk [])) := by
  unfold Dimpl_PlaneOk at h
  refine x_call (fn := Try.f177) (c := bodyOf Try.f177) (bs0 := []) Try.func177 (by kernel_rfl) (by kernel_rfl) ?_
  obtain ⟨v0, hv0, h⟩ := bind_some h
  refine x_frk 13 [(4, .call [] [] (bl v0) [])] (ocons (Timpl_isCoef (Y := Y) a0.A _ hv0) onil) h (by kernel_rfl) (fun h => ?_) (fun h => ?_)
  · replace h := Option.some.inj h; subst h
    exact x_end 23 [] [] onil onil (by kernel_rfl)
  · obtain ⟨v1, hv1, h⟩ := bind_some h
    refine x_frk 6 [(2, .call [] [] (bl v1) [])] (ocons (Timpl_isCoef (Y := Y) a0.B _ hv1) onil) h (by kernel_rfl) (fun h => ?_) (fun h => ?_)
    · replace h := Option.some.inj h; subst h
      exact x_end 17 [] [] onil onil (by kernel_rfl)
    · obtain ⟨v2, hv2, h⟩ := bind_some h
      refine x_frk 6 [(2, .call [] [] (bl v2) [])] (ocons (Timpl_isCoef (Y := Y) a0.C _ hv2) onil) h (by kernel_rfl) (fun h => ?_) (fun h => ?_)
      · replace h := Option.some.inj h; subst h
        exact x_end 11 [] [] onil onil (by kernel_rfl)
      · obtain ⟨v3, hv3, h⟩ := bind_some h
        exact x_to 6 [(2, .call [] [] (bl v3) [])] (ocons (Timpl_isCoef (Y := Y) a0.D _ hv3) onil) (Timpl_PlaneOk_0 n (!v3) a0.A a0.B a0.C a0.D r h) (by kernel_rfl)
/-! impl.flip -/
def Dimpl_flip (a0 : Pl) : Option Pl :=
  some (Pl.mk (w64 (0 - a0.A)) (w64 (0 - a0.B)) (w64 (0 - a0.C)) (w64 (0 - a0.D)))
theorem Timpl_flip {Y} (a0 : Pl) (r : Pl) (h : Dimpl_flip a0 = some r) : Big Try.prog H Y (.call 163 [.agg [i64 a0.A, i64 a0.B, i64 a0.C, i64 a0.D]] (lk []) (.agg [i64 r.A, i64 r.B, i64 r.C, i64 r.D]) (lk [])) := by
  unfold Dimpl_flip at h
  refine x_call (fn := Try.f163) (c := bodyOf Try.f163) (bs0 := []) Try.func163 (by kernel_rfl) (by kernel_rfl) ?_
  replace h := Option.some.inj h; subst h
  exact x_end 22 [] [] onil onil (by kernel_rfl)
/-! impl.normal -/
def Dimpl_normal (a0 : Pl) : Option (Int × Int × Int) :=
  some (a0.A, a0.B, a0.C)
theorem Timpl_normal {Y} (a0 : Pl) (r : (Int × Int × Int)) (h : Dimpl_normal a0 = some r) : Big Try.prog H Y (.call 78 [.agg [i64 a0.A, i64 a0.B, i64 a0.C, i64 a0.D]] (lk []) (.agg [i64 r.1, i64 r.2.1, i64 r.2.2]) (lk [])) := by
  unfold Dimpl_normal at h
  refine x_call (fn := Try.f78) (c := bodyOf Try.f78) (bs0 := []) Try.func78 (by kernel_rfl) (by kernel_rfl) ?_
  replace h := Option.some.inj h; subst h
  exact x_end 16 [] [] onil onil (by kernel_rfl)
/-! impl.crossOf -/
def Dimpl_crossOf (a0 : (Int × Int × Int)) (a1 : (Int × Int × Int)) : Option (Int × Int × Int) :=
  some (w64 ((w64 (a0.2.1 * a1.2.2)) - (w64 (a0.2.2 * a1.2.1))), w64 ((w64 (a0.2.2 * a1.1)) - (w64 (a0.1 * a1.2.2))), w64 ((w64 (a0.1 * a1.2.1)) - (w64 (a0.2.1 * a1.1))))
theorem Timpl_crossOf {Y} (a0 : (Int × Int × Int)) (a1 : (Int × Int × Int)) (r : (Int × Int × Int)) (h : Dimpl_crossOf a0 a1 = some r) : Big Try.prog H Y (.call 225 [.agg [i64 a0.1, i64 a0.2.1, i64 a0.2.2], .agg [i64 a1.1, i64 a1.2.1, i64 a1.2.2]] (lk []) (.agg [i64 r.1, i64 r.2.1, i64 r.2.2]) (lk [])) := by
  unfold Dimpl_crossOf at h
  refine x_call (fn := Try.f225) (c := bodyOf Try.f225) (bs0 := []) Try.func225 (by kernel_rfl) (by kernel_rfl) ?_
  replace h := Option.some.inj h; subst h
  exact x_end 44 [] [] onil onil (by kernel_rfl)
/-! impl.dot -/
def Dimpl_dot (a0 : (Int × Int × Int)) (a1 : (Int × Int × Int)) : Option Int :=
  some (w64 ((w64 ((w64 (a0.1 * a1.1)) + (w64 (a0.2.1 * a1.2.1)))) + (w64 (a0.2.2 * a1.2.2))))
theorem Timpl_dot {Y} (a0 : (Int × Int × Int)) (a1 : (Int × Int × Int)) (r : Int) (h : Dimpl_dot a0 a1 = some r) : Big Try.prog H Y (.call 227 [.agg [i64 a0.1, i64 a0.2.1, i64 a0.2.2], .agg [i64 a1.1, i64 a1.2.1, i64 a1.2.2]] (lk []) (i64 r) (lk [])) := by
  unfold Dimpl_dot at h
  refine x_call (fn := Try.f227) (c := bodyOf Try.f227) (bs0 := []) Try.func227 (by kernel_rfl) (by kernel_rfl) ?_
  replace h := Option.some.inj h; subst h
  exact x_end 27 [] [] onil onil (by kernel_rfl)
/-! cmp.isNaN[int] -/
def Dcmp_isNaN (a0 : Int) : Option Bool :=
  some (a0 != a0)
theorem Tcmp_isNaN {Y} (a0 : Int) (r : Bool) (h : Dcmp_isNaN a0 = some r) : Big Try.prog H Y (.call 229 [i64 a0] (lk []) (bl r) (lk [])) := by
  unfold Dcmp_isNaN at h
  refine x_call (fn := Try.f229) (c := bodyOf Try.f229) (bs0 := []) Try.func229 (by kernel_rfl) (by kernel_rfl) ?_
  replace h := Option.some.inj h; subst h
  exact x_end 11 [] [] onil onil (by kernel_rfl)
/-! cmp.Compare[int] -/
def Dcmp_Compare (a0 a1 : Int) : Option Int :=
  (Dcmp_isNaN a0).bind fun v0 => (Dcmp_isNaN a1).bind fun v1 => frk v0 (frk v1 (some 0) (some (-1))) (frk v1 (some 1) (frk (decide (a0 < a1)) (some (-1)) (frk (decide (a0 > a1)) (some 1) (some 0))))
theorem Tcmp_Compare {Y} (a0 a1 r : Int) (h : Dcmp_Compare a0 a1 = some r) : Big Try.prog H Y (.call 216 [i64 a0, i64 a1] (lk []) (i64 r) (lk [])) := by
  unfold Dcmp_Compare at h
  refine x_call (fn := Try.f216) (c := bodyOf Try.f216) (bs0 := []) Try.func216 (by kernel_rfl) (by kernel_rfl) ?_
  obtain ⟨v0, hv0, h⟩ := bind_some h
  obtain ⟨v1, hv1, h⟩ := bind_some h
  refine x_frk 21 [(2, .call [] [] (bl v0) []), (2, .call [] [] (bl v1) [])] (ocons (Tcmp_isNaN (Y := Y) a0 _ hv0) (ocons (Tcmp_isNaN (Y := Y) a1 _ hv1) onil)) h (by kernel_rfl) (fun h => ?_) (fun h => ?_)
  · refine x_frk 5 [] onil h (by kernel_rfl) (fun h => ?_) (fun h => ?_)
    · replace h := Option.some.inj h; subst h
      exact x_end 4 [] [] onil onil (by kernel_rfl)
    · replace h := Option.some.inj h; subst h
      exact x_end 5 [] [] onil onil (by kernel_rfl)
  · refine x_frk 6 [] onil h (by kernel_rfl) (fun h => ?_) (fun h => ?_)
    · replace h := Option.some.inj h; subst h
      exact x_end 4 [] [] onil onil (by kernel_rfl)
    · refine x_frk 8 [] onil h (by kernel_rfl) (fun h => ?_) (fun h => ?_)
      · replace h := Option.some.inj h; subst h
        exact x_end 4 [] [] onil onil (by kernel_rfl)
      · refine x_frk 8 [] onil h (by kernel_rfl) (fun h => ?_) (fun h => ?_)
        · replace h := Option.some.inj h; subst h
          exact x_end 4 [] [] onil onil (by kernel_rfl)
        · replace h := Option.some.inj h; subst h
          exact x_end 5 [] [] onil onil (by kernel_rfl)
/-! impl.sign -/
def Dimpl_sign (a0 : Int) : Option Int :=
  (Dcmp_Compare a0 0).bind fun v0 => some v0
theorem Timpl_sign {Y} (a0 r : Int) (h : Dimpl_sign a0 = some r) : Big Try.prog H Y (.call 207 [i64 a0] (lk []) (i64 r) (lk [])) := by
  unfold Dimpl_sign at h
  refine x_call (fn := Try.f207) (c := bodyOf Try.f207) (bs0 := []) Try.func207 (by kernel_rfl) (by kernel_rfl) ?_
  obtain ⟨v0, hv0, h⟩ := bind_some h
  replace h := Option.some.inj h; subst h
  exact x_end 10 [(2, .call [] [] (i64 v0) [])] [] (ocons (Tcmp_Compare (Y := Y) a0 0 _ hv0) onil) onil (by kernel_rfl)
/-! impl.parallel -/
def Dimpl_parallel (a0 : Pl) (a1 : Pl) : Option Int :=
  (Dimpl_normal a0).bind fun v0 => (Dimpl_normal a1).bind fun v1 => (Dimpl_crossOf v0 v1).bind fun v2 => frk (!(v2.1 == 0 && (v2.2.1 == 0 && (v2.2.2 == 0 && true)))) (some 0) ((Dimpl_normal a0).bind fun v3 => (Dimpl_normal a1).bind fun v4 => (Dimpl_dot v3 v4).bind fun v5 => (Dimpl_sign v5).bind fun v6 => some v6)
theorem Timpl_parallel {Y} (a0 : Pl) (a1 : Pl) (r : Int) (h : Dimpl_parallel a0 a1 = some r) : Big Try.prog H Y (.call 223 [.agg [i64 a0.A, i64 a0.B, i64 a0.C, i64 a0.D], .agg [i64 a1.A, i64 a1.B, i64 a1.C, i64 a1.D]] (lk []) (i64 r) (lk [])) := by
  unfold Dimpl_parallel at h
  refine x_call (fn := Try.f223) (c := bodyOf Try.f223) (bs0 := []) Try.func223 (by kernel_rfl) (by kernel_rfl) ?_
  obtain ⟨v0, hv0, h⟩ := bind_some h
  obtain ⟨v1, hv1, h⟩ := bind_some h
  obtain ⟨v2, hv2, h⟩ := bind_some h
  refine x_frk 17 [(4, .call [] [] (.agg [i64 v0.1, i64 v0.2.1, i64 v0.2.2]) []), (1, .call [] [] (.agg [i64 v1.1, i64 v1.2.1, i64 v1.2.2]) []), (0, .call [] [] (.agg [i64 v2.1, i64 v2.2.1, i64 v2.2.2]) [])] (ocons (Timpl_normal (Y := Y) a0 _ hv0) (ocons (Timpl_normal (Y := Y) a1 _ hv1) (ocons (Timpl_crossOf (Y := Y) v0 v1 _ hv2) onil))) h (by kernel_rfl) (fun h => ?_) (fun h => ?_)
  · replace h := Option.some.inj h; subst h
    exact x_end 4 [] [] onil onil (by kernel_rfl)
  · obtain ⟨v3, hv3, h⟩ := bind_some h
    obtain ⟨v4, hv4, h⟩ := bind_some h
    obtain ⟨v5, hv5, h⟩ := bind_some h
    obtain ⟨v6, hv6, h⟩ := bind_some h
    replace h := Option.some.inj h; subst h
    exact x_end 11 [(1, .call [] [] (.agg [i64 v3.1, i64 v3.2.1, i64 v3.2.2]) []), (1, .call [] [] (.agg [i64 v4.1, i64 v4.2.1, i64 v4.2.2]) []), (0, .call [] [] (i64 v5) []), (0, .call [] [] (i64 v6) [])] [] (ocons (Timpl_normal (Y := Y) a0 _ hv3) (ocons (Timpl_normal (Y := Y) a1 _ hv4) (ocons (Timpl_dot (Y := Y) v3 v4 _ hv5) (ocons (Timpl_sign (Y := Y) v5 _ hv6) onil)))) onil (by kernel_rfl)
/-! impl.clash2 -/
def Dimpl_clash2 (_n : Nat) (a0 : Pl) (a1 : Pl) : Option Bool :=
  (Dimpl_parallel a0 a1).bind fun v0 => frk (decide (v0 ≥ 0)) (some false) ((Dimpl_normal a0).bind fun v1 => (Dimpl_normal a1).bind fun v2 => frk (v1.1 != 0) (some (decide ((w64 ((w64 (a0.D * (maxN v2.1 [w64 (0 - v2.1)]))) + (w64 (a1.D * (maxN v1.1 [w64 (0 - v1.1)]))))) ≤ 0))) (frk (v1.2.1 != 0) (some (decide ((w64 ((w64 (a0.D * (maxN v2.2.1 [w64 (0 - v2.2.1)]))) + (w64 (a1.D * (maxN v1.2.1 [w64 (0 - v1.2.1)]))))) ≤ 0))) (frk (v1.2.2 != 0) (some (decide ((w64 ((w64 (a0.D * (maxN v2.2.2 [w64 (0 - v2.2.2)]))) + (w64 (a1.D * (maxN v1.2.2 [w64 (0 - v1.2.2)]))))) ≤ 0))) (some false))))
theorem Timpl_clash2 {Y} (n : Nat) (a0 : Pl) (a1 : Pl) (r : Bool) (h : Dimpl_clash2 n a0 a1 = some r) : Big Try.prog H Y (.call 203 [.agg [i64 a0.A, i64 a0.B, i64 a0.C, i64 a0.D], .agg [i64 a1.A, i64 a1.B, i64 a1.C, i64 a1.D]] (lk []) (bl r) (lk [])) := by
  unfold Dimpl_clash2 at h
  refine x_call (fn := Try.f203) (c := bodyOf Try.f203) (bs0 := []) Try.func203 (by kernel_rfl) (by kernel_rfl) ?_
  obtain ⟨v0, hv0, h⟩ := bind_some h
  refine x_frk 14 [(5, .call [] [] (i64 v0) [])] (ocons (Timpl_parallel (Y := Y) a0 a1 _ hv0) onil) h (by kernel_rfl) (fun h => ?_) (fun h => ?_)
  · replace h := Option.some.inj h; subst h
    exact x_end 4 [] [] onil onil (by kernel_rfl)
  · obtain ⟨v1, hv1, h⟩ := bind_some h
    obtain ⟨v2, hv2, h⟩ := bind_some h
    refine x_frk 40 [(1, .call [] [] (.agg [i64 v1.1, i64 v1.2.1, i64 v1.2.2]) []), (1, .call [] [] (.agg [i64 v2.1, i64 v2.2.1, i64 v2.2.2]) [])] (ocons (Timpl_normal (Y := Y) a0 _ hv1) (ocons (Timpl_normal (Y := Y) a1 _ hv2) onil)) h (by kernel_rfl) (fun h => ?_) (fun h => ?_)
    · replace h := Option.some.inj h; subst h
      exact x_end 28 [(9, .val (.lit (.int .i64 (maxN v2.1 [w64 (0 - v2.1)])))), (10, .val (.lit (.int .i64 (maxN v1.1 [w64 (0 - v1.1)]))))] [] (ocons (maxNok .i64 [w64 (0 - v2.1)] v2.1) (ocons (maxNok .i64 [w64 (0 - v1.1)] v1.1) onil)) onil (by kernel_rfl)
    · refine x_frk 29 [] onil h (by kernel_rfl) (fun h => ?_) (fun h => ?_)
      · replace h := Option.some.inj h; subst h
        exact x_end 28 [(9, .val (.lit (.int .i64 (maxN v2.2.1 [w64 (0 - v2.2.1)])))), (10, .val (.lit (.int .i64 (maxN v1.2.1 [w64 (0 - v1.2.1)]))))] [] (ocons (maxNok .i64 [w64 (0 - v2.2.1)] v2.2.1) (ocons (maxNok .i64 [w64 (0 - v1.2.1)] v1.2.1) onil)) onil (by kernel_rfl)
      · refine x_frk 29 [] onil h (by kernel_rfl) (fun h => ?_) (fun h => ?_)
        · replace h := Option.some.inj h; subst h
          exact x_end 28 [(9, .val (.lit (.int .i64 (maxN v2.2.2 [w64 (0 - v2.2.2)])))), (10, .val (.lit (.int .i64 (maxN v1.2.2 [w64 (0 - v1.2.2)]))))] [] (ocons (maxNok .i64 [w64 (0 - v2.2.2)] v2.2.2) (ocons (maxNok .i64 [w64 (0 - v1.2.2)] v1.2.2) onil)) onil (by kernel_rfl)
        · replace h := Option.some.inj h; subst h
          exact x_end 19 [] [] onil onil (by kernel_rfl)
/-! impl.det -/
def Dimpl_det (a0 : (Int × Int × Int)) (a1 : (Int × Int × Int)) (a2 : (Int × Int × Int)) : Option Int :=
  (Dimpl_crossOf a1 a2).bind fun v0 => (Dimpl_dot a0 v0).bind fun v1 => some v1
theorem Timpl_det {Y} (a0 : (Int × Int × Int)) (a1 : (Int × Int × Int)) (a2 : (Int × Int × Int)) (r : Int) (h : Dimpl_det a0 a1 a2 = some r) : Big Try.prog H Y (.call 224 [.agg [i64 a0.1, i64 a0.2.1, i64 a0.2.2], .agg [i64 a1.1, i64 a1.2.1, i64 a1.2.2], .agg [i64 a2.1, i64 a2.2.1, i64 a2.2.2]] (lk []) (i64 r) (lk [])) := by
  unfold Dimpl_det at h
  refine x_call (fn := Try.f224) (c := bodyOf Try.f224) (bs0 := []) Try.func224 (by kernel_rfl) (by kernel_rfl) ?_
  obtain ⟨v0, hv0, h⟩ := bind_some h
  obtain ⟨v1, hv1, h⟩ := bind_some h
  replace h := Option.some.inj h; subst h
  exact x_end 16 [(7, .call [] [] (.agg [i64 v0.1, i64 v0.2.1, i64 v0.2.2]) []), (0, .call [] [] (i64 v1) [])] [] (ocons (Timpl_crossOf (Y := Y) a1 a2 _ hv0) (ocons (Timpl_dot (Y := Y) a0 v0 _ hv1) onil)) onil (by kernel_rfl)
/-! impl.weighs -/
def Dimpl_weighs_0 (_n : Nat) (rec0 : (Int × Int) → Option Bool) (t1 : List Int) (_t5 : Int) (_t13 : List Int) (_t14 t6 t7 t8 t15 : Int) (t27 : Bool) : Option Bool :=
  frk t27 (some false) ((lget t1 t7).bind fun v4 => rec0 (w64 (t6 + (w64 (t8 * v4))), w64 (t15 + 1)))
theorem Timpl_weighs_0 {Y} (n : Nat) (rec0 : (Int × Int) → Option Bool) (t1 : List Int) (t5 : Int) (t13 : List Int) (t14 : Int) (hrec0 : ∀ (a : (Int × Int)) (r : Bool), rec0 a = some r → Wk Try.prog H Y 226 [.code (cp [1, 1, 1, 0, 1, 0] (bodyOf Try.f226)), .blk 0, .code (cp [1, 1, 1, 1] (bodyOf Try.f226))] (FinX Try.prog Try.f226 [] (bl r) []) ⟨[(1, .sl false 1 t1.length ((eInt).f t1)), (5, i64 t5), (6, i64 a.1), (13, .sl false 1 t13.length ((eInt).f t13)), (14, i64 t14), (15, i64 a.2)], []⟩) (t6 t7 t8 t15 : Int) (t27 r : Bool) (h : Dimpl_weighs_0 n rec0 t1 t5 t13 t14 t6 t7 t8 t15 t27 = some r) : Wk Try.prog H Y 226 [.code (cp [1, 1, 1, 0, 1, 0, 0, 1, 1, 0, 0, 1, 0, 1] (bodyOf Try.f226)), .code (cp [1, 1, 1, 0, 1, 0, 0, 1, 1, 0, 0, 1, 1] (bodyOf Try.f226)), .blk 1, .code (cp [1, 1, 1, 0, 1, 0, 0, 1, 1, 1] (bodyOf Try.f226)), .lp (cp [1, 1, 1, 0, 1, 0] (bodyOf Try.f226)), .blk 0, .code (cp [1, 1, 1, 1] (bodyOf Try.f226))] (FinX Try.prog Try.f226 [] (bl r) []) ⟨[(1, .sl false 1 t1.length ((eInt).f t1)), (5, i64 t5), (6, i64 t6), (7, i64 t7), (8, i64 t8), (13, .sl false 1 t13.length ((eInt).f t13)), (14, i64 t14), (15, i64 t15), (27, bl t27)], []⟩ := by
  unfold Dimpl_weighs_0 at h
  refine x_frk 0 [] onil h (by kernel_rfl) (fun h => ?_) (fun h => ?_)
  · replace h := Option.some.inj h; subst h
    exact x_end 4 [] [] onil onil (by kernel_rfl)
  · obtain ⟨v4, hv4, h⟩ := bind_some h
    exact x_to 18 [(4, .val (.cptr (eInt.c v4 ++ (eInt).f ((t1).drop (Int.toNat t7 + 1)))))] (ocons (ix eInt hv4) onil) (hrec0 (w64 (t6 + (w64 (t8 * v4))), w64 (t15 + 1)) r h) (by kernel_rfl)
def Dimpl_weighs_1 (n : Nat) (t1 : List Int) (t5 : Int) (t13 : List Int) (t14 : Int) (rec0 : (Int × Int) → Option Bool) (a : (Int × Int)) : Option Bool :=
  match a with
  | (t6, t15) => frk (decide (t15 < t14)) ((lget t13 t15).bind fun v2 => frk (t5 == 0) (some false) ((Dimpl_sign v2).bind fun v3 => Dimpl_weighs_0 n rec0 t1 t5 t13 t14 t6 t15 v2 t15 (v3 != t5))) (some (decide ((w64 (t6 * t5)) ≤ 0)))
theorem Timpl_weighs_1 {Y} (n : Nat) (t1 : List Int) (t5 : Int) (t13 : List Int) (t14 : Int) : ∀ (m : Nat) (a : (Int × Int)) (r : Bool), loopN (Dimpl_weighs_1 n t1 t5 t13 t14) m a = some r → Wk Try.prog H Y 226 [.code (cp [1, 1, 1, 0, 1, 0] (bodyOf Try.f226)), .blk 0, .code (cp [1, 1, 1, 1] (bodyOf Try.f226))] (FinX Try.prog Try.f226 [] (bl r) []) ⟨[(1, .sl false 1 t1.length ((eInt).f t1)), (5, i64 t5), (6, i64 a.1), (13, .sl false 1 t13.length ((eInt).f t13)), (14, i64 t14), (15, i64 a.2)], []⟩ := by
  refine loopN_ind (fun rec0 hrec0 a r h => ?_)
  obtain ⟨t6, t15⟩ := a
  unfold Dimpl_weighs_1 at h
  refine x_frk 6 [] onil h (by kernel_rfl) (fun h => ?_) (fun h => ?_)
  · obtain ⟨v2, hv2, h⟩ := bind_some h
    refine x_frk 17 [(1, .val (.cptr (eInt.c v2 ++ (eInt).f ((t13).drop (Int.toNat t15 + 1)))))] (ocons (ix eInt hv2) onil) h (by kernel_rfl) (fun h => ?_) (fun h => ?_)
    · replace h := Option.some.inj h; subst h
      exact x_end 11 [] [] onil onil (by kernel_rfl)
    · obtain ⟨v3, hv3, h⟩ := bind_some h
      exact x_to 6 [(1, .call [] [] (i64 v3) [])] (ocons (Timpl_sign (Y := Y) v2 _ hv3) onil) (Timpl_weighs_0 n rec0 t1 t5 t13 t14 hrec0 t6 t15 v2 t15 (v3 != t5) r h) (by kernel_rfl)
  · replace h := Option.some.inj h; subst h
    exact x_end 9 [] [] onil onil (by kernel_rfl)
def Dimpl_weighs (n : Nat) (a0 : (List Int)) (a1 : (List Int)) : Option Bool :=
  (lget a0 0).bind fun v0 => (Dimpl_sign v0).bind fun v1 => loopN (Dimpl_weighs_1 n a1 v1 a0 (a0.length : Int)) n (0, 0)
theorem Timpl_weighs {Y} (n : Nat) (a0 : (List Int)) (a1 : (List Int)) (r : Bool) (h : Dimpl_weighs n a0 a1 = some r) : Big Try.prog H Y (.call 226 [.sl false 1 a0.length ((eInt).f a0), .sl false 1 a1.length ((eInt).f a1)] (lk []) (bl r) (lk [])) := by
  unfold Dimpl_weighs at h
  refine x_call (fn := Try.f226) (c := bodyOf Try.f226) (bs0 := []) Try.func226 (by kernel_rfl) (by kernel_rfl) ?_
  obtain ⟨v0, hv0, h⟩ := bind_some h
  obtain ⟨v1, hv1, h⟩ := bind_some h
  exact x_to 24 [(2, .val (.cptr (eInt.c v0 ++ (eInt).f ((a0).drop (Int.toNat 0 + 1))))), (1, .call [] [] (i64 v1) [])] (ocons (ix eInt hv0) (ocons (Timpl_sign (Y := Y) v0 _ hv1) onil)) (Timpl_weighs_1 n a1 v1 a0 (a0.length : Int) n (0, 0) r h) (by kernel_rfl)
/-! impl.clash3 -/
def Dimpl_clash3 (n : Nat) (a0 : Pl) (a1 : Pl) (a2 : Pl) : Option Bool :=
  (Dimpl_normal a0).bind fun v0 => (Dimpl_normal a1).bind fun v1 => (Dimpl_normal a2).bind fun v2 => (Dimpl_det v0 v1 v2).bind fun v3 => frk (v3 != 0) (some false) ((Dimpl_crossOf v0 v1).bind fun v4 => (Dimpl_crossOf v1 v2).bind fun v5 => (Dimpl_dot v5 v4).bind fun v6 => (Dimpl_crossOf v2 v0).bind fun v7 => (Dimpl_dot v7 v4).bind fun v8 => (Dimpl_dot v4 v4).bind fun v9 => (Dimpl_weighs n [v6, v8, v9] [a0.D, a1.D, a2.D]).bind fun v10 => some v10)
theorem Timpl_clash3 {Y} (n : Nat) (a0 : Pl) (a1 : Pl) (a2 : Pl) (r : Bool) (h : Dimpl_clash3 n a0 a1 a2 = some r) : Big Try.prog H Y (.call 204 [.agg [i64 a0.A, i64 a0.B, i64 a0.C, i64 a0.D], .agg [i64 a1.A, i64 a1.B, i64 a1.C, i64 a1.D], .agg [i64 a2.A, i64 a2.B, i64 a2.C, i64 a2.D]] (lk []) (bl r) (lk [])) := by
  unfold Dimpl_clash3 at h
  refine x_call (fn := Try.f204) (c := bodyOf Try.f204) (bs0 := []) Try.func204 (by kernel_rfl) (by kernel_rfl) ?_
  obtain ⟨v0, hv0, h⟩ := bind_some h
  obtain ⟨v1, hv1, h⟩ := bind_some h
  obtain ⟨v2, hv2, h⟩ := bind_some h
  obtain ⟨v3, hv3, h⟩ := bind_some h
  refine x_frk 31 [(5, .call [] [] (.agg [i64 v0.1, i64 v0.2.1, i64 v0.2.2]) []), (1, .call [] [] (.agg [i64 v1.1, i64 v1.2.1, i64 v1.2.2]) []), (1, .call [] [] (.agg [i64 v2.1, i64 v2.2.1, i64 v2.2.2]) []), (9, .call [] [] (i64 v3) [])] (ocons (Timpl_normal (Y := Y) a0 _ hv0) (ocons (Timpl_normal (Y := Y) a1 _ hv1) (ocons (Timpl_normal (Y := Y) a2 _ hv2) (ocons (Timpl_det (Y := Y) v0 v1 v2 _ hv3) onil)))) h (by kernel_rfl) (fun h => ?_) (fun h => ?_)
  · replace h := Option.some.inj h; subst h
    exact x_end 4 [] [] onil onil (by kernel_rfl)
  · obtain ⟨v4, hv4, h⟩ := bind_some h
    obtain ⟨v5, hv5, h⟩ := bind_some h
    obtain ⟨v6, hv6, h⟩ := bind_some h
    obtain ⟨v7, hv7, h⟩ := bind_some h
    obtain ⟨v8, hv8, h⟩ := bind_some h
    obtain ⟨v9, hv9, h⟩ := bind_some h
    obtain ⟨v10, hv10, h⟩ := bind_some h
    replace h := Option.some.inj h; subst h
    exact x_end 35 [(2, .call [] [] (.agg [i64 v4.1, i64 v4.2.1, i64 v4.2.2]) []), (4, .call [] [] (.agg [i64 v5.1, i64 v5.2.1, i64 v5.2.2]) []), (1, .call [] [] (i64 v6) []), (2, .call [] [] (.agg [i64 v7.1, i64 v7.2.1, i64 v7.2.2]) []), (1, .call [] [] (i64 v8) []), (2, .call [] [] (i64 v9) []), (8, .call [] [(eInt).f [a0.D, a1.D, a2.D], (eInt).f [v6, v8, v9]] (bl v10) [])] [] (ocons (Timpl_crossOf (Y := Y) v0 v1 _ hv4) (ocons (Timpl_crossOf (Y := Y) v1 v2 _ hv5) (ocons (Timpl_dot (Y := Y) v5 v4 _ hv6) (ocons (Timpl_crossOf (Y := Y) v2 v0 _ hv7) (ocons (Timpl_dot (Y := Y) v7 v4 _ hv8) (ocons (Timpl_dot (Y := Y) v4 v4 _ hv9) (ocons (Timpl_weighs (Y := Y) n [v6, v8, v9] [a0.D, a1.D, a2.D] _ hv10) (ocons (len_row (L := [v6, v8, v9]) eInt) (ocons (Enc.share eInt eInt sInt [v6, v8, v9]) (ocons (len_row (L := [a0.D, a1.D, a2.D]) eInt) (ocons (Enc.share eInt eInt sInt [a0.D, a1.D, a2.D]) onil))))))))))) onil (by kernel_rfl)
/-! impl.det3 -/
def Dimpl_det3 (a0 : Pl) (a1 : Pl) (a2 : Pl) : Option Int :=
  (Dimpl_normal a0).bind fun v0 => (Dimpl_normal a1).bind fun v1 => (Dimpl_normal a2).bind fun v2 => (Dimpl_det v0 v1 v2).bind fun v3 => some v3
theorem Timpl_det3 {Y} (a0 : Pl) (a1 : Pl) (a2 : Pl) (r : Int) (h : Dimpl_det3 a0 a1 a2 = some r) : Big Try.prog H Y (.call 228 [.agg [i64 a0.A, i64 a0.B, i64 a0.C, i64 a0.D], .agg [i64 a1.A, i64 a1.B, i64 a1.C, i64 a1.D], .agg [i64 a2.A, i64 a2.B, i64 a2.C, i64 a2.D]] (lk []) (i64 r) (lk [])) := by
  unfold Dimpl_det3 at h
  refine x_call (fn := Try.f228) (c := bodyOf Try.f228) (bs0 := []) Try.func228 (by kernel_rfl) (by kernel_rfl) ?_
  obtain ⟨v0, hv0, h⟩ := bind_some h
  obtain ⟨v1, hv1, h⟩ := bind_some h
  obtain ⟨v2, hv2, h⟩ := bind_some h
  obtain ⟨v3, hv3, h⟩ := bind_some h
  replace h := Option.some.inj h; subst h
  exact x_end 18 [(5, .call [] [] (.agg [i64 v0.1, i64 v0.2.1, i64 v0.2.2]) []), (1, .call [] [] (.agg [i64 v1.1, i64 v1.2.1, i64 v1.2.2]) []), (1, .call [] [] (.agg [i64 v2.1, i64 v2.2.1, i64 v2.2.2]) []), (0, .call [] [] (i64 v3) [])] [] (ocons (Timpl_normal (Y := Y) a0 _ hv0) (ocons (Timpl_normal (Y := Y) a1 _ hv1) (ocons (Timpl_normal (Y := Y) a2 _ hv2) (ocons (Timpl_det (Y := Y) v0 v1 v2 _ hv3) onil)))) onil (by kernel_rfl)
/-! impl.clash4 -/
def Dimpl_clash4 (n : Nat) (a0 : Pl) (a1 : Pl) (a2 : Pl) (a3 : Pl) : Option Bool :=
  (Dimpl_det3 a1 a2 a3).bind fun v0 => (Dimpl_det3 a0 a2 a3).bind fun v1 => (Dimpl_det3 a0 a1 a3).bind fun v2 => (Dimpl_det3 a0 a1 a2).bind fun v3 => (Dimpl_weighs n [v0, w64 (0 - v1), v2, w64 (0 - v3)] [a0.D, a1.D, a2.D, a3.D]).bind fun v4 => some v4
theorem Timpl_clash4 {Y} (n : Nat) (a0 : Pl) (a1 : Pl) (a2 : Pl) (a3 : Pl) (r : Bool) (h : Dimpl_clash4 n a0 a1 a2 a3 = some r) : Big Try.prog H Y (.call 205 [.agg [i64 a0.A, i64 a0.B, i64 a0.C, i64 a0.D], .agg [i64 a1.A, i64 a1.B, i64 a1.C, i64 a1.D], .agg [i64 a2.A, i64 a2.B, i64 a2.C, i64 a2.D], .agg [i64 a3.A, i64 a3.B, i64 a3.C, i64 a3.D]] (lk []) (bl r) (lk [])) := by
  unfold Dimpl_clash4 at h
  refine x_call (fn := Try.f205) (c := bodyOf Try.f205) (bs0 := []) Try.func205 (by kernel_rfl) (by kernel_rfl) ?_
  obtain ⟨v0, hv0, h⟩ := bind_some h
  obtain ⟨v1, hv1, h⟩ := bind_some h
  obtain ⟨v2, hv2, h⟩ := bind_some h
  obtain ⟨v3, hv3, h⟩ := bind_some h
  obtain ⟨v4, hv4, h⟩ := bind_some h
  replace h := Option.some.inj h; subst h
  exact x_end 46 [(8, .call [] [] (i64 v0) []), (3, .call [] [] (i64 v1) []), (4, .call [] [] (i64 v2) []), (3, .call [] [] (i64 v3) []), (13, .call [] [(eInt).f [a0.D, a1.D, a2.D, a3.D], (eInt).f [v0, w64 (0 - v1), v2, w64 (0 - v3)]] (bl v4) [])] [] (ocons (Timpl_det3 (Y := Y) a1 a2 a3 _ hv0) (ocons (Timpl_det3 (Y := Y) a0 a2 a3 _ hv1) (ocons (Timpl_det3 (Y := Y) a0 a1 a3 _ hv2) (ocons (Timpl_det3 (Y := Y) a0 a1 a2 _ hv3) (ocons (Timpl_weighs (Y := Y) n [v0, w64 (0 - v1), v2, w64 (0 - v3)] [a0.D, a1.D, a2.D, a3.D] _ hv4) (ocons (len_row (L := [v0, w64 (0 - v1), v2, w64 (0 - v3)]) eInt) (ocons (Enc.share eInt eInt sInt [v0, w64 (0 - v1), v2, w64 (0 - v3)]) (ocons (len_row (L := [a0.D, a1.D, a2.D, a3.D]) eInt) (ocons (Enc.share eInt eInt sInt [a0.D, a1.D, a2.D, a3.D]) onil))))))))) onil (by kernel_rfl)
/-! impl.room -/
def Dimpl_room_0 (n : Nat) (rec1 : Int → Option Bool) (_rec0 : Int → Option Bool) (_t13 : Int) (_t23 : List Pl) (_t24 b6_0 b6_1 b6_2 b6_3 : Int) (_t0 : List Pl) (_t11 : List Pl) (_t12 b3_0 b3_1 b3_2 b3_3 t25 : Int) (t36 : List Pl) (t37 b8_0 b8_1 b8_2 b8_3 : Int) (rec2 : Int → Option Bool) (a : Int) : Option Bool :=
  match a with
  | t38 => frk (decide (t38 < t37)) ((lget t36 t38).bind fun v6 => (Dimpl_clash4 n v6 (Pl.mk b8_0 b8_1 b8_2 b8_3) (Pl.mk b6_0 b6_1 b6_2 b6_3) (Pl.mk b3_0 b3_1 b3_2 b3_3)).bind fun v7 => frk v7 (some false) (rec2 (w64 (t38 + 1)))) (rec1 (w64 (t25 + 1)))
theorem Timpl_room_0 {Y} (n : Nat) (rec1 : Int → Option Bool) (rec0 : Int → Option Bool) (t13 : Int) (t23 : List Pl) (t24 b6_0 b6_1 b6_2 b6_3 : Int) (t0 : List Pl) (t11 : List Pl) (t12 b3_0 b3_1 b3_2 b3_3 : Int) (hrec1 : ∀ (a : Int) (r : Bool), rec1 a = some r → Wk Try.prog H Y 180 [.code (cp [1, 0, 1, 0, 0, 1, 1, 0, 0, 1, 1, 1, 0] (bodyOf Try.f180)), .blk 2, .blk 1, .code (cp [1, 0, 1, 0, 0, 1, 1, 1] (bodyOf Try.f180)), .lp (cp [1, 0, 1, 0] (bodyOf Try.f180)), .blk 0, .code (cp [1, 1] (bodyOf Try.f180))] (FinX Try.prog Try.f180 [] (bl r) []) ⟨[(0, .sl false 4 t0.length ((ePl).f t0)), (3, .ptr 3 0), (6, .ptr 6 0), (11, .sl false 4 t11.length ((ePl).f t11)), (12, i64 t12), (13, i64 t13), (23, .sl false 4 t23.length ((ePl).f t23)), (24, i64 t24), (25, i64 a)], [(3, ⟨true, 0, [i64 b3_0, i64 b3_1, i64 b3_2, i64 b3_3]⟩), (6, ⟨true, 0, [i64 b6_0, i64 b6_1, i64 b6_2, i64 b6_3]⟩)]⟩) (_hrec0 : ∀ (a : Int) (r : Bool), rec0 a = some r → Wk Try.prog H Y 180 [.code (cp [1, 0, 1, 0] (bodyOf Try.f180)), .blk 0, .code (cp [1, 1] (bodyOf Try.f180))] (FinX Try.prog Try.f180 [] (bl r) []) ⟨[(0, .sl false 4 t0.length ((ePl).f t0)), (3, .ptr 3 0), (11, .sl false 4 t11.length ((ePl).f t11)), (12, i64 t12), (13, i64 a)], [(3, ⟨true, 0, [i64 b3_0, i64 b3_1, i64 b3_2, i64 b3_3]⟩)]⟩) (t25 : Int) (t36 : List Pl) (t37 b8_0 b8_1 b8_2 b8_3 : Int) : ∀ (m : Nat) (a : Int) (r : Bool), loopN (Dimpl_room_0 n rec1 rec0 t13 t23 t24 b6_0 b6_1 b6_2 b6_3 t0 t11 t12 b3_0 b3_1 b3_2 b3_3 t25 t36 t37 b8_0 b8_1 b8_2 b8_3) m a = some r → Wk Try.prog H Y 180 [.code (cp [1, 0, 1, 0, 0, 1, 1, 0, 0, 1, 1, 1, 0, 0, 1, 1, 0, 0, 1, 1, 1, 0] (bodyOf Try.f180)), .blk 4, .blk 3, .code (cp [1, 0, 1, 0, 0, 1, 1, 0, 0, 1, 1, 1, 0, 0, 1, 1, 1] (bodyOf Try.f180)), .lp (cp [1, 0, 1, 0, 0, 1, 1, 0, 0, 1, 1, 1, 0] (bodyOf Try.f180)), .blk 2, .blk 1, .code (cp [1, 0, 1, 0, 0, 1, 1, 1] (bodyOf Try.f180)), .lp (cp [1, 0, 1, 0] (bodyOf Try.f180)), .blk 0, .code (cp [1, 1] (bodyOf Try.f180))] (FinX Try.prog Try.f180 [] (bl r) []) ⟨[(0, .sl false 4 t0.length ((ePl).f t0)), (3, .ptr 3 0), (6, .ptr 6 0), (8, .ptr 8 0), (11, .sl false 4 t11.length ((ePl).f t11)), (12, i64 t12), (13, i64 t13), (23, .sl false 4 t23.length ((ePl).f t23)), (24, i64 t24), (25, i64 t25), (36, .sl false 4 t36.length ((ePl).f t36)), (37, i64 t37), (38, i64 a)], [(3, ⟨true, 0, [i64 b3_0, i64 b3_1, i64 b3_2, i64 b3_3]⟩), (6, ⟨true, 0, [i64 b6_0, i64 b6_1, i64 b6_2, i64 b6_3]⟩), (8, ⟨true, 0, [i64 b8_0, i64 b8_1, i64 b8_2, i64 b8_3]⟩)]⟩ := by
  refine loopN_ind (fun _rec2 hrec2 a r h => ?_)
  obtain ⟨t38, rfl⟩ : ∃ x, x = a := ⟨a, rfl⟩
  unfold Dimpl_room_0 at h
  refine x_frk 6 [] onil h (by kernel_rfl) (fun h => ?_) (fun h => ?_)
  · obtain ⟨v6, hv6, h⟩ := bind_some h
    obtain ⟨v7, hv7, h⟩ := bind_some h
    refine x_frk 18 [(0, .val (.cptr (ePl.c v6 ++ (ePl).f ((t36).drop (Int.toNat t38 + 1))))), (7, .call [] [] (bl v7) [])] (ocons (ix ePl hv6) (ocons (Timpl_clash4 (Y := Y) n v6 (Pl.mk b8_0 b8_1 b8_2 b8_3) (Pl.mk b6_0 b6_1 b6_2 b6_3) (Pl.mk b3_0 b3_1 b3_2 b3_3) _ hv7) onil)) h (by kernel_rfl) (fun h => ?_) (fun h => ?_)
    · replace h := Option.some.inj h; subst h
      exact x_end 4 [] [] onil onil (by kernel_rfl)
    · exact x_to 7 [] onil (hrec2 (w64 (t38 + 1)) r h) (by kernel_rfl)
  · exact x_to 7 [] onil (hrec1 (w64 (t25 + 1)) r h) (by kernel_rfl)
def Dimpl_room_1 (n : Nat) (rec0 : Int → Option Bool) (t0 : List Pl) (t11 : List Pl) (t12 b3_0 b3_1 b3_2 b3_3 t13 : Int) (t23 : List Pl) (t24 b6_0 b6_1 b6_2 b6_3 : Int) (rec1 : Int → Option Bool) (a : Int) : Option Bool :=
  match a with
  | t25 => frk (decide (t25 < t24)) ((lget t23 t25).bind fun v3 => (Dimpl_clash3 n v3 (Pl.mk b6_0 b6_1 b6_2 b6_3) (Pl.mk b3_0 b3_1 b3_2 b3_3)).bind fun v4 => frk v4 (some false) ((lsl t0 0 t25).bind fun v5 => loopN (Dimpl_room_0 n rec1 rec0 t13 t23 t24 b6_0 b6_1 b6_2 b6_3 t0 t11 t12 b3_0 b3_1 b3_2 b3_3 t25 v5 (v5.length : Int) v3.A v3.B v3.C v3.D) n 0)) (rec0 (w64 (t13 + 1)))
theorem Timpl_room_1 {Y} (n : Nat) (rec0 : Int → Option Bool) (t0 : List Pl) (t11 : List Pl) (t12 b3_0 b3_1 b3_2 b3_3 : Int) (hrec0 : ∀ (a : Int) (r : Bool), rec0 a = some r → Wk Try.prog H Y 180 [.code (cp [1, 0, 1, 0] (bodyOf Try.f180)), .blk 0, .code (cp [1, 1] (bodyOf Try.f180))] (FinX Try.prog Try.f180 [] (bl r) []) ⟨[(0, .sl false 4 t0.length ((ePl).f t0)), (3, .ptr 3 0), (11, .sl false 4 t11.length ((ePl).f t11)), (12, i64 t12), (13, i64 a)], [(3, ⟨true, 0, [i64 b3_0, i64 b3_1, i64 b3_2, i64 b3_3]⟩)]⟩) (t13 : Int) (t23 : List Pl) (t24 b6_0 b6_1 b6_2 b6_3 : Int) : ∀ (m : Nat) (a : Int) (r : Bool), loopN (Dimpl_room_1 n rec0 t0 t11 t12 b3_0 b3_1 b3_2 b3_3 t13 t23 t24 b6_0 b6_1 b6_2 b6_3) m a = some r → Wk Try.prog H Y 180 [.code (cp [1, 0, 1, 0, 0, 1, 1, 0, 0, 1, 1, 1, 0] (bodyOf Try.f180)), .blk 2, .blk 1, .code (cp [1, 0, 1, 0, 0, 1, 1, 1] (bodyOf Try.f180)), .lp (cp [1, 0, 1, 0] (bodyOf Try.f180)), .blk 0, .code (cp [1, 1] (bodyOf Try.f180))] (FinX Try.prog Try.f180 [] (bl r) []) ⟨[(0, .sl false 4 t0.length ((ePl).f t0)), (3, .ptr 3 0), (6, .ptr 6 0), (11, .sl false 4 t11.length ((ePl).f t11)), (12, i64 t12), (13, i64 t13), (23, .sl false 4 t23.length ((ePl).f t23)), (24, i64 t24), (25, i64 a)], [(3, ⟨true, 0, [i64 b3_0, i64 b3_1, i64 b3_2, i64 b3_3]⟩), (6, ⟨true, 0, [i64 b6_0, i64 b6_1, i64 b6_2, i64 b6_3]⟩)]⟩ := by
  refine loopN_ind (fun rec1 hrec1 a r h => ?_)
  obtain ⟨t25, rfl⟩ : ∃ x, x = a := ⟨a, rfl⟩
  unfold Dimpl_room_1 at h
  refine x_frk 6 [] onil h (by kernel_rfl) (fun h => ?_) (fun h => ?_)
  · obtain ⟨v3, hv3, h⟩ := bind_some h
    obtain ⟨v4, hv4, h⟩ := bind_some h
    refine x_frk 20 [(1, .val (.cptr (ePl.c v3 ++ (ePl).f ((t23).drop (Int.toNat t25 + 1))))), (7, .call [] [] (bl v4) [])] (ocons (ix ePl hv3) (ocons (Timpl_clash3 (Y := Y) n v3 (Pl.mk b6_0 b6_1 b6_2 b6_3) (Pl.mk b3_0 b3_1 b3_2 b3_3) _ hv4) onil)) h (by kernel_rfl) (fun h => ?_) (fun h => ?_)
    · replace h := Option.some.inj h; subst h
      exact x_end 4 [] [] onil onil (by kernel_rfl)
    · obtain ⟨v5, hv5, h⟩ := bind_some h
      exact x_to 10 [(2, .val (.sl false 4 v5.length ((ePl).f v5)))] (ocons (slF ePl hv5) onil) (Timpl_room_0 n rec1 rec0 t13 t23 t24 b6_0 b6_1 b6_2 b6_3 t0 t11 t12 b3_0 b3_1 b3_2 b3_3 hrec1 hrec0 t25 v5 (v5.length : Int) v3.A v3.B v3.C v3.D n 0 r h) (by kernel_rfl)
  · exact x_to 7 [] onil (hrec0 (w64 (t13 + 1)) r h) (by kernel_rfl)
def Dimpl_room_2 (n : Nat) (t0 : List Pl) (t11 : List Pl) (t12 b3_0 b3_1 b3_2 b3_3 : Int) (rec0 : Int → Option Bool) (a : Int) : Option Bool :=
  match a with
  | t13 => frk (decide (t13 < t12)) ((lget t11 t13).bind fun v0 => (Dimpl_clash2 n v0 (Pl.mk b3_0 b3_1 b3_2 b3_3)).bind fun v1 => frk v1 (some false) ((lsl t0 0 t13).bind fun v2 => loopN (Dimpl_room_1 n rec0 t0 t11 t12 b3_0 b3_1 b3_2 b3_3 t13 v2 (v2.length : Int) v0.A v0.B v0.C v0.D) n 0)) (some true)
theorem Timpl_room_2 {Y} (n : Nat) (t0 : List Pl) (t11 : List Pl) (t12 b3_0 b3_1 b3_2 b3_3 : Int) : ∀ (m : Nat) (a : Int) (r : Bool), loopN (Dimpl_room_2 n t0 t11 t12 b3_0 b3_1 b3_2 b3_3) m a = some r → Wk Try.prog H Y 180 [.code (cp [1, 0, 1, 0] (bodyOf Try.f180)), .blk 0, .code (cp [1, 1] (bodyOf Try.f180))] (FinX Try.prog Try.f180 [] (bl r) []) ⟨[(0, .sl false 4 t0.length ((ePl).f t0)), (3, .ptr 3 0), (11, .sl false 4 t11.length ((ePl).f t11)), (12, i64 t12), (13, i64 a)], [(3, ⟨true, 0, [i64 b3_0, i64 b3_1, i64 b3_2, i64 b3_3]⟩)]⟩ := by
  refine loopN_ind (fun rec0 hrec0 a r h => ?_)
  obtain ⟨t13, rfl⟩ : ∃ x, x = a := ⟨a, rfl⟩
  unfold Dimpl_room_2 at h
  refine x_frk 6 [] onil h (by kernel_rfl) (fun h => ?_) (fun h => ?_)
  · obtain ⟨v0, hv0, h⟩ := bind_some h
    obtain ⟨v1, hv1, h⟩ := bind_some h
    refine x_frk 19 [(1, .val (.cptr (ePl.c v0 ++ (ePl).f ((t11).drop (Int.toNat t13 + 1))))), (6, .call [] [] (bl v1) [])] (ocons (ix ePl hv0) (ocons (Timpl_clash2 (Y := Y) n v0 (Pl.mk b3_0 b3_1 b3_2 b3_3) _ hv1) onil)) h (by kernel_rfl) (fun h => ?_) (fun h => ?_)
    · replace h := Option.some.inj h; subst h
      exact x_end 4 [] [] onil onil (by kernel_rfl)
    · obtain ⟨v2, hv2, h⟩ := bind_some h
      exact x_to 10 [(2, .val (.sl false 4 v2.length ((ePl).f v2)))] (ocons (slF ePl hv2) onil) (Timpl_room_1 n rec0 t0 t11 t12 b3_0 b3_1 b3_2 b3_3 hrec0 t13 v2 (v2.length : Int) v0.A v0.B v0.C v0.D n 0 r h) (by kernel_rfl)
  · replace h := Option.some.inj h; subst h
    exact x_end 5 [] [] onil onil (by kernel_rfl)
def Dimpl_room (n : Nat) (a0 : (List Pl)) (a1 : Pl) : Option Bool :=
  loopN (Dimpl_room_2 n a0 a0 (a0.length : Int) a1.A a1.B a1.C a1.D) n 0
theorem Timpl_room {Y} (n : Nat) (a0 : (List Pl)) (a1 : Pl) (r : Bool) (h : Dimpl_room n a0 a1 = some r) : Big Try.prog H Y (.call 180 [.sl false 4 a0.length ((ePl).f a0), .agg [i64 a1.A, i64 a1.B, i64 a1.C, i64 a1.D]] (lk []) (bl r) (lk [])) := by
  unfold Dimpl_room at h
  refine x_call (fn := Try.f180) (c := bodyOf Try.f180) (bs0 := []) Try.func180 (by kernel_rfl) (by kernel_rfl) ?_
  exact x_to 13 [] onil (Timpl_room_2 n a0 a0 (a0.length : Int) a1.A a1.B a1.C a1.D n 0 r h) (by kernel_rfl)
/-! impl.with -/
def Dimpl_with (a0 : (List Pl)) (a1 : Pl) : Option (List Pl) :=
  chk (apB 32 (0 + a0.length)) (chk (apB 32 (([] ++ a0).length + 1)) (some (([] ++ a0) ++ [a1])))
theorem Timpl_with {Y} (a0 : (List Pl)) (a1 : Pl) (r : (List Pl)) (h : Dimpl_with a0 a1 = some r) : Big Try.prog H Y (.call 162 [.sl false 4 a0.length ((ePl).f a0), .agg [i64 a1.A, i64 a1.B, i64 a1.C, i64 a1.D]] (lk []) (.sl true 4 r.length ((ePl).f r)) (lk [])) := by
  unfold Dimpl_with at h
  refine x_call (fn := Try.f162) (c := bodyOf Try.f162) (bs0 := []) Try.func162 (by kernel_rfl) (by kernel_rfl) ?_
  obtain ⟨c0, h⟩ := chk_some h
  obtain ⟨c1, h⟩ := chk_some h
  replace h := Option.some.inj h; subst h
  exact x_end 15 [(4, .app false (List.length ([] ++ a0)) ((ePl).f ([] ++ a0))), (2, .app false (List.length (([] ++ a0) ++ [a1])) ((ePl).f (([] ++ a0) ++ [a1])))] [] (ocons (len_row' (L := []) ePl) (ocons (app_one (L := []) (M := a0) ePl c0) (ocons (app_new (L := []) (M := a0) ePl) (ocons (app_m (L := []) (M := a0) ePl rfl) (ocons (len_row' (L := a0) ePl) (ocons (len_row' (L := ([] ++ a0)) ePl) (ocons (app_one (L := ([] ++ a0)) (M := [a1]) ePl c1) (ocons (app_new (L := ([] ++ a0)) (M := [a1]) ePl) (ocons (app_m (L := ([] ++ a0)) (M := [a1]) ePl rfl) (ocons (len_row' (L := [a1]) ePl) (ocons (Enc.noOwn ePl (fun _ => rfl) [a1]) onil))))))))))) (ocons (len_row (L := (([] ++ a0) ++ [a1])) ePl) onil) (by kernel_rfl)
/-! impl.checker).right -/
def Dimpl_checker_right_1 (_n : Nat) (self : (Int × Sol × (List Pl)) → Option (Bool × Int)) (t2 : List Pl) (t59 _b4_0 : Bool) (b4_1 b4_2 b4_3 b4_4 : Int) (b4_5 : List Sol) (b7_0 b7_1 b7_2 b7_3 b1000_0 : Int) : Option (Bool × Int) :=
  frk t59 (some (false, b1000_0)) ((lget b4_5 0).bind fun v5 => (Dimpl_with t2 (Pl.mk b4_1 b4_2 b4_3 b4_4)).bind fun v6 => (self (b1000_0, v5, v6)).bind fun v7 => frk v7.1 ((lget b4_5 1).bind fun v8 => (Dimpl_with t2 (Pl.mk b7_0 b7_1 b7_2 b7_3)).bind fun v9 => (self (v7.2, v8, v9)).bind fun v10 => some v10) (some (false, v7.2)))
theorem Timpl_checker_right_1 {Y} (n : Nat) (self : (Int × Sol × (List Pl)) → Option (Bool × Int)) (hself : ∀ (a : (Int × Sol × (List Pl))) (r : (Bool × Int)), self a = some r → Big Try.prog H Y (.call 132 [.ptr 1000 0, .agg [bl a.2.1.inn, i64 a.2.1.pl.A, i64 a.2.1.pl.B, i64 a.2.1.pl.C, i64 a.2.1.pl.D, .sl false 6 a.2.1.kids.length ((eSol false).f a.2.1.kids)], .sl false 4 a.2.2.length ((ePl).f a.2.2)] (lk [(1000, ⟨true, 0, [i64 a.1]⟩)]) (bl r.1) (lk [(1000, ⟨true, 0, [i64 r.2]⟩)]))) (t2 : List Pl) (t59 b4_0 : Bool) (b4_1 b4_2 b4_3 b4_4 : Int) (b4_5 : List Sol) (b7_0 b7_1 b7_2 b7_3 b1000_0 : Int) (r : (Bool × Int)) (h : Dimpl_checker_right_1 n self t2 t59 b4_0 b4_1 b4_2 b4_3 b4_4 b4_5 b7_0 b7_1 b7_2 b7_3 b1000_0 = some r) : Wk Try.prog H Y 132 [.code (cp [1, 1, 1, 1, 1, 0, 1] (bodyOf Try.f132)), .code (cp [1, 1, 1, 1, 1, 1] (bodyOf Try.f132))] (FinX Try.prog Try.f132 [(1000, ⟨true, 0, [.bad]⟩)] (bl r.1) [(1000, ⟨true, 0, [i64 r.2]⟩)]) ⟨[(0, .ptr 1000 0), (2, .sl false 4 t2.length ((ePl).f t2)), (4, .ptr 4 0), (7, .ptr 7 0), (59, bl t59)], [(4, ⟨true, 0, [bl b4_0, i64 b4_1, i64 b4_2, i64 b4_3, i64 b4_4, .sl false 6 b4_5.length ((eSol false).f b4_5)]⟩), (7, ⟨true, 0, [i64 b7_0, i64 b7_1, i64 b7_2, i64 b7_3]⟩), (1000, ⟨true, 0, [i64 b1000_0]⟩)]⟩ := by
  unfold Dimpl_checker_right_1 at h
  refine x_frk 0 [] onil h (by kernel_rfl) (fun h => ?_) (fun h => ?_)
  · replace h := Option.some.inj h; subst h
    exact x_end 4 [] [] onil onil (by kernel_rfl)
  · obtain ⟨v5, hv5, h⟩ := bind_some h
    obtain ⟨v6, hv6, h⟩ := bind_some h
    obtain ⟨v7, hv7, h⟩ := bind_some h
    refine x_frk 14 [(3, .val (.cptr ((eSol false).c v5 ++ (eSol false).f ((b4_5).drop (Int.toNat 0 + 1))))), (4, .call [] [] (.sl false 4 v6.length ((ePl).f v6)) []), (0, .call [] [] (bl v7.1) [(1000, ⟨true, 0, [i64 v7.2]⟩)])] (ocons (ix (eSol false) hv5) (ocons (shSl (L := v6) ePl ePl sPl (Timpl_with (Y := Y) t2 (Pl.mk b4_1 b4_2 b4_3 b4_4) _ hv6)) (ocons (hself (b1000_0, v5, v6) _ hv7) onil))) h (by kernel_rfl) (fun h => ?_) (fun h => ?_)
    · obtain ⟨v8, hv8, h⟩ := bind_some h
      obtain ⟨v9, hv9, h⟩ := bind_some h
      obtain ⟨v10, hv10, h⟩ := bind_some h
      replace h := Option.some.inj h; subst h
      exact x_end 12 [(3, .val (.cptr ((eSol false).c v8 ++ (eSol false).f ((b4_5).drop (Int.toNat 1 + 1))))), (3, .call [] [] (.sl false 4 v9.length ((ePl).f v9)) []), (0, .call [] [] (bl v10.1) [(1000, ⟨true, 0, [i64 v10.2]⟩)])] [] (ocons (ix (eSol false) hv8) (ocons (shSl (L := v9) ePl ePl sPl (Timpl_with (Y := Y) t2 (Pl.mk b7_0 b7_1 b7_2 b7_3) _ hv9)) (ocons (hself (v7.2, v8, v9) _ hv10) onil))) onil (by kernel_rfl)
    · replace h := Option.some.inj h; subst h
      exact x_end 12 [] [] onil onil (by kernel_rfl)
def Dimpl_checker_right_0 (n : Nat) (self : (Int × Sol × (List Pl)) → Option (Bool × Int)) (t2 : List Pl) (t45 b4_0 : Bool) (b4_1 b4_2 b4_3 b4_4 : Int) (b4_5 : List Sol) (b1000_0 : Int) : Option (Bool × Int) :=
  frk t45 (some (false, b1000_0)) ((Dimpl_flip (Pl.mk b4_1 b4_2 b4_3 b4_4)).bind fun v2 => (Dimpl_room n t2 (Pl.mk b4_1 b4_2 b4_3 b4_4)).bind fun v3 => frk (!v3) (some (false, b1000_0)) ((Dimpl_room n t2 v2).bind fun v4 => Dimpl_checker_right_1 n self t2 (!v4) b4_0 b4_1 b4_2 b4_3 b4_4 b4_5 v2.A v2.B v2.C v2.D b1000_0))
theorem Timpl_checker_right_0 {Y} (n : Nat) (self : (Int × Sol × (List Pl)) → Option (Bool × Int)) (hself : ∀ (a : (Int × Sol × (List Pl))) (r : (Bool × Int)), self a = some r → Big Try.prog H Y (.call 132 [.ptr 1000 0, .agg [bl a.2.1.inn, i64 a.2.1.pl.A, i64 a.2.1.pl.B, i64 a.2.1.pl.C, i64 a.2.1.pl.D, .sl false 6 a.2.1.kids.length ((eSol false).f a.2.1.kids)], .sl false 4 a.2.2.length ((ePl).f a.2.2)] (lk [(1000, ⟨true, 0, [i64 a.1]⟩)]) (bl r.1) (lk [(1000, ⟨true, 0, [i64 r.2]⟩)]))) (t2 : List Pl) (t45 b4_0 : Bool) (b4_1 b4_2 b4_3 b4_4 : Int) (b4_5 : List Sol) (b1000_0 : Int) (r : (Bool × Int)) (h : Dimpl_checker_right_0 n self t2 t45 b4_0 b4_1 b4_2 b4_3 b4_4 b4_5 b1000_0 = some r) : Wk Try.prog H Y 132 [.code (cp [1, 1, 1, 0, 1] (bodyOf Try.f132)), .code (cp [1, 1, 1, 1] (bodyOf Try.f132))] (FinX Try.prog Try.f132 [(1000, ⟨true, 0, [.bad]⟩)] (bl r.1) [(1000, ⟨true, 0, [i64 r.2]⟩)]) ⟨[(0, .ptr 1000 0), (2, .sl false 4 t2.length ((ePl).f t2)), (4, .ptr 4 0), (45, bl t45)], [(4, ⟨true, 0, [bl b4_0, i64 b4_1, i64 b4_2, i64 b4_3, i64 b4_4, .sl false 6 b4_5.length ((eSol false).f b4_5)]⟩), (1000, ⟨true, 0, [i64 b1000_0]⟩)]⟩ := by
  unfold Dimpl_checker_right_0 at h
  refine x_frk 0 [] onil h (by kernel_rfl) (fun h => ?_) (fun h => ?_)
  · replace h := Option.some.inj h; subst h
    exact x_end 4 [] [] onil onil (by kernel_rfl)
  · obtain ⟨v2, hv2, h⟩ := bind_some h
    obtain ⟨v3, hv3, h⟩ := bind_some h
    refine x_frk 18 [(2, .call [] [] (.agg [i64 v2.A, i64 v2.B, i64 v2.C, i64 v2.D]) []), (5, .call [] [] (bl v3) [])] (ocons (Timpl_flip (Y := Y) (Pl.mk b4_1 b4_2 b4_3 b4_4) _ hv2) (ocons (Timpl_room (Y := Y) n t2 (Pl.mk b4_1 b4_2 b4_3 b4_4) _ hv3) onil)) h (by kernel_rfl) (fun h => ?_) (fun h => ?_)
    · replace h := Option.some.inj h; subst h
      exact x_end 11 [] [] onil onil (by kernel_rfl)
    · obtain ⟨v4, hv4, h⟩ := bind_some h
      exact x_to 6 [(2, .call [] [] (bl v4) [])] (ocons (Timpl_room (Y := Y) n t2 v2 _ hv4) onil) (Timpl_checker_right_1 n self hself t2 (!v4) b4_0 b4_1 b4_2 b4_3 b4_4 b4_5 v2.A v2.B v2.C v2.D b1000_0 r h) (by kernel_rfl)
def Dimpl_checker_right_b (n : Nat) (self : (Int × Sol × (List Pl)) → Option (Bool × Int)) (a : (Int × Sol × (List Pl))) : Option (Bool × Int) :=
  match a with
  | (a0, a1, a2) => (Dimpl_Solid_isLeaf a1).bind fun v0 => frk v0 (some ((a1.pl.A == 0 && (a1.pl.B == 0 && (a1.pl.C == 0 && (a1.pl.D == 0 && true)))), a0)) (frk a1.inn (some (false, w64 (a0 + 1))) (frk ((a1.kids.length : Int) != 2) (some (false, w64 (a0 + 1))) (frk (decide ((w64 (a0 + 1)) > 300)) (some (false, w64 (a0 + 1))) (frk (decide ((a2.length : Int) ≥ 24)) (some (false, w64 (a0 + 1))) ((Dimpl_PlaneOk n a1.pl).bind fun v1 => Dimpl_checker_right_0 n self a2 (!v1) a1.inn a1.pl.A a1.pl.B a1.pl.C a1.pl.D a1.kids (w64 (a0 + 1)))))))
def Dimpl_checker_right (n : Nat) (a0 : Int) (a1 : Sol) (a2 : (List Pl)) : Option (Bool × Int) := loopN (Dimpl_checker_right_b n) n (a0, a1, a2)
theorem Timpl_checker_right_b {Y} (n : Nat) : ∀ (m : Nat) (a : (Int × Sol × (List Pl))) (r : (Bool × Int)), loopN (Dimpl_checker_right_b n) m a = some r → ∀ (_ : Unit), Big Try.prog H Y (.call 132 [.ptr 1000 0, .agg [bl a.2.1.inn, i64 a.2.1.pl.A, i64 a.2.1.pl.B, i64 a.2.1.pl.C, i64 a.2.1.pl.D, .sl false 6 a.2.1.kids.length ((eSol false).f a.2.1.kids)], .sl false 4 a.2.2.length ((ePl).f a.2.2)] (lk [(1000, ⟨true, 0, [i64 a.1]⟩)]) (bl r.1) (lk [(1000, ⟨true, 0, [i64 r.2]⟩)])) := by
  refine loopN_ind (fun self hs a r h => ?_)
  have hself : ∀ (a : (Int × Sol × (List Pl))) (r : (Bool × Int)), self a = some r → Big Try.prog H Y (.call 132 [.ptr 1000 0, .agg [bl a.2.1.inn, i64 a.2.1.pl.A, i64 a.2.1.pl.B, i64 a.2.1.pl.C, i64 a.2.1.pl.D, .sl false 6 a.2.1.kids.length ((eSol false).f a.2.1.kids)], .sl false 4 a.2.2.length ((ePl).f a.2.2)] (lk [(1000, ⟨true, 0, [i64 a.1]⟩)]) (bl r.1) (lk [(1000, ⟨true, 0, [i64 r.2]⟩)])) := fun a r h => hs a r h ()
  intro _
  obtain ⟨a0, a1, a2⟩ := a
  unfold Dimpl_checker_right_b at h
  refine x_call (fn := Try.f132) (c := bodyOf Try.f132) (bs0 := [(1000, ⟨true, 0, [.bad]⟩)]) Try.func132 (by kernel_rfl) (by kernel_rfl) ?_
  obtain ⟨v0, hv0, h⟩ := bind_some h
  refine x_frk 10 [(2, .call [] [] (bl v0) [])] (ocons (Timpl_Solid_isLeaf (Y := Y) a1 [] _ hv0) onil) h (by kernel_rfl) (fun h => ?_) (fun h => ?_)
  · replace h := Option.some.inj h; subst h
    exact x_end 8 [] [] onil onil (by kernel_rfl)
  · refine x_frk 18 [] onil h (by kernel_rfl) (fun h => ?_) (fun h => ?_)
    · replace h := Option.some.inj h; subst h
      exact x_end 29 [] [] onil onil (by kernel_rfl)
    · refine x_frk 6 [] onil h (by kernel_rfl) (fun h => ?_) (fun h => ?_)
      · replace h := Option.some.inj h; subst h
        exact x_end 23 [] [] onil onil (by kernel_rfl)
      · refine x_frk 7 [] onil h (by kernel_rfl) (fun h => ?_) (fun h => ?_)
        · replace h := Option.some.inj h; subst h
          exact x_end 16 [] [] onil onil (by kernel_rfl)
        · refine x_frk 5 [] onil h (by kernel_rfl) (fun h => ?_) (fun h => ?_)
          · replace h := Option.some.inj h; subst h
            exact x_end 11 [] [] onil onil (by kernel_rfl)
          · obtain ⟨v1, hv1, h⟩ := bind_some h
            exact x_to 6 [(2, .call [] [] (bl v1) [])] (ocons (Timpl_PlaneOk (Y := Y) n a1.pl _ hv1) onil) (Timpl_checker_right_0 n self hself a2 (!v1) a1.inn a1.pl.A a1.pl.B a1.pl.C a1.pl.D a1.kids (w64 (a0 + 1)) r h) (by kernel_rfl)
theorem Timpl_checker_right {Y} (n : Nat) (a0 : Int) (a1 : Sol) (a2 : (List Pl)) (r : (Bool × Int)) (h : Dimpl_checker_right n a0 a1 a2 = some r) : Big Try.prog H Y (.call 132 [.ptr 1000 0, .agg [bl a1.inn, i64 a1.pl.A, i64 a1.pl.B, i64 a1.pl.C, i64 a1.pl.D, .sl false 6 a1.kids.length ((eSol false).f a1.kids)], .sl false 4 a2.length ((ePl).f a2)] (lk [(1000, ⟨true, 0, [i64 a0]⟩)]) (bl r.1) (lk [(1000, ⟨true, 0, [i64 r.2]⟩)])) := Timpl_checker_right_b n n (a0, a1, a2) r h ()
/-! impl.SolidOk -/
def Dimpl_SolidOk (n : Nat) (a0 : Sol) : Option Bool :=
  (Dimpl_checker_right n 0 a0 []).bind fun v0 => some v0.1
theorem Timpl_SolidOk {Y} (n : Nat) (a0 : Sol) (r : Bool) (h : Dimpl_SolidOk n a0 = some r) : Big Try.prog H Y (.call 64 [.agg [bl a0.inn, i64 a0.pl.A, i64 a0.pl.B, i64 a0.pl.C, i64 a0.pl.D, .sl false 6 a0.kids.length ((eSol false).f a0.kids)]] (lk []) (bl r) (lk [])) := by
  unfold Dimpl_SolidOk at h
  refine x_call (fn := Try.f64) (c := bodyOf Try.f64) (bs0 := []) Try.func64 (by kernel_rfl) (by kernel_rfl) ?_
  obtain ⟨v0, hv0, h⟩ := bind_some h
  replace h := Option.some.inj h; subst h
  exact x_end 15 [(4, .call [(false, 4)] [] (bl v0.1) [(1000, ⟨true, 0, [i64 v0.2]⟩)])] [] (ocons (Timpl_checker_right (Y := Y) n 0 a0 [] _ hv0) onil) onil (by kernel_rfl)
/-! laws.szSolidA8 -/
def Dlaws_szSolidA8 (n : Nat) (a0 : (Sol × Sol × Sol × Sol × Sol × Sol × Sol × Sol)) (a1 : Int) : Option Int :=
  (Dlaws_szSolid n a0.1 a1).bind fun v0 => frk (decide (v0 < 0)) (some (-1)) ((Dlaws_szSolid n a0.2.1 v0).bind fun v1 => frk (decide (v1 < 0)) (some (-1)) ((Dlaws_szSolid n a0.2.2.1 v1).bind fun v2 => frk (decide (v2 < 0)) (some (-1)) ((Dlaws_szSolid n a0.2.2.2.1 v2).bind fun v3 => frk (decide (v3 < 0)) (some (-1)) ((Dlaws_szSolid n a0.2.2.2.2.1 v3).bind fun v4 => frk (decide (v4 < 0)) (some (-1)) ((Dlaws_szSolid n a0.2.2.2.2.2.1 v4).bind fun v5 => frk (decide (v5 < 0)) (some (-1)) ((Dlaws_szSolid n a0.2.2.2.2.2.2.1 v5).bind fun v6 => frk (decide (v6 < 0)) (some (-1)) ((Dlaws_szSolid n a0.2.2.2.2.2.2.2 v6).bind fun v7 => frk (decide (v7 < 0)) (some (-1)) (some v7))))))))
theorem Tlaws_szSolidA8 {Y} (n : Nat) (a0 : (Sol × Sol × Sol × Sol × Sol × Sol × Sol × Sol)) (a1 r : Int) (h : Dlaws_szSolidA8 n a0 a1 = some r) : Big Try.prog H Y (.call 100 [.agg (cT62 a0), i64 a1] (lk []) (i64 r) (lk [])) := by
  unfold Dlaws_szSolidA8 at h
  refine x_call (fn := Try.f100) (c := bodyOf Try.f100) (bs0 := []) Try.func100 (by kernel_rfl) (by kernel_rfl) ?_
  obtain ⟨v0, hv0, h⟩ := bind_some h
  refine x_frk 36 [(9, .call [] [] (i64 v0) [])] (ocons (Tlaws_szSolid (Y := Y) n a0.1 a1 _ hv0) onil) h (by kernel_rfl) (fun h => ?_) (fun h => ?_)
  · replace h := Option.some.inj h; subst h
    exact x_end 4 [] [] onil onil (by kernel_rfl)
  · obtain ⟨v1, hv1, h⟩ := bind_some h
    refine x_frk 33 [(9, .call [] [] (i64 v1) [])] (ocons (Tlaws_szSolid (Y := Y) n a0.2.1 v0 _ hv1) onil) h (by kernel_rfl) (fun h => ?_) (fun h => ?_)
    · replace h := Option.some.inj h; subst h
      exact x_end 4 [] [] onil onil (by kernel_rfl)
    · obtain ⟨v2, hv2, h⟩ := bind_some h
      refine x_frk 33 [(9, .call [] [] (i64 v2) [])] (ocons (Tlaws_szSolid (Y := Y) n a0.2.2.1 v1 _ hv2) onil) h (by kernel_rfl) (fun h => ?_) (fun h => ?_)
      · replace h := Option.some.inj h; subst h
        exact x_end 4 [] [] onil onil (by kernel_rfl)
      · obtain ⟨v3, hv3, h⟩ := bind_some h
        refine x_frk 33 [(9, .call [] [] (i64 v3) [])] (ocons (Tlaws_szSolid (Y := Y) n a0.2.2.2.1 v2 _ hv3) onil) h (by kernel_rfl) (fun h => ?_) (fun h => ?_)
        · replace h := Option.some.inj h; subst h
          exact x_end 4 [] [] onil onil (by kernel_rfl)
        · obtain ⟨v4, hv4, h⟩ := bind_some h
          refine x_frk 33 [(9, .call [] [] (i64 v4) [])] (ocons (Tlaws_szSolid (Y := Y) n a0.2.2.2.2.1 v3 _ hv4) onil) h (by kernel_rfl) (fun h => ?_) (fun h => ?_)
          · replace h := Option.some.inj h; subst h
            exact x_end 4 [] [] onil onil (by kernel_rfl)
          · obtain ⟨v5, hv5, h⟩ := bind_some h
            refine x_frk 33 [(9, .call [] [] (i64 v5) [])] (ocons (Tlaws_szSolid (Y := Y) n a0.2.2.2.2.2.1 v4 _ hv5) onil) h (by kernel_rfl) (fun h => ?_) (fun h => ?_)
            · replace h := Option.some.inj h; subst h
              exact x_end 4 [] [] onil onil (by kernel_rfl)
            · obtain ⟨v6, hv6, h⟩ := bind_some h
              refine x_frk 33 [(9, .call [] [] (i64 v6) [])] (ocons (Tlaws_szSolid (Y := Y) n a0.2.2.2.2.2.2.1 v5 _ hv6) onil) h (by kernel_rfl) (fun h => ?_) (fun h => ?_)
              · replace h := Option.some.inj h; subst h
                exact x_end 4 [] [] onil onil (by kernel_rfl)
              · obtain ⟨v7, hv7, h⟩ := bind_some h
                refine x_frk 33 [(9, .call [] [] (i64 v7) [])] (ocons (Tlaws_szSolid (Y := Y) n a0.2.2.2.2.2.2.2 v6 _ hv7) onil) h (by kernel_rfl) (fun h => ?_) (fun h => ?_)
                · replace h := Option.some.inj h; subst h
                  exact x_end 4 [] [] onil onil (by kernel_rfl)
                · replace h := Option.some.inj h; subst h
                  exact x_end 22 [] [] onil onil (by kernel_rfl)
/-! laws.szDesk -/
def Dlaws_szDesk (n : Nat) (a0 : Dsk) (a1 : Int) : Option Int :=
  (Dlaws_szSolidA8 n a0.1 a1).bind fun v0 => frk (decide (v0 < 0)) (some (-1)) (some v0)
theorem Tlaws_szDesk {Y} (n : Nat) (a0 : Dsk) (a1 r : Int) (h : Dlaws_szDesk n a0 a1 = some r) : Big Try.prog H Y (.call 40 [.agg (cT65 a0), i64 a1] (lk []) (i64 r) (lk [])) := by
  unfold Dlaws_szDesk at h
  refine x_call (fn := Try.f40) (c := bodyOf Try.f40) (bs0 := []) Try.func40 (by kernel_rfl) (by kernel_rfl) ?_
  obtain ⟨v0, hv0, h⟩ := bind_some h
  refine x_frk 19 [(5, .call [] [] (i64 v0) [])] (ocons (Tlaws_szSolidA8 (Y := Y) n a0.1 a1 _ hv0) onil) h (by kernel_rfl) (fun h => ?_) (fun h => ?_)
  · replace h := Option.some.inj h; subst h
    exact x_end 4 [] [] onil onil (by kernel_rfl)
  · replace h := Option.some.inj h; subst h
    exact x_end 6 [] [] onil onil (by kernel_rfl)
/-! laws.toSolidA8 -/
def Dlaws_toSolidA8 (n : Nat) (a0 : (Sol × Sol × Sol × Sol × Sol × Sol × Sol × Sol)) : Option (Sol × Sol × Sol × Sol × Sol × Sol × Sol × Sol) :=
  (Dlaws_toSolid n a0.1).bind fun v0 => (Dlaws_toSolid n a0.2.1).bind fun v1 => (Dlaws_toSolid n a0.2.2.1).bind fun v2 => (Dlaws_toSolid n a0.2.2.2.1).bind fun v3 => (Dlaws_toSolid n a0.2.2.2.2.1).bind fun v4 => (Dlaws_toSolid n a0.2.2.2.2.2.1).bind fun v5 => (Dlaws_toSolid n a0.2.2.2.2.2.2.1).bind fun v6 => (Dlaws_toSolid n a0.2.2.2.2.2.2.2).bind fun v7 => some (v0, v1, v2, v3, v4, v5, v6, v7)
theorem Tlaws_toSolidA8 {Y} (n : Nat) (a0 : (Sol × Sol × Sol × Sol × Sol × Sol × Sol × Sol)) (r : (Sol × Sol × Sol × Sol × Sol × Sol × Sol × Sol)) (h : Dlaws_toSolidA8 n a0 = some r) : Big Try.prog H Y (.call 104 [.agg (cT62 a0)] (lk []) (.agg (cT67o r)) (lk [])) := by
  unfold Dlaws_toSolidA8 at h
  refine x_call (fn := Try.f104) (c := bodyOf Try.f104) (bs0 := []) Try.func104 (by kernel_rfl) (by kernel_rfl) ?_
  obtain ⟨v0, hv0, h⟩ := bind_some h
  obtain ⟨v1, hv1, h⟩ := bind_some h
  obtain ⟨v2, hv2, h⟩ := bind_some h
  obtain ⟨v3, hv3, h⟩ := bind_some h
  obtain ⟨v4, hv4, h⟩ := bind_some h
  obtain ⟨v5, hv5, h⟩ := bind_some h
  obtain ⟨v6, hv6, h⟩ := bind_some h
  obtain ⟨v7, hv7, h⟩ := bind_some h
  replace h := Option.some.inj h; subst h
  exact x_end 245 [(10, .call [] [] (.agg [bl v0.inn, i64 v0.pl.A, i64 v0.pl.B, i64 v0.pl.C, i64 v0.pl.D, .sl true 6 v0.kids.length ((eSol true).f v0.kids)]) []), (11, .call [] [] (.agg [bl v1.inn, i64 v1.pl.A, i64 v1.pl.B, i64 v1.pl.C, i64 v1.pl.D, .sl true 6 v1.kids.length ((eSol true).f v1.kids)]) []), (11, .call [] [] (.agg [bl v2.inn, i64 v2.pl.A, i64 v2.pl.B, i64 v2.pl.C, i64 v2.pl.D, .sl true 6 v2.kids.length ((eSol true).f v2.kids)]) []), (11, .call [] [] (.agg [bl v3.inn, i64 v3.pl.A, i64 v3.pl.B, i64 v3.pl.C, i64 v3.pl.D, .sl true 6 v3.kids.length ((eSol true).f v3.kids)]) []), (11, .call [] [] (.agg [bl v4.inn, i64 v4.pl.A, i64 v4.pl.B, i64 v4.pl.C, i64 v4.pl.D, .sl true 6 v4.kids.length ((eSol true).f v4.kids)]) []), (11, .call [] [] (.agg [bl v5.inn, i64 v5.pl.A, i64 v5.pl.B, i64 v5.pl.C, i64 v5.pl.D, .sl true 6 v5.kids.length ((eSol true).f v5.kids)]) []), (11, .call [] [] (.agg [bl v6.inn, i64 v6.pl.A, i64 v6.pl.B, i64 v6.pl.C, i64 v6.pl.D, .sl true 6 v6.kids.length ((eSol true).f v6.kids)]) []), (11, .call [] [] (.agg [bl v7.inn, i64 v7.pl.A, i64 v7.pl.B, i64 v7.pl.C, i64 v7.pl.D, .sl true 6 v7.kids.length ((eSol true).f v7.kids)]) [])] [] (ocons (Tlaws_toSolid (Y := Y) n a0.1 _ hv0) (ocons (Tlaws_toSolid (Y := Y) n a0.2.1 _ hv1) (ocons (Tlaws_toSolid (Y := Y) n a0.2.2.1 _ hv2) (ocons (Tlaws_toSolid (Y := Y) n a0.2.2.2.1 _ hv3) (ocons (Tlaws_toSolid (Y := Y) n a0.2.2.2.2.1 _ hv4) (ocons (Tlaws_toSolid (Y := Y) n a0.2.2.2.2.2.1 _ hv5) (ocons (Tlaws_toSolid (Y := Y) n a0.2.2.2.2.2.2.1 _ hv6) (ocons (Tlaws_toSolid (Y := Y) n a0.2.2.2.2.2.2.2 _ hv7) onil)))))))) onil (by kernel_rfl)
/-! laws.toBoolA8 -/
def Dlaws_toBoolA8 (_n : Nat) (a0 : (Bool × Bool × Bool × Bool × Bool × Bool × Bool × Bool)) : Option (Bool × Bool × Bool × Bool × Bool × Bool × Bool × Bool) :=
  some a0
theorem Tlaws_toBoolA8 {Y} (n : Nat) (a0 : (Bool × Bool × Bool × Bool × Bool × Bool × Bool × Bool)) (r : (Bool × Bool × Bool × Bool × Bool × Bool × Bool × Bool)) (h : Dlaws_toBoolA8 n a0 = some r) : Big Try.prog H Y (.call 105 [.agg [bl a0.1, bl a0.2.1, bl a0.2.2.1, bl a0.2.2.2.1, bl a0.2.2.2.2.1, bl a0.2.2.2.2.2.1, bl a0.2.2.2.2.2.2.1, bl a0.2.2.2.2.2.2.2]] (lk []) (.agg [bl r.1, bl r.2.1, bl r.2.2.1, bl r.2.2.2.1, bl r.2.2.2.2.1, bl r.2.2.2.2.2.1, bl r.2.2.2.2.2.2.1, bl r.2.2.2.2.2.2.2]) (lk [])) := by
  unfold Dlaws_toBoolA8 at h
  refine x_call (fn := Try.f105) (c := bodyOf Try.f105) (bs0 := []) Try.func105 (by kernel_rfl) (by kernel_rfl) ?_
  replace h := Option.some.inj h; subst h
  exact x_end 237 [] [] onil onil (by kernel_rfl)
/-! laws.toDesk -/
def Dlaws_toDesk (n : Nat) (a0 : Dsk) : Option Dsk :=
  (Dlaws_toSolidA8 n a0.1).bind fun v0 => (Dlaws_toBoolA8 n a0.2).bind fun v1 => some (v0, v1)
theorem Tlaws_toDesk {Y} (n : Nat) (a0 : Dsk) (r : Dsk) (h : Dlaws_toDesk n a0 = some r) : Big Try.prog H Y (.call 42 [.agg (cT65 a0)] (lk []) (.agg (cT69o r)) (lk [])) := by
  unfold Dlaws_toDesk at h
  refine x_call (fn := Try.f42) (c := bodyOf Try.f42) (bs0 := []) Try.func42 (by kernel_rfl) (by kernel_rfl) ?_
  obtain ⟨v0, hv0, h⟩ := bind_some h
  obtain ⟨v1, hv1, h⟩ := bind_some h
  replace h := Option.some.inj h; subst h
  exact x_end 30 [(5, .call [] [] (.agg (cT67o v0)) []), (4, .call [] [] (.agg [bl v1.1, bl v1.2.1, bl v1.2.2.1, bl v1.2.2.2.1, bl v1.2.2.2.2.1, bl v1.2.2.2.2.2.1, bl v1.2.2.2.2.2.2.1, bl v1.2.2.2.2.2.2.2]) [])] [] (ocons (Tlaws_toSolidA8 (Y := Y) n a0.1 _ hv0) (ocons (Tlaws_toBoolA8 (Y := Y) n a0.2 _ hv1) onil)) onil (by kernel_rfl)
/-! spec.l20None -/
def Dspec_l20None (a0 : Sol) : Option Bool :=
  frk (!a0.inn) (frk (a0.pl.A == 0 && (a0.pl.B == 0 && (a0.pl.C == 0 && (a0.pl.D == 0 && true)))) (some ((a0.kids.length : Int) == 0)) (some false)) (some false)
theorem Tspec_l20None {Y} (a0 : Sol) (r : Bool) (h : Dspec_l20None a0 = some r) : Big Try.prog H Y (.call 151 [.agg [bl a0.inn, i64 a0.pl.A, i64 a0.pl.B, i64 a0.pl.C, i64 a0.pl.D, .sl false 6 a0.kids.length ((eSol false).f a0.kids)]] (lk []) (bl r) (lk [])) := by
  unfold Dspec_l20None at h
  refine x_call (fn := Try.f151) (c := bodyOf Try.f151) (bs0 := []) Try.func151 (by kernel_rfl) (by kernel_rfl) ?_
  refine x_frk 11 [] onil h (by kernel_rfl) (fun h => ?_) (fun h => ?_)
  · refine x_frk 6 [] onil h (by kernel_rfl) (fun h => ?_) (fun h => ?_)
    · replace h := Option.some.inj h; subst h
      exact x_end 7 [] [] onil onil (by kernel_rfl)
    · replace h := Option.some.inj h; subst h
      exact x_end 7 [] [] onil onil (by kernel_rfl)
  · replace h := Option.some.inj h; subst h
    exact x_end 13 [] [] onil onil (by kernel_rfl)
/-! spec.DeskOk -/
def Dspec_DeskOk_7 (n : Nat) (t3 : Int) (t35 : Bool) (a0 : Dsk) : Option Bool :=
  frk t35 (some false) ((Dspec_l8Count n a0.1.2.2.2.2.2.2.2 301).bind fun v23 => some (decide ((w64 (t3 + v23)) ≤ 900)))
theorem Tspec_DeskOk_7 {Y} (n : Nat) (t3 : Int) (t35 : Bool) (a0 : Dsk) (r : Bool) (h : Dspec_DeskOk_7 n t3 t35 a0 = some r) : Wk Try.prog H Y 102 [.code (cp [1, 1, 0, 1, 0, 0, 1, 0, 0, 0, 1] (bodyOf Try.f102)), .code (cp [1, 1, 0, 1, 0, 0, 1, 0, 0, 1] (bodyOf Try.f102)), .blk 1, .code (cp [1, 1, 0, 1, 0, 0, 1, 1] (bodyOf Try.f102)), .lp (cp [1, 1, 0, 1, 0] (bodyOf Try.f102)), .blk 0, .code (cp [1, 1, 1] (bodyOf Try.f102))] (FinX Try.prog Try.f102 [] (bl r) []) ⟨[(1, .ptr 1 0), (3, i64 t3), (4, i64 7), (35, bl t35)], [(1, ⟨true, 0, (cT69 a0)⟩)]⟩ := by
  unfold Dspec_DeskOk_7 at h
  refine x_frk 0 [] onil h (by kernel_rfl) (fun h => ?_) (fun h => ?_)
  · replace h := Option.some.inj h; subst h
    exact x_end 4 [] [] onil onil (by kernel_rfl)
  · obtain ⟨v23, hv23, h⟩ := bind_some h
    replace h := Option.some.inj h; subst h
    exact x_end 33 [(5, .call [] [] (i64 v23) [])] [] (ocons (Tspec_l8Count (Y := Y) n a0.1.2.2.2.2.2.2.2 301 _ hv23) onil) onil (by kernel_rfl)
def Dspec_DeskOk_8 (n : Nat) (t3 : Int) (a0 : Dsk) : Option Bool :=
  (Dspec_l8Count n a0.1.2.2.2.2.2.2.2 301).bind fun v24 => some (decide ((w64 (t3 + v24)) ≤ 900))
theorem Tspec_DeskOk_8 {Y} (n : Nat) (t3 : Int) (a0 : Dsk) (r : Bool) (h : Dspec_DeskOk_8 n t3 a0 = some r) : Wk Try.prog H Y 102 [.code (cp [1, 1, 0, 1, 0, 0, 1, 0, 0, 1] (bodyOf Try.f102)), .blk 1, .code (cp [1, 1, 0, 1, 0, 0, 1, 1] (bodyOf Try.f102)), .lp (cp [1, 1, 0, 1, 0] (bodyOf Try.f102)), .blk 0, .code (cp [1, 1, 1] (bodyOf Try.f102))] (FinX Try.prog Try.f102 [] (bl r) []) ⟨[(1, .ptr 1 0), (3, i64 t3), (4, i64 7)], [(1, ⟨true, 0, (cT69 a0)⟩)]⟩ := by
  unfold Dspec_DeskOk_8 at h
  obtain ⟨v24, hv24, h⟩ := bind_some h
  replace h := Option.some.inj h; subst h
  exact x_end 32 [(5, .call [] [] (i64 v24) [])] [] (ocons (Tspec_l8Count (Y := Y) n a0.1.2.2.2.2.2.2.2 301 _ hv24) onil) onil (by kernel_rfl)
def Dspec_DeskOk_6 (n : Nat) (t3 : Int) (t35 : Bool) (a0 : Dsk) : Option Bool :=
  frk t35 (some false) ((Dspec_l8Count n a0.1.2.2.2.2.2.2.1 301).bind fun v20 => frk a0.2.2.2.2.2.2.2.2 ((Dspec_SolidOk n a0.1.2.2.2.2.2.2.2).bind fun v21 => frk (!v21) (some false) (frk (!a0.2.2.2.2.2.2.2.2) ((Dspec_l20None a0.1.2.2.2.2.2.2.2).bind fun v22 => Dspec_DeskOk_7 n (w64 (t3 + v20)) (!v22) a0) (Dspec_DeskOk_8 n (w64 (t3 + v20)) a0))) (frk (!a0.2.2.2.2.2.2.2.2) ((Dspec_l20None a0.1.2.2.2.2.2.2.2).bind fun v25 => Dspec_DeskOk_7 n (w64 (t3 + v20)) (!v25) a0) (Dspec_DeskOk_8 n (w64 (t3 + v20)) a0)))
theorem Tspec_DeskOk_6 {Y} (n : Nat) (t3 : Int) (t35 : Bool) (a0 : Dsk) (r : Bool) (h : Dspec_DeskOk_6 n t3 t35 a0 = some r) : Wk Try.prog H Y 102 [.code (cp [1, 1, 0, 1, 0, 0, 1, 0, 0, 0, 1] (bodyOf Try.f102)), .code (cp [1, 1, 0, 1, 0, 0, 1, 0, 0, 1] (bodyOf Try.f102)), .blk 1, .code (cp [1, 1, 0, 1, 0, 0, 1, 1] (bodyOf Try.f102)), .lp (cp [1, 1, 0, 1, 0] (bodyOf Try.f102)), .blk 0, .code (cp [1, 1, 1] (bodyOf Try.f102))] (FinX Try.prog Try.f102 [] (bl r) []) ⟨[(1, .ptr 1 0), (3, i64 t3), (4, i64 6), (35, bl t35)], [(1, ⟨true, 0, (cT69 a0)⟩)]⟩ := by
  unfold Dspec_DeskOk_6 at h
  refine x_frk 0 [] onil h (by kernel_rfl) (fun h => ?_) (fun h => ?_)
  · replace h := Option.some.inj h; subst h
    exact x_end 4 [] [] onil onil (by kernel_rfl)
  · obtain ⟨v20, hv20, h⟩ := bind_some h
    refine x_frk 37 [(5, .call [] [] (i64 v20) [])] (ocons (Tspec_l8Count (Y := Y) n a0.1.2.2.2.2.2.2.1 301 _ hv20) onil) h (by kernel_rfl) (fun h => ?_) (fun h => ?_)
    · obtain ⟨v21, hv21, h⟩ := bind_some h
      refine x_frk 8 [(4, .call [] [] (bl v21) [])] (ocons (Tspec_SolidOk (Y := Y) n a0.1.2.2.2.2.2.2.2 _ hv21) onil) h (by kernel_rfl) (fun h => ?_) (fun h => ?_)
      · replace h := Option.some.inj h; subst h
        exact x_end 20 [] [] onil onil (by kernel_rfl)
      · refine x_frk 6 [] onil h (by kernel_rfl) (fun h => ?_) (fun h => ?_)
        · obtain ⟨v22, hv22, h⟩ := bind_some h
          exact x_to 9 [(4, .call [] [] (bl v22) [])] (ocons (Tspec_l20None (Y := Y) a0.1.2.2.2.2.2.2.2 _ hv22) onil) (Tspec_DeskOk_7 n (w64 (t3 + v20)) (!v22) a0 r h) (by kernel_rfl)
        · exact x_to 11 [] onil (Tspec_DeskOk_8 n (w64 (t3 + v20)) a0 r h) (by kernel_rfl)
    · refine x_frk 14 [] onil h (by kernel_rfl) (fun h => ?_) (fun h => ?_)
      · obtain ⟨v25, hv25, h⟩ := bind_some h
        exact x_to 9 [(4, .call [] [] (bl v25) [])] (ocons (Tspec_l20None (Y := Y) a0.1.2.2.2.2.2.2.2 _ hv25) onil) (Tspec_DeskOk_7 n (w64 (t3 + v20)) (!v25) a0 r h) (by kernel_rfl)
      · exact x_to 11 [] onil (Tspec_DeskOk_8 n (w64 (t3 + v20)) a0 r h) (by kernel_rfl)
def Dspec_DeskOk_9 (n : Nat) (t3 : Int) (a0 : Dsk) : Option Bool :=
  (Dspec_l8Count n a0.1.2.2.2.2.2.2.1 301).bind fun v26 => frk a0.2.2.2.2.2.2.2.2 ((Dspec_SolidOk n a0.1.2.2.2.2.2.2.2).bind fun v27 => frk (!v27) (some false) (frk (!a0.2.2.2.2.2.2.2.2) ((Dspec_l20None a0.1.2.2.2.2.2.2.2).bind fun v28 => Dspec_DeskOk_7 n (w64 (t3 + v26)) (!v28) a0) (Dspec_DeskOk_8 n (w64 (t3 + v26)) a0))) (frk (!a0.2.2.2.2.2.2.2.2) ((Dspec_l20None a0.1.2.2.2.2.2.2.2).bind fun v29 => Dspec_DeskOk_7 n (w64 (t3 + v26)) (!v29) a0) (Dspec_DeskOk_8 n (w64 (t3 + v26)) a0))
theorem Tspec_DeskOk_9 {Y} (n : Nat) (t3 : Int) (a0 : Dsk) (r : Bool) (h : Dspec_DeskOk_9 n t3 a0 = some r) : Wk Try.prog H Y 102 [.code (cp [1, 1, 0, 1, 0, 0, 1, 0, 0, 1] (bodyOf Try.f102)), .blk 1, .code (cp [1, 1, 0, 1, 0, 0, 1, 1] (bodyOf Try.f102)), .lp (cp [1, 1, 0, 1, 0] (bodyOf Try.f102)), .blk 0, .code (cp [1, 1, 1] (bodyOf Try.f102))] (FinX Try.prog Try.f102 [] (bl r) []) ⟨[(1, .ptr 1 0), (3, i64 t3), (4, i64 6)], [(1, ⟨true, 0, (cT69 a0)⟩)]⟩ := by
  unfold Dspec_DeskOk_9 at h
  obtain ⟨v26, hv26, h⟩ := bind_some h
  refine x_frk 36 [(5, .call [] [] (i64 v26) [])] (ocons (Tspec_l8Count (Y := Y) n a0.1.2.2.2.2.2.2.1 301 _ hv26) onil) h (by kernel_rfl) (fun h => ?_) (fun h => ?_)
  · obtain ⟨v27, hv27, h⟩ := bind_some h
    refine x_frk 8 [(4, .call [] [] (bl v27) [])] (ocons (Tspec_SolidOk (Y := Y) n a0.1.2.2.2.2.2.2.2 _ hv27) onil) h (by kernel_rfl) (fun h => ?_) (fun h => ?_)
    · replace h := Option.some.inj h; subst h
      exact x_end 20 [] [] onil onil (by kernel_rfl)
    · refine x_frk 6 [] onil h (by kernel_rfl) (fun h => ?_) (fun h => ?_)
      · obtain ⟨v28, hv28, h⟩ := bind_some h
        exact x_to 9 [(4, .call [] [] (bl v28) [])] (ocons (Tspec_l20None (Y := Y) a0.1.2.2.2.2.2.2.2 _ hv28) onil) (Tspec_DeskOk_7 n (w64 (t3 + v26)) (!v28) a0 r h) (by kernel_rfl)
      · exact x_to 11 [] onil (Tspec_DeskOk_8 n (w64 (t3 + v26)) a0 r h) (by kernel_rfl)
  · refine x_frk 14 [] onil h (by kernel_rfl) (fun h => ?_) (fun h => ?_)
    · obtain ⟨v29, hv29, h⟩ := bind_some h
      exact x_to 9 [(4, .call [] [] (bl v29) [])] (ocons (Tspec_l20None (Y := Y) a0.1.2.2.2.2.2.2.2 _ hv29) onil) (Tspec_DeskOk_7 n (w64 (t3 + v26)) (!v29) a0 r h) (by kernel_rfl)
    · exact x_to 11 [] onil (Tspec_DeskOk_8 n (w64 (t3 + v26)) a0 r h) (by kernel_rfl)
def Dspec_DeskOk_5 (n : Nat) (t3 : Int) (t35 : Bool) (a0 : Dsk) : Option Bool :=
  frk t35 (some false) ((Dspec_l8Count n a0.1.2.2.2.2.2.1 301).bind fun v17 => frk a0.2.2.2.2.2.2.2.1 ((Dspec_SolidOk n a0.1.2.2.2.2.2.2.1).bind fun v18 => frk (!v18) (some false) (frk (!a0.2.2.2.2.2.2.2.1) ((Dspec_l20None a0.1.2.2.2.2.2.2.1).bind fun v19 => Dspec_DeskOk_6 n (w64 (t3 + v17)) (!v19) a0) (Dspec_DeskOk_9 n (w64 (t3 + v17)) a0))) (frk (!a0.2.2.2.2.2.2.2.1) ((Dspec_l20None a0.1.2.2.2.2.2.2.1).bind fun v30 => Dspec_DeskOk_6 n (w64 (t3 + v17)) (!v30) a0) (Dspec_DeskOk_9 n (w64 (t3 + v17)) a0)))
theorem Tspec_DeskOk_5 {Y} (n : Nat) (t3 : Int) (t35 : Bool) (a0 : Dsk) (r : Bool) (h : Dspec_DeskOk_5 n t3 t35 a0 = some r) : Wk Try.prog H Y 102 [.code (cp [1, 1, 0, 1, 0, 0, 1, 0, 0, 0, 1] (bodyOf Try.f102)), .code (cp [1, 1, 0, 1, 0, 0, 1, 0, 0, 1] (bodyOf Try.f102)), .blk 1, .code (cp [1, 1, 0, 1, 0, 0, 1, 1] (bodyOf Try.f102)), .lp (cp [1, 1, 0, 1, 0] (bodyOf Try.f102)), .blk 0, .code (cp [1, 1, 1] (bodyOf Try.f102))] (FinX Try.prog Try.f102 [] (bl r) []) ⟨[(1, .ptr 1 0), (3, i64 t3), (4, i64 5), (35, bl t35)], [(1, ⟨true, 0, (cT69 a0)⟩)]⟩ := by
  unfold Dspec_DeskOk_5 at h
  refine x_frk 0 [] onil h (by kernel_rfl) (fun h => ?_) (fun h => ?_)
  · replace h := Option.some.inj h; subst h
    exact x_end 4 [] [] onil onil (by kernel_rfl)
  · obtain ⟨v17, hv17, h⟩ := bind_some h
    refine x_frk 37 [(5, .call [] [] (i64 v17) [])] (ocons (Tspec_l8Count (Y := Y) n a0.1.2.2.2.2.2.1 301 _ hv17) onil) h (by kernel_rfl) (fun h => ?_) (fun h => ?_)
    · obtain ⟨v18, hv18, h⟩ := bind_some h
      refine x_frk 8 [(4, .call [] [] (bl v18) [])] (ocons (Tspec_SolidOk (Y := Y) n a0.1.2.2.2.2.2.2.1 _ hv18) onil) h (by kernel_rfl) (fun h => ?_) (fun h => ?_)
      · replace h := Option.some.inj h; subst h
        exact x_end 20 [] [] onil onil (by kernel_rfl)
      · refine x_frk 6 [] onil h (by kernel_rfl) (fun h => ?_) (fun h => ?_)
        · obtain ⟨v19, hv19, h⟩ := bind_some h
          exact x_to 9 [(4, .call [] [] (bl v19) [])] (ocons (Tspec_l20None (Y := Y) a0.1.2.2.2.2.2.2.1 _ hv19) onil) (Tspec_DeskOk_6 n (w64 (t3 + v17)) (!v19) a0 r h) (by kernel_rfl)
        · exact x_to 11 [] onil (Tspec_DeskOk_9 n (w64 (t3 + v17)) a0 r h) (by kernel_rfl)
    · refine x_frk 14 [] onil h (by kernel_rfl) (fun h => ?_) (fun h => ?_)
      · obtain ⟨v30, hv30, h⟩ := bind_some h
        exact x_to 9 [(4, .call [] [] (bl v30) [])] (ocons (Tspec_l20None (Y := Y) a0.1.2.2.2.2.2.2.1 _ hv30) onil) (Tspec_DeskOk_6 n (w64 (t3 + v17)) (!v30) a0 r h) (by kernel_rfl)
      · exact x_to 11 [] onil (Tspec_DeskOk_9 n (w64 (t3 + v17)) a0 r h) (by kernel_rfl)
def Dspec_DeskOk_10 (n : Nat) (t3 : Int) (a0 : Dsk) : Option Bool :=
  (Dspec_l8Count n a0.1.2.2.2.2.2.1 301).bind fun v31 => frk a0.2.2.2.2.2.2.2.1 ((Dspec_SolidOk n a0.1.2.2.2.2.2.2.1).bind fun v32 => frk (!v32) (some false) (frk (!a0.2.2.2.2.2.2.2.1) ((Dspec_l20None a0.1.2.2.2.2.2.2.1).bind fun v33 => Dspec_DeskOk_6 n (w64 (t3 + v31)) (!v33) a0) (Dspec_DeskOk_9 n (w64 (t3 + v31)) a0))) (frk (!a0.2.2.2.2.2.2.2.1) ((Dspec_l20None a0.1.2.2.2.2.2.2.1).bind fun v34 => Dspec_DeskOk_6 n (w64 (t3 + v31)) (!v34) a0) (Dspec_DeskOk_9 n (w64 (t3 + v31)) a0))
theorem Tspec_DeskOk_10 {Y} (n : Nat) (t3 : Int) (a0 : Dsk) (r : Bool) (h : Dspec_DeskOk_10 n t3 a0 = some r) : Wk Try.prog H Y 102 [.code (cp [1, 1, 0, 1, 0, 0, 1, 0, 0, 1] (bodyOf Try.f102)), .blk 1, .code (cp [1, 1, 0, 1, 0, 0, 1, 1] (bodyOf Try.f102)), .lp (cp [1, 1, 0, 1, 0] (bodyOf Try.f102)), .blk 0, .code (cp [1, 1, 1] (bodyOf Try.f102))] (FinX Try.prog Try.f102 [] (bl r) []) ⟨[(1, .ptr 1 0), (3, i64 t3), (4, i64 5)], [(1, ⟨true, 0, (cT69 a0)⟩)]⟩ := by
  unfold Dspec_DeskOk_10 at h
  obtain ⟨v31, hv31, h⟩ := bind_some h
  refine x_frk 36 [(5, .call [] [] (i64 v31) [])] (ocons (Tspec_l8Count (Y := Y) n a0.1.2.2.2.2.2.1 301 _ hv31) onil) h (by kernel_rfl) (fun h => ?_) (fun h => ?_)
  · obtain ⟨v32, hv32, h⟩ := bind_some h
    refine x_frk 8 [(4, .call [] [] (bl v32) [])] (ocons (Tspec_SolidOk (Y := Y) n a0.1.2.2.2.2.2.2.1 _ hv32) onil) h (by kernel_rfl) (fun h => ?_) (fun h => ?_)
    · replace h := Option.some.inj h; subst h
      exact x_end 20 [] [] onil onil (by kernel_rfl)
    · refine x_frk 6 [] onil h (by kernel_rfl) (fun h => ?_) (fun h => ?_)
      · obtain ⟨v33, hv33, h⟩ := bind_some h
        exact x_to 9 [(4, .call [] [] (bl v33) [])] (ocons (Tspec_l20None (Y := Y) a0.1.2.2.2.2.2.2.1 _ hv33) onil) (Tspec_DeskOk_6 n (w64 (t3 + v31)) (!v33) a0 r h) (by kernel_rfl)
      · exact x_to 11 [] onil (Tspec_DeskOk_9 n (w64 (t3 + v31)) a0 r h) (by kernel_rfl)
  · refine x_frk 14 [] onil h (by kernel_rfl) (fun h => ?_) (fun h => ?_)
    · obtain ⟨v34, hv34, h⟩ := bind_some h
      exact x_to 9 [(4, .call [] [] (bl v34) [])] (ocons (Tspec_l20None (Y := Y) a0.1.2.2.2.2.2.2.1 _ hv34) onil) (Tspec_DeskOk_6 n (w64 (t3 + v31)) (!v34) a0 r h) (by kernel_rfl)
    · exact x_to 11 [] onil (Tspec_DeskOk_9 n (w64 (t3 + v31)) a0 r h) (by kernel_rfl)
def Dspec_DeskOk_4 (n : Nat) (t3 : Int) (t35 : Bool) (a0 : Dsk) : Option Bool :=
  frk t35 (some false) ((Dspec_l8Count n a0.1.2.2.2.2.1 301).bind fun v14 => frk a0.2.2.2.2.2.2.1 ((Dspec_SolidOk n a0.1.2.2.2.2.2.1).bind fun v15 => frk (!v15) (some false) (frk (!a0.2.2.2.2.2.2.1) ((Dspec_l20None a0.1.2.2.2.2.2.1).bind fun v16 => Dspec_DeskOk_5 n (w64 (t3 + v14)) (!v16) a0) (Dspec_DeskOk_10 n (w64 (t3 + v14)) a0))) (frk (!a0.2.2.2.2.2.2.1) ((Dspec_l20None a0.1.2.2.2.2.2.1).bind fun v35 => Dspec_DeskOk_5 n (w64 (t3 + v14)) (!v35) a0) (Dspec_DeskOk_10 n (w64 (t3 + v14)) a0)))
theorem Tspec_DeskOk_4 {Y} (n : Nat) (t3 : Int) (t35 : Bool) (a0 : Dsk) (r : Bool) (h : Dspec_DeskOk_4 n t3 t35 a0 = some r) : Wk Try.prog H Y 102 [.code (cp [1, 1, 0, 1, 0, 0, 1, 0, 0, 0, 1] (bodyOf Try.f102)), .code (cp [1, 1, 0, 1, 0, 0, 1, 0, 0, 1] (bodyOf Try.f102)), .blk 1, .code (cp [1, 1, 0, 1, 0, 0, 1, 1] (bodyOf Try.f102)), .lp (cp [1, 1, 0, 1, 0] (bodyOf Try.f102)), .blk 0, .code (cp [1, 1, 1] (bodyOf Try.f102))] (FinX Try.prog Try.f102 [] (bl r) []) ⟨[(1, .ptr 1 0), (3, i64 t3), (4, i64 4), (35, bl t35)], [(1, ⟨true, 0, (cT69 a0)⟩)]⟩ := by
  unfold Dspec_DeskOk_4 at h
  refine x_frk 0 [] onil h (by kernel_rfl) (fun h => ?_) (fun h => ?_)
  · replace h := Option.some.inj h; subst h
    exact x_end 4 [] [] onil onil (by kernel_rfl)
  · obtain ⟨v14, hv14, h⟩ := bind_some h
    refine x_frk 37 [(5, .call [] [] (i64 v14) [])] (ocons (Tspec_l8Count (Y := Y) n a0.1.2.2.2.2.1 301 _ hv14) onil) h (by kernel_rfl) (fun h => ?_) (fun h => ?_)
    · obtain ⟨v15, hv15, h⟩ := bind_some h
      refine x_frk 8 [(4, .call [] [] (bl v15) [])] (ocons (Tspec_SolidOk (Y := Y) n a0.1.2.2.2.2.2.1 _ hv15) onil) h (by kernel_rfl) (fun h => ?_) (fun h => ?_)
      · replace h := Option.some.inj h; subst h
        exact x_end 20 [] [] onil onil (by kernel_rfl)
      · refine x_frk 6 [] onil h (by kernel_rfl) (fun h => ?_) (fun h => ?_)
        · obtain ⟨v16, hv16, h⟩ := bind_some h
          exact x_to 9 [(4, .call [] [] (bl v16) [])] (ocons (Tspec_l20None (Y := Y) a0.1.2.2.2.2.2.1 _ hv16) onil) (Tspec_DeskOk_5 n (w64 (t3 + v14)) (!v16) a0 r h) (by kernel_rfl)
        · exact x_to 11 [] onil (Tspec_DeskOk_10 n (w64 (t3 + v14)) a0 r h) (by kernel_rfl)
    · refine x_frk 14 [] onil h (by kernel_rfl) (fun h => ?_) (fun h => ?_)
      · obtain ⟨v35, hv35, h⟩ := bind_some h
        exact x_to 9 [(4, .call [] [] (bl v35) [])] (ocons (Tspec_l20None (Y := Y) a0.1.2.2.2.2.2.1 _ hv35) onil) (Tspec_DeskOk_5 n (w64 (t3 + v14)) (!v35) a0 r h) (by kernel_rfl)
      · exact x_to 11 [] onil (Tspec_DeskOk_10 n (w64 (t3 + v14)) a0 r h) (by kernel_rfl)
def Dspec_DeskOk_11 (n : Nat) (t3 : Int) (a0 : Dsk) : Option Bool :=
  (Dspec_l8Count n a0.1.2.2.2.2.1 301).bind fun v36 => frk a0.2.2.2.2.2.2.1 ((Dspec_SolidOk n a0.1.2.2.2.2.2.1).bind fun v37 => frk (!v37) (some false) (frk (!a0.2.2.2.2.2.2.1) ((Dspec_l20None a0.1.2.2.2.2.2.1).bind fun v38 => Dspec_DeskOk_5 n (w64 (t3 + v36)) (!v38) a0) (Dspec_DeskOk_10 n (w64 (t3 + v36)) a0))) (frk (!a0.2.2.2.2.2.2.1) ((Dspec_l20None a0.1.2.2.2.2.2.1).bind fun v39 => Dspec_DeskOk_5 n (w64 (t3 + v36)) (!v39) a0) (Dspec_DeskOk_10 n (w64 (t3 + v36)) a0))
theorem Tspec_DeskOk_11 {Y} (n : Nat) (t3 : Int) (a0 : Dsk) (r : Bool) (h : Dspec_DeskOk_11 n t3 a0 = some r) : Wk Try.prog H Y 102 [.code (cp [1, 1, 0, 1, 0, 0, 1, 0, 0, 1] (bodyOf Try.f102)), .blk 1, .code (cp [1, 1, 0, 1, 0, 0, 1, 1] (bodyOf Try.f102)), .lp (cp [1, 1, 0, 1, 0] (bodyOf Try.f102)), .blk 0, .code (cp [1, 1, 1] (bodyOf Try.f102))] (FinX Try.prog Try.f102 [] (bl r) []) ⟨[(1, .ptr 1 0), (3, i64 t3), (4, i64 4)], [(1, ⟨true, 0, (cT69 a0)⟩)]⟩ := by
  unfold Dspec_DeskOk_11 at h
  obtain ⟨v36, hv36, h⟩ := bind_some h
  refine x_frk 36 [(5, .call [] [] (i64 v36) [])] (ocons (Tspec_l8Count (Y := Y) n a0.1.2.2.2.2.1 301 _ hv36) onil) h (by kernel_rfl) (fun h => ?_) (fun h => ?_)
  · obtain ⟨v37, hv37, h⟩ := bind_some h
    refine x_frk 8 [(4, .call [] [] (bl v37) [])] (ocons (Tspec_SolidOk (Y := Y) n a0.1.2.2.2.2.2.1 _ hv37) onil) h (by kernel_rfl) (fun h => ?_) (fun h => ?_)
    · replace h := Option.some.inj h; subst h
      exact x_end 20 [] [] onil onil (by kernel_rfl)
    · refine x_frk 6 [] onil h (by kernel_rfl) (fun h => ?_) (fun h => ?_)
      · obtain ⟨v38, hv38, h⟩ := bind_some h
        exact x_to 9 [(4, .call [] [] (bl v38) [])] (ocons (Tspec_l20None (Y := Y) a0.1.2.2.2.2.2.1 _ hv38) onil) (Tspec_DeskOk_5 n (w64 (t3 + v36)) (!v38) a0 r h) (by kernel_rfl)
      · exact x_to 11 [] onil (Tspec_DeskOk_10 n (w64 (t3 + v36)) a0 r h) (by kernel_rfl)
  · refine x_frk 14 [] onil h (by kernel_rfl) (fun h => ?_) (fun h => ?_)
    · obtain ⟨v39, hv39, h⟩ := bind_some h
      exact x_to 9 [(4, .call [] [] (bl v39) [])] (ocons (Tspec_l20None (Y := Y) a0.1.2.2.2.2.2.1 _ hv39) onil) (Tspec_DeskOk_5 n (w64 (t3 + v36)) (!v39) a0 r h) (by kernel_rfl)
    · exact x_to 11 [] onil (Tspec_DeskOk_10 n (w64 (t3 + v36)) a0 r h) (by kernel_rfl)
def Dspec_DeskOk_3 (n : Nat) (t3 : Int) (t35 : Bool) (a0 : Dsk) : Option Bool :=
  frk t35 (some false) ((Dspec_l8Count n a0.1.2.2.2.1 301).bind fun v11 => frk a0.2.2.2.2.2.1 ((Dspec_SolidOk n a0.1.2.2.2.2.1).bind fun v12 => frk (!v12) (some false) (frk (!a0.2.2.2.2.2.1) ((Dspec_l20None a0.1.2.2.2.2.1).bind fun v13 => Dspec_DeskOk_4 n (w64 (t3 + v11)) (!v13) a0) (Dspec_DeskOk_11 n (w64 (t3 + v11)) a0))) (frk (!a0.2.2.2.2.2.1) ((Dspec_l20None a0.1.2.2.2.2.1).bind fun v40 => Dspec_DeskOk_4 n (w64 (t3 + v11)) (!v40) a0) (Dspec_DeskOk_11 n (w64 (t3 + v11)) a0)))
theorem Tspec_DeskOk_3 {Y} (n : Nat) (t3 : Int) (t35 : Bool) (a0 : Dsk) (r : Bool) (h : Dspec_DeskOk_3 n t3 t35 a0 = some r) : Wk Try.prog H Y 102 [.code (cp [1, 1, 0, 1, 0, 0, 1, 0, 0, 0, 1] (bodyOf Try.f102)), .code (cp [1, 1, 0, 1, 0, 0, 1, 0, 0, 1] (bodyOf Try.f102)), .blk 1, .code (cp [1, 1, 0, 1, 0, 0, 1, 1] (bodyOf Try.f102)), .lp (cp [1, 1, 0, 1, 0] (bodyOf Try.f102)), .blk 0, .code (cp [1, 1, 1] (bodyOf Try.f102))] (FinX Try.prog Try.f102 [] (bl r) []) ⟨[(1, .ptr 1 0), (3, i64 t3), (4, i64 3), (35, bl t35)], [(1, ⟨true, 0, (cT69 a0)⟩)]⟩ := by
  unfold Dspec_DeskOk_3 at h
  refine x_frk 0 [] onil h (by kernel_rfl) (fun h => ?_) (fun h => ?_)
  · replace h := Option.some.inj h; subst h
    exact x_end 4 [] [] onil onil (by kernel_rfl)
  · obtain ⟨v11, hv11, h⟩ := bind_some h
    refine x_frk 37 [(5, .call [] [] (i64 v11) [])] (ocons (Tspec_l8Count (Y := Y) n a0.1.2.2.2.1 301 _ hv11) onil) h (by kernel_rfl) (fun h => ?_) (fun h => ?_)
    · obtain ⟨v12, hv12, h⟩ := bind_some h
      refine x_frk 8 [(4, .call [] [] (bl v12) [])] (ocons (Tspec_SolidOk (Y := Y) n a0.1.2.2.2.2.1 _ hv12) onil) h (by kernel_rfl) (fun h => ?_) (fun h => ?_)
      · replace h := Option.some.inj h; subst h
        exact x_end 20 [] [] onil onil (by kernel_rfl)
      · refine x_frk 6 [] onil h (by kernel_rfl) (fun h => ?_) (fun h => ?_)
        · obtain ⟨v13, hv13, h⟩ := bind_some h
          exact x_to 9 [(4, .call [] [] (bl v13) [])] (ocons (Tspec_l20None (Y := Y) a0.1.2.2.2.2.1 _ hv13) onil) (Tspec_DeskOk_4 n (w64 (t3 + v11)) (!v13) a0 r h) (by kernel_rfl)
        · exact x_to 11 [] onil (Tspec_DeskOk_11 n (w64 (t3 + v11)) a0 r h) (by kernel_rfl)
    · refine x_frk 14 [] onil h (by kernel_rfl) (fun h => ?_) (fun h => ?_)
      · obtain ⟨v40, hv40, h⟩ := bind_some h
        exact x_to 9 [(4, .call [] [] (bl v40) [])] (ocons (Tspec_l20None (Y := Y) a0.1.2.2.2.2.1 _ hv40) onil) (Tspec_DeskOk_4 n (w64 (t3 + v11)) (!v40) a0 r h) (by kernel_rfl)
      · exact x_to 11 [] onil (Tspec_DeskOk_11 n (w64 (t3 + v11)) a0 r h) (by kernel_rfl)
def Dspec_DeskOk_12 (n : Nat) (t3 : Int) (a0 : Dsk) : Option Bool :=
  (Dspec_l8Count n a0.1.2.2.2.1 301).bind fun v41 => frk a0.2.2.2.2.2.1 ((Dspec_SolidOk n a0.1.2.2.2.2.1).bind fun v42 => frk (!v42) (some false) (frk (!a0.2.2.2.2.2.1) ((Dspec_l20None a0.1.2.2.2.2.1).bind fun v43 => Dspec_DeskOk_4 n (w64 (t3 + v41)) (!v43) a0) (Dspec_DeskOk_11 n (w64 (t3 + v41)) a0))) (frk (!a0.2.2.2.2.2.1) ((Dspec_l20None a0.1.2.2.2.2.1).bind fun v44 => Dspec_DeskOk_4 n (w64 (t3 + v41)) (!v44) a0) (Dspec_DeskOk_11 n (w64 (t3 + v41)) a0))
theorem Tspec_DeskOk_12 {Y} (n : Nat) (t3 : Int) (a0 : Dsk) (r : Bool) (h : Dspec_DeskOk_12 n t3 a0 = some r) : Wk Try.prog H Y 102 [.code (cp [1, 1, 0, 1, 0, 0, 1, 0, 0, 1] (bodyOf Try.f102)), .blk 1, .code (cp [1, 1, 0, 1, 0, 0, 1, 1] (bodyOf Try.f102)), .lp (cp [1, 1, 0, 1, 0] (bodyOf Try.f102)), .blk 0, .code (cp [1, 1, 1] (bodyOf Try.f102))] (FinX Try.prog Try.f102 [] (bl r) []) ⟨[(1, .ptr 1 0), (3, i64 t3), (4, i64 3)], [(1, ⟨true, 0, (cT69 a0)⟩)]⟩ := by
  unfold Dspec_DeskOk_12 at h
  obtain ⟨v41, hv41, h⟩ := bind_some h
  refine x_frk 36 [(5, .call [] [] (i64 v41) [])] (ocons (Tspec_l8Count (Y := Y) n a0.1.2.2.2.1 301 _ hv41) onil) h (by kernel_rfl) (fun h => ?_) (fun h => ?_)
  · obtain ⟨v42, hv42, h⟩ := bind_some h
    refine x_frk 8 [(4, .call [] [] (bl v42) [])] (ocons (Tspec_SolidOk (Y := Y) n a0.1.2.2.2.2.1 _ hv42) onil) h (by kernel_rfl) (fun h => ?_) (fun h => ?_)
    · replace h := Option.some.inj h; subst h
      exact x_end 20 [] [] onil onil (by kernel_rfl)
    · refine x_frk 6 [] onil h (by kernel_rfl) (fun h => ?_) (fun h => ?_)
      · obtain ⟨v43, hv43, h⟩ := bind_some h
        exact x_to 9 [(4, .call [] [] (bl v43) [])] (ocons (Tspec_l20None (Y := Y) a0.1.2.2.2.2.1 _ hv43) onil) (Tspec_DeskOk_4 n (w64 (t3 + v41)) (!v43) a0 r h) (by kernel_rfl)
      · exact x_to 11 [] onil (Tspec_DeskOk_11 n (w64 (t3 + v41)) a0 r h) (by kernel_rfl)
  · refine x_frk 14 [] onil h (by kernel_rfl) (fun h => ?_) (fun h => ?_)
    · obtain ⟨v44, hv44, h⟩ := bind_some h
      exact x_to 9 [(4, .call [] [] (bl v44) [])] (ocons (Tspec_l20None (Y := Y) a0.1.2.2.2.2.1 _ hv44) onil) (Tspec_DeskOk_4 n (w64 (t3 + v41)) (!v44) a0 r h) (by kernel_rfl)
    · exact x_to 11 [] onil (Tspec_DeskOk_11 n (w64 (t3 + v41)) a0 r h) (by kernel_rfl)
def Dspec_DeskOk_2 (n : Nat) (t3 : Int) (t35 : Bool) (a0 : Dsk) : Option Bool :=
  frk t35 (some false) ((Dspec_l8Count n a0.1.2.2.1 301).bind fun v8 => frk a0.2.2.2.2.1 ((Dspec_SolidOk n a0.1.2.2.2.1).bind fun v9 => frk (!v9) (some false) (frk (!a0.2.2.2.2.1) ((Dspec_l20None a0.1.2.2.2.1).bind fun v10 => Dspec_DeskOk_3 n (w64 (t3 + v8)) (!v10) a0) (Dspec_DeskOk_12 n (w64 (t3 + v8)) a0))) (frk (!a0.2.2.2.2.1) ((Dspec_l20None a0.1.2.2.2.1).bind fun v45 => Dspec_DeskOk_3 n (w64 (t3 + v8)) (!v45) a0) (Dspec_DeskOk_12 n (w64 (t3 + v8)) a0)))
theorem Tspec_DeskOk_2 {Y} (n : Nat) (t3 : Int) (t35 : Bool) (a0 : Dsk) (r : Bool) (h : Dspec_DeskOk_2 n t3 t35 a0 = some r) : Wk Try.prog H Y 102 [.code (cp [1, 1, 0, 1, 0, 0, 1, 0, 0, 0, 1] (bodyOf Try.f102)), .code (cp [1, 1, 0, 1, 0, 0, 1, 0, 0, 1] (bodyOf Try.f102)), .blk 1, .code (cp [1, 1, 0, 1, 0, 0, 1, 1] (bodyOf Try.f102)), .lp (cp [1, 1, 0, 1, 0] (bodyOf Try.f102)), .blk 0, .code (cp [1, 1, 1] (bodyOf Try.f102))] (FinX Try.prog Try.f102 [] (bl r) []) ⟨[(1, .ptr 1 0), (3, i64 t3), (4, i64 2), (35, bl t35)], [(1, ⟨true, 0, (cT69 a0)⟩)]⟩ := by
  unfold Dspec_DeskOk_2 at h
  refine x_frk 0 [] onil h (by kernel_rfl) (fun h => ?_) (fun h => ?_)
  · replace h := Option.some.inj h; subst h
    exact x_end 4 [] [] onil onil (by kernel_rfl)
  · obtain ⟨v8, hv8, h⟩ := bind_some h
    refine x_frk 37 [(5, .call [] [] (i64 v8) [])] (ocons (Tspec_l8Count (Y := Y) n a0.1.2.2.1 301 _ hv8) onil) h (by kernel_rfl) (fun h => ?_) (fun h => ?_)
    · obtain ⟨v9, hv9, h⟩ := bind_some h
      refine x_frk 8 [(4, .call [] [] (bl v9) [])] (ocons (Tspec_SolidOk (Y := Y) n a0.1.2.2.2.1 _ hv9) onil) h (by kernel_rfl) (fun h => ?_) (fun h => ?_)
      · replace h := Option.some.inj h; subst h
        exact x_end 20 [] [] onil onil (by kernel_rfl)
      · refine x_frk 6 [] onil h (by kernel_rfl) (fun h => ?_) (fun h => ?_)
        · obtain ⟨v10, hv10, h⟩ := bind_some h
          exact x_to 9 [(4, .call [] [] (bl v10) [])] (ocons (Tspec_l20None (Y := Y) a0.1.2.2.2.1 _ hv10) onil) (Tspec_DeskOk_3 n (w64 (t3 + v8)) (!v10) a0 r h) (by kernel_rfl)
        · exact x_to 11 [] onil (Tspec_DeskOk_12 n (w64 (t3 + v8)) a0 r h) (by kernel_rfl)
    · refine x_frk 14 [] onil h (by kernel_rfl) (fun h => ?_) (fun h => ?_)
      · obtain ⟨v45, hv45, h⟩ := bind_some h
        exact x_to 9 [(4, .call [] [] (bl v45) [])] (ocons (Tspec_l20None (Y := Y) a0.1.2.2.2.1 _ hv45) onil) (Tspec_DeskOk_3 n (w64 (t3 + v8)) (!v45) a0 r h) (by kernel_rfl)
      · exact x_to 11 [] onil (Tspec_DeskOk_12 n (w64 (t3 + v8)) a0 r h) (by kernel_rfl)
def Dspec_DeskOk_13 (n : Nat) (t3 : Int) (a0 : Dsk) : Option Bool :=
  (Dspec_l8Count n a0.1.2.2.1 301).bind fun v46 => frk a0.2.2.2.2.1 ((Dspec_SolidOk n a0.1.2.2.2.1).bind fun v47 => frk (!v47) (some false) (frk (!a0.2.2.2.2.1) ((Dspec_l20None a0.1.2.2.2.1).bind fun v48 => Dspec_DeskOk_3 n (w64 (t3 + v46)) (!v48) a0) (Dspec_DeskOk_12 n (w64 (t3 + v46)) a0))) (frk (!a0.2.2.2.2.1) ((Dspec_l20None a0.1.2.2.2.1).bind fun v49 => Dspec_DeskOk_3 n (w64 (t3 + v46)) (!v49) a0) (Dspec_DeskOk_12 n (w64 (t3 + v46)) a0))
theorem Tspec_DeskOk_13 {Y} (n : Nat) (t3 : Int) (a0 : Dsk) (r : Bool) (h : Dspec_DeskOk_13 n t3 a0 = some r) : Wk Try.prog H Y 102 [.code (cp [1, 1, 0, 1, 0, 0, 1, 0, 0, 1] (bodyOf Try.f102)), .blk 1, .code (cp [1, 1, 0, 1, 0, 0, 1, 1] (bodyOf Try.f102)), .lp (cp [1, 1, 0, 1, 0] (bodyOf Try.f102)), .blk 0, .code (cp [1, 1, 1] (bodyOf Try.f102))] (FinX Try.prog Try.f102 [] (bl r) []) ⟨[(1, .ptr 1 0), (3, i64 t3), (4, i64 2)], [(1, ⟨true, 0, (cT69 a0)⟩)]⟩ := by
  unfold Dspec_DeskOk_13 at h
  obtain ⟨v46, hv46, h⟩ := bind_some h
  refine x_frk 36 [(5, .call [] [] (i64 v46) [])] (ocons (Tspec_l8Count (Y := Y) n a0.1.2.2.1 301 _ hv46) onil) h (by kernel_rfl) (fun h => ?_) (fun h => ?_)
  · obtain ⟨v47, hv47, h⟩ := bind_some h
    refine x_frk 8 [(4, .call [] [] (bl v47) [])] (ocons (Tspec_SolidOk (Y := Y) n a0.1.2.2.2.1 _ hv47) onil) h (by kernel_rfl) (fun h => ?_) (fun h => ?_)
    · replace h := Option.some.inj h; subst h
      exact x_end 20 [] [] onil onil (by kernel_rfl)
    · refine x_frk 6 [] onil h (by kernel_rfl) (fun h => ?_) (fun h => ?_)
      · obtain ⟨v48, hv48, h⟩ := bind_some h
        exact x_to 9 [(4, .call [] [] (bl v48) [])] (ocons (Tspec_l20None (Y := Y) a0.1.2.2.2.1 _ hv48) onil) (Tspec_DeskOk_3 n (w64 (t3 + v46)) (!v48) a0 r h) (by kernel_rfl)
      · exact x_to 11 [] onil (Tspec_DeskOk_12 n (w64 (t3 + v46)) a0 r h) (by kernel_rfl)
  · refine x_frk 14 [] onil h (by kernel_rfl) (fun h => ?_) (fun h => ?_)
    · obtain ⟨v49, hv49, h⟩ := bind_some h
      exact x_to 9 [(4, .call [] [] (bl v49) [])] (ocons (Tspec_l20None (Y := Y) a0.1.2.2.2.1 _ hv49) onil) (Tspec_DeskOk_3 n (w64 (t3 + v46)) (!v49) a0 r h) (by kernel_rfl)
    · exact x_to 11 [] onil (Tspec_DeskOk_12 n (w64 (t3 + v46)) a0 r h) (by kernel_rfl)
def Dspec_DeskOk_1 (n : Nat) (t3 : Int) (t35 : Bool) (a0 : Dsk) : Option Bool :=
  frk t35 (some false) ((Dspec_l8Count n a0.1.2.1 301).bind fun v5 => frk a0.2.2.2.1 ((Dspec_SolidOk n a0.1.2.2.1).bind fun v6 => frk (!v6) (some false) (frk (!a0.2.2.2.1) ((Dspec_l20None a0.1.2.2.1).bind fun v7 => Dspec_DeskOk_2 n (w64 (t3 + v5)) (!v7) a0) (Dspec_DeskOk_13 n (w64 (t3 + v5)) a0))) (frk (!a0.2.2.2.1) ((Dspec_l20None a0.1.2.2.1).bind fun v50 => Dspec_DeskOk_2 n (w64 (t3 + v5)) (!v50) a0) (Dspec_DeskOk_13 n (w64 (t3 + v5)) a0)))
theorem Tspec_DeskOk_1 {Y} (n : Nat) (t3 : Int) (t35 : Bool) (a0 : Dsk) (r : Bool) (h : Dspec_DeskOk_1 n t3 t35 a0 = some r) : Wk Try.prog H Y 102 [.code (cp [1, 1, 0, 1, 0, 0, 1, 0, 0, 0, 1] (bodyOf Try.f102)), .code (cp [1, 1, 0, 1, 0, 0, 1, 0, 0, 1] (bodyOf Try.f102)), .blk 1, .code (cp [1, 1, 0, 1, 0, 0, 1, 1] (bodyOf Try.f102)), .lp (cp [1, 1, 0, 1, 0] (bodyOf Try.f102)), .blk 0, .code (cp [1, 1, 1] (bodyOf Try.f102))] (FinX Try.prog Try.f102 [] (bl r) []) ⟨[(1, .ptr 1 0), (3, i64 t3), (4, i64 1), (35, bl t35)], [(1, ⟨true, 0, (cT69 a0)⟩)]⟩ := by
  unfold Dspec_DeskOk_1 at h
  refine x_frk 0 [] onil h (by kernel_rfl) (fun h => ?_) (fun h => ?_)
  · replace h := Option.some.inj h; subst h
    exact x_end 4 [] [] onil onil (by kernel_rfl)
  · obtain ⟨v5, hv5, h⟩ := bind_some h
    refine x_frk 37 [(5, .call [] [] (i64 v5) [])] (ocons (Tspec_l8Count (Y := Y) n a0.1.2.1 301 _ hv5) onil) h (by kernel_rfl) (fun h => ?_) (fun h => ?_)
    · obtain ⟨v6, hv6, h⟩ := bind_some h
      refine x_frk 8 [(4, .call [] [] (bl v6) [])] (ocons (Tspec_SolidOk (Y := Y) n a0.1.2.2.1 _ hv6) onil) h (by kernel_rfl) (fun h => ?_) (fun h => ?_)
      · replace h := Option.some.inj h; subst h
        exact x_end 20 [] [] onil onil (by kernel_rfl)
      · refine x_frk 6 [] onil h (by kernel_rfl) (fun h => ?_) (fun h => ?_)
        · obtain ⟨v7, hv7, h⟩ := bind_some h
          exact x_to 9 [(4, .call [] [] (bl v7) [])] (ocons (Tspec_l20None (Y := Y) a0.1.2.2.1 _ hv7) onil) (Tspec_DeskOk_2 n (w64 (t3 + v5)) (!v7) a0 r h) (by kernel_rfl)
        · exact x_to 11 [] onil (Tspec_DeskOk_13 n (w64 (t3 + v5)) a0 r h) (by kernel_rfl)
    · refine x_frk 14 [] onil h (by kernel_rfl) (fun h => ?_) (fun h => ?_)
      · obtain ⟨v50, hv50, h⟩ := bind_some h
        exact x_to 9 [(4, .call [] [] (bl v50) [])] (ocons (Tspec_l20None (Y := Y) a0.1.2.2.1 _ hv50) onil) (Tspec_DeskOk_2 n (w64 (t3 + v5)) (!v50) a0 r h) (by kernel_rfl)
      · exact x_to 11 [] onil (Tspec_DeskOk_13 n (w64 (t3 + v5)) a0 r h) (by kernel_rfl)
def Dspec_DeskOk_14 (n : Nat) (t3 : Int) (a0 : Dsk) : Option Bool :=
  (Dspec_l8Count n a0.1.2.1 301).bind fun v51 => frk a0.2.2.2.1 ((Dspec_SolidOk n a0.1.2.2.1).bind fun v52 => frk (!v52) (some false) (frk (!a0.2.2.2.1) ((Dspec_l20None a0.1.2.2.1).bind fun v53 => Dspec_DeskOk_2 n (w64 (t3 + v51)) (!v53) a0) (Dspec_DeskOk_13 n (w64 (t3 + v51)) a0))) (frk (!a0.2.2.2.1) ((Dspec_l20None a0.1.2.2.1).bind fun v54 => Dspec_DeskOk_2 n (w64 (t3 + v51)) (!v54) a0) (Dspec_DeskOk_13 n (w64 (t3 + v51)) a0))
theorem Tspec_DeskOk_14 {Y} (n : Nat) (t3 : Int) (a0 : Dsk) (r : Bool) (h : Dspec_DeskOk_14 n t3 a0 = some r) : Wk Try.prog H Y 102 [.code (cp [1, 1, 0, 1, 0, 0, 1, 0, 0, 1] (bodyOf Try.f102)), .blk 1, .code (cp [1, 1, 0, 1, 0, 0, 1, 1] (bodyOf Try.f102)), .lp (cp [1, 1, 0, 1, 0] (bodyOf Try.f102)), .blk 0, .code (cp [1, 1, 1] (bodyOf Try.f102))] (FinX Try.prog Try.f102 [] (bl r) []) ⟨[(1, .ptr 1 0), (3, i64 t3), (4, i64 1)], [(1, ⟨true, 0, (cT69 a0)⟩)]⟩ := by
  unfold Dspec_DeskOk_14 at h
  obtain ⟨v51, hv51, h⟩ := bind_some h
  refine x_frk 36 [(5, .call [] [] (i64 v51) [])] (ocons (Tspec_l8Count (Y := Y) n a0.1.2.1 301 _ hv51) onil) h (by kernel_rfl) (fun h => ?_) (fun h => ?_)
  · obtain ⟨v52, hv52, h⟩ := bind_some h
    refine x_frk 8 [(4, .call [] [] (bl v52) [])] (ocons (Tspec_SolidOk (Y := Y) n a0.1.2.2.1 _ hv52) onil) h (by kernel_rfl) (fun h => ?_) (fun h => ?_)
    · replace h := Option.some.inj h; subst h
      exact x_end 20 [] [] onil onil (by kernel_rfl)
    · refine x_frk 6 [] onil h (by kernel_rfl) (fun h => ?_) (fun h => ?_)
      · obtain ⟨v53, hv53, h⟩ := bind_some h
        exact x_to 9 [(4, .call [] [] (bl v53) [])] (ocons (Tspec_l20None (Y := Y) a0.1.2.2.1 _ hv53) onil) (Tspec_DeskOk_2 n (w64 (t3 + v51)) (!v53) a0 r h) (by kernel_rfl)
      · exact x_to 11 [] onil (Tspec_DeskOk_13 n (w64 (t3 + v51)) a0 r h) (by kernel_rfl)
  · refine x_frk 14 [] onil h (by kernel_rfl) (fun h => ?_) (fun h => ?_)
    · obtain ⟨v54, hv54, h⟩ := bind_some h
      exact x_to 9 [(4, .call [] [] (bl v54) [])] (ocons (Tspec_l20None (Y := Y) a0.1.2.2.1 _ hv54) onil) (Tspec_DeskOk_2 n (w64 (t3 + v51)) (!v54) a0 r h) (by kernel_rfl)
    · exact x_to 11 [] onil (Tspec_DeskOk_13 n (w64 (t3 + v51)) a0 r h) (by kernel_rfl)
def Dspec_DeskOk_0 (n : Nat) (t35 : Bool) (a0 : Dsk) : Option Bool :=
  frk t35 (some false) ((Dspec_l8Count n a0.1.1 301).bind fun v2 => frk a0.2.2.1 ((Dspec_SolidOk n a0.1.2.1).bind fun v3 => frk (!v3) (some false) (frk (!a0.2.2.1) ((Dspec_l20None a0.1.2.1).bind fun v4 => Dspec_DeskOk_1 n (w64 (0 + v2)) (!v4) a0) (Dspec_DeskOk_14 n (w64 (0 + v2)) a0))) (frk (!a0.2.2.1) ((Dspec_l20None a0.1.2.1).bind fun v55 => Dspec_DeskOk_1 n (w64 (0 + v2)) (!v55) a0) (Dspec_DeskOk_14 n (w64 (0 + v2)) a0)))
theorem Tspec_DeskOk_0 {Y} (n : Nat) (t35 : Bool) (a0 : Dsk) (r : Bool) (h : Dspec_DeskOk_0 n t35 a0 = some r) : Wk Try.prog H Y 102 [.code (cp [1, 1, 0, 1, 0, 0, 1, 0, 0, 0, 1] (bodyOf Try.f102)), .code (cp [1, 1, 0, 1, 0, 0, 1, 0, 0, 1] (bodyOf Try.f102)), .blk 1, .code (cp [1, 1, 0, 1, 0, 0, 1, 1] (bodyOf Try.f102)), .lp (cp [1, 1, 0, 1, 0] (bodyOf Try.f102)), .blk 0, .code (cp [1, 1, 1] (bodyOf Try.f102))] (FinX Try.prog Try.f102 [] (bl r) []) ⟨[(1, .ptr 1 0), (3, i64 0), (4, i64 0), (35, bl t35)], [(1, ⟨true, 0, (cT69 a0)⟩)]⟩ := by
  unfold Dspec_DeskOk_0 at h
  refine x_frk 0 [] onil h (by kernel_rfl) (fun h => ?_) (fun h => ?_)
  · replace h := Option.some.inj h; subst h
    exact x_end 4 [] [] onil onil (by kernel_rfl)
  · obtain ⟨v2, hv2, h⟩ := bind_some h
    refine x_frk 37 [(5, .call [] [] (i64 v2) [])] (ocons (Tspec_l8Count (Y := Y) n a0.1.1 301 _ hv2) onil) h (by kernel_rfl) (fun h => ?_) (fun h => ?_)
    · obtain ⟨v3, hv3, h⟩ := bind_some h
      refine x_frk 8 [(4, .call [] [] (bl v3) [])] (ocons (Tspec_SolidOk (Y := Y) n a0.1.2.1 _ hv3) onil) h (by kernel_rfl) (fun h => ?_) (fun h => ?_)
      · replace h := Option.some.inj h; subst h
        exact x_end 20 [] [] onil onil (by kernel_rfl)
      · refine x_frk 6 [] onil h (by kernel_rfl) (fun h => ?_) (fun h => ?_)
        · obtain ⟨v4, hv4, h⟩ := bind_some h
          exact x_to 9 [(4, .call [] [] (bl v4) [])] (ocons (Tspec_l20None (Y := Y) a0.1.2.1 _ hv4) onil) (Tspec_DeskOk_1 n (w64 (0 + v2)) (!v4) a0 r h) (by kernel_rfl)
        · exact x_to 11 [] onil (Tspec_DeskOk_14 n (w64 (0 + v2)) a0 r h) (by kernel_rfl)
    · refine x_frk 14 [] onil h (by kernel_rfl) (fun h => ?_) (fun h => ?_)
      · obtain ⟨v55, hv55, h⟩ := bind_some h
        exact x_to 9 [(4, .call [] [] (bl v55) [])] (ocons (Tspec_l20None (Y := Y) a0.1.2.1 _ hv55) onil) (Tspec_DeskOk_1 n (w64 (0 + v2)) (!v55) a0 r h) (by kernel_rfl)
      · exact x_to 11 [] onil (Tspec_DeskOk_14 n (w64 (0 + v2)) a0 r h) (by kernel_rfl)
def Dspec_DeskOk_15 (n : Nat) (a0 : Dsk) : Option Bool :=
  (Dspec_l8Count n a0.1.1 301).bind fun v56 => frk a0.2.2.1 ((Dspec_SolidOk n a0.1.2.1).bind fun v57 => frk (!v57) (some false) (frk (!a0.2.2.1) ((Dspec_l20None a0.1.2.1).bind fun v58 => Dspec_DeskOk_1 n (w64 (0 + v56)) (!v58) a0) (Dspec_DeskOk_14 n (w64 (0 + v56)) a0))) (frk (!a0.2.2.1) ((Dspec_l20None a0.1.2.1).bind fun v59 => Dspec_DeskOk_1 n (w64 (0 + v56)) (!v59) a0) (Dspec_DeskOk_14 n (w64 (0 + v56)) a0))
theorem Tspec_DeskOk_15 {Y} (n : Nat) (a0 : Dsk) (r : Bool) (h : Dspec_DeskOk_15 n a0 = some r) : Wk Try.prog H Y 102 [.code (cp [1, 1, 0, 1, 0, 0, 1, 0, 0, 1] (bodyOf Try.f102)), .blk 1, .code (cp [1, 1, 0, 1, 0, 0, 1, 1] (bodyOf Try.f102)), .lp (cp [1, 1, 0, 1, 0] (bodyOf Try.f102)), .blk 0, .code (cp [1, 1, 1] (bodyOf Try.f102))] (FinX Try.prog Try.f102 [] (bl r) []) ⟨[(1, .ptr 1 0), (3, i64 0), (4, i64 0)], [(1, ⟨true, 0, (cT69 a0)⟩)]⟩ := by
  unfold Dspec_DeskOk_15 at h
  obtain ⟨v56, hv56, h⟩ := bind_some h
  refine x_frk 36 [(5, .call [] [] (i64 v56) [])] (ocons (Tspec_l8Count (Y := Y) n a0.1.1 301 _ hv56) onil) h (by kernel_rfl) (fun h => ?_) (fun h => ?_)
  · obtain ⟨v57, hv57, h⟩ := bind_some h
    refine x_frk 8 [(4, .call [] [] (bl v57) [])] (ocons (Tspec_SolidOk (Y := Y) n a0.1.2.1 _ hv57) onil) h (by kernel_rfl) (fun h => ?_) (fun h => ?_)
    · replace h := Option.some.inj h; subst h
      exact x_end 20 [] [] onil onil (by kernel_rfl)
    · refine x_frk 6 [] onil h (by kernel_rfl) (fun h => ?_) (fun h => ?_)
      · obtain ⟨v58, hv58, h⟩ := bind_some h
        exact x_to 9 [(4, .call [] [] (bl v58) [])] (ocons (Tspec_l20None (Y := Y) a0.1.2.1 _ hv58) onil) (Tspec_DeskOk_1 n (w64 (0 + v56)) (!v58) a0 r h) (by kernel_rfl)
      · exact x_to 11 [] onil (Tspec_DeskOk_14 n (w64 (0 + v56)) a0 r h) (by kernel_rfl)
  · refine x_frk 14 [] onil h (by kernel_rfl) (fun h => ?_) (fun h => ?_)
    · obtain ⟨v59, hv59, h⟩ := bind_some h
      exact x_to 9 [(4, .call [] [] (bl v59) [])] (ocons (Tspec_l20None (Y := Y) a0.1.2.1 _ hv59) onil) (Tspec_DeskOk_1 n (w64 (0 + v56)) (!v59) a0 r h) (by kernel_rfl)
    · exact x_to 11 [] onil (Tspec_DeskOk_14 n (w64 (0 + v56)) a0 r h) (by kernel_rfl)
def Dspec_DeskOk (n : Nat) (a0 : Dsk) : Option Bool :=
  frk a0.2.1 ((Dspec_SolidOk n a0.1.1).bind fun v0 => frk (!v0) (some false) (frk (!a0.2.1) ((Dspec_l20None a0.1.1).bind fun v1 => Dspec_DeskOk_0 n (!v1) a0) (Dspec_DeskOk_15 n a0))) (frk (!a0.2.1) ((Dspec_l20None a0.1.1).bind fun v60 => Dspec_DeskOk_0 n (!v60) a0) (Dspec_DeskOk_15 n a0))
theorem Tspec_DeskOk {Y} (n : Nat) (a0 : Dsk) (r : Bool) (h : Dspec_DeskOk n a0 = some r) : Big Try.prog H Y (.call 102 [.agg (cT69 a0)] (lk []) (bl r) (lk [])) := by
  unfold Dspec_DeskOk at h
  refine x_call (fn := Try.f102) (c := bodyOf Try.f102) (bs0 := []) Try.func102 (by kernel_rfl) (by kernel_rfl) ?_
  refine x_frk 34 [] onil h (by kernel_rfl) (fun h => ?_) (fun h => ?_)
  · obtain ⟨v0, hv0, h⟩ := bind_some h
    refine x_frk 8 [(4, .call [] [] (bl v0) [])] (ocons (Tspec_SolidOk (Y := Y) n a0.1.1 _ hv0) onil) h (by kernel_rfl) (fun h => ?_) (fun h => ?_)
    · replace h := Option.some.inj h; subst h
      exact x_end 20 [] [] onil onil (by kernel_rfl)
    · refine x_frk 6 [] onil h (by kernel_rfl) (fun h => ?_) (fun h => ?_)
      · obtain ⟨v1, hv1, h⟩ := bind_some h
        exact x_to 9 [(4, .call [] [] (bl v1) [])] (ocons (Tspec_l20None (Y := Y) a0.1.1 _ hv1) onil) (Tspec_DeskOk_0 n (!v1) a0 r h) (by kernel_rfl)
      · exact x_to 11 [] onil (Tspec_DeskOk_15 n a0 r h) (by kernel_rfl)
  · refine x_frk 14 [] onil h (by kernel_rfl) (fun h => ?_) (fun h => ?_)
    · obtain ⟨v60, hv60, h⟩ := bind_some h
      exact x_to 9 [(4, .call [] [] (bl v60) [])] (ocons (Tspec_l20None (Y := Y) a0.1.1 _ hv60) onil) (Tspec_DeskOk_0 n (!v60) a0 r h) (by kernel_rfl)
    · exact x_to 11 [] onil (Tspec_DeskOk_15 n a0 r h) (by kernel_rfl)
/-! spec.l8Copy -/
def Dspec_l8Copy_0 (_n : Nat) (self : Sol → Option Sol) (_b1_0 : Bool) (_b1_1 _b1_2 _b1_3 _b1_4 : Int) (b1_5 : List Sol) (_b2_0 : Bool) (_b2_1 _b2_2 _b2_3 _b2_4 : Int) (b3_0 : Bool) (b3_1 b3_2 b3_3 b3_4 : Int) (rec0 : (Int × List Sol) → Option Sol) (a : (Int × List Sol)) : Option Sol :=
  match a with
  | (t4, l635) => frk (decide (t4 < (b1_5.length : Int))) ((lget b1_5 t4).bind fun v0 => (self v0).bind fun v1 => chk (apB 64 (l635.length + 1)) (rec0 (w64 (t4 + 1), (l635 ++ [v1])))) (some (Sol.mk b3_0 (Pl.mk b3_1 b3_2 b3_3 b3_4) l635))
theorem Tspec_l8Copy_0 {Y} (n : Nat) (self : Sol → Option Sol) (hself : ∀ (a : Sol) (r : Sol), self a = some r → Big Try.prog H Y (.call 69 [.agg [bl a.inn, i64 a.pl.A, i64 a.pl.B, i64 a.pl.C, i64 a.pl.D, .sl false 6 a.kids.length ((eSol false).f a.kids)]] (lk []) (.agg [bl r.inn, i64 r.pl.A, i64 r.pl.B, i64 r.pl.C, i64 r.pl.D, .sl true 6 r.kids.length ((eSol true).f r.kids)]) (lk []))) (b1_0 : Bool) (b1_1 b1_2 b1_3 b1_4 : Int) (b1_5 : List Sol) (b2_0 : Bool) (b2_1 b2_2 b2_3 b2_4 : Int) (b3_0 : Bool) (b3_1 b3_2 b3_3 b3_4 : Int) : ∀ (m : Nat) (a : (Int × List Sol)) (r : Sol), loopN (Dspec_l8Copy_0 n self b1_0 b1_1 b1_2 b1_3 b1_4 b1_5 b2_0 b2_1 b2_2 b2_3 b2_4 b3_0 b3_1 b3_2 b3_3 b3_4) m a = some r → Wk Try.prog H Y 69 [.code (cp [1, 1, 0, 1, 0] (bodyOf Try.f69)), .blk 0, .code (cp [1, 1, 1] (bodyOf Try.f69))] (FinX Try.prog Try.f69 [] (.agg [bl r.inn, i64 r.pl.A, i64 r.pl.B, i64 r.pl.C, i64 r.pl.D, .sl true 6 r.kids.length ((eSol true).f r.kids)]) []) ⟨[(1, .ptr 1 0), (2, .ptr 2 0), (3, .ptr 3 0), (4, i64 a.1)], [(1, ⟨true, 0, [bl b1_0, i64 b1_1, i64 b1_2, i64 b1_3, i64 b1_4, .sl false 6 b1_5.length ((eSol false).f b1_5)]⟩), (2, ⟨true, 0, [bl b2_0, i64 b2_1, i64 b2_2, i64 b2_3, i64 b2_4, .nil]⟩), (3, ⟨true, 0, [bl b3_0, i64 b3_1, i64 b3_2, i64 b3_3, i64 b3_4, .msl 635 a.2.length]⟩), (635, ⟨true, 6, (eSol true).f a.2⟩)]⟩ := by
  refine loopN_ind (fun _rec0 hrec0 a r h => ?_)
  obtain ⟨t4, l635⟩ := a
  unfold Dspec_l8Copy_0 at h
  refine x_frk 10 [] onil h (by kernel_rfl) (fun h => ?_) (fun h => ?_)
  · obtain ⟨v0, hv0, h⟩ := bind_some h
    obtain ⟨v1, hv1, h⟩ := bind_some h
    obtain ⟨c2, h⟩ := chk_some h
    exact x_to 26 [(5, .val (.cptr ((eSol false).c v0 ++ (eSol false).f ((b1_5).drop (Int.toNat t4 + 1))))), (1, .call [] [] (.agg [bl v1.inn, i64 v1.pl.A, i64 v1.pl.B, i64 v1.pl.C, i64 v1.pl.D, .sl true 6 v1.kids.length ((eSol true).f v1.kids)]) []), (1, .fixb 25 ⟨true, 6, (eSol true).f [v1]⟩), (0, .app true (List.length (l635 ++ [v1])) ((eSol true).f (l635 ++ [v1]))), (5, .ren 26 635)] (ocons (ix (eSol false) hv0) (ocons (hself v0 _ hv1) (ocons (boxSol true true [v1]) (ocons (len_row' (L := l635) (eSol true)) (ocons (app_one (L := l635) (M := [v1]) (eSol true) c2) (ocons (app_new (L := l635) (M := [v1]) (eSol true)) (ocons (app_m (L := l635) (M := [v1]) (eSol true) rfl) (ocons (len_row' (L := [v1]) (eSol true)) (ocons (show 26 < 1000 ∧ 635 < 1000 by decide) onil))))))))) (hrec0 (w64 (t4 + 1), (l635 ++ [v1])) r h) (by kernel_rfl)
  · replace h := Option.some.inj h; subst h
    exact x_end 6 [] [] onil (ocons (len_row (L := l635) (eSol true)) onil) (by kernel_rfl)
def Dspec_l8Copy_b (n : Nat) (self : Sol → Option Sol) (a : Sol) : Option Sol :=
  match a with
  | a0 => loopN (Dspec_l8Copy_0 n self a0.inn a0.pl.A a0.pl.B a0.pl.C a0.pl.D a0.kids false 0 0 0 0 a0.inn a0.pl.A a0.pl.B a0.pl.C a0.pl.D) n (0, [])
def Dspec_l8Copy (n : Nat) (a0 : Sol) : Option Sol := loopN (Dspec_l8Copy_b n) n a0
theorem Tspec_l8Copy_b {Y} (n : Nat) : ∀ (m : Nat) (a : Sol) (r : Sol), loopN (Dspec_l8Copy_b n) m a = some r → ∀ (_ : Unit), Big Try.prog H Y (.call 69 [.agg [bl a.inn, i64 a.pl.A, i64 a.pl.B, i64 a.pl.C, i64 a.pl.D, .sl false 6 a.kids.length ((eSol false).f a.kids)]] (lk []) (.agg [bl r.inn, i64 r.pl.A, i64 r.pl.B, i64 r.pl.C, i64 r.pl.D, .sl true 6 r.kids.length ((eSol true).f r.kids)]) (lk [])) := by
  refine loopN_ind (fun self hs a r h => ?_)
  have hself : ∀ (a : Sol) (r : Sol), self a = some r → Big Try.prog H Y (.call 69 [.agg [bl a.inn, i64 a.pl.A, i64 a.pl.B, i64 a.pl.C, i64 a.pl.D, .sl false 6 a.kids.length ((eSol false).f a.kids)]] (lk []) (.agg [bl r.inn, i64 r.pl.A, i64 r.pl.B, i64 r.pl.C, i64 r.pl.D, .sl true 6 r.kids.length ((eSol true).f r.kids)]) (lk [])) := fun a r h => hs a r h ()
  intro _
  obtain ⟨a0, rfl⟩ : ∃ x, x = a := ⟨a, rfl⟩
  unfold Dspec_l8Copy_b at h
  refine x_call (fn := Try.f69) (c := bodyOf Try.f69) (bs0 := []) Try.func69 (by kernel_rfl) (by kernel_rfl) ?_
  exact x_to 22 [(9, .virtc 3 ⟨true, 0, [bl a0.inn, i64 a0.pl.A, i64 a0.pl.B, i64 a0.pl.C, i64 a0.pl.D, .nil]⟩ 5 635 6)] (ocons (rflB ⟨true, 0, [bl a0.inn, i64 a0.pl.A, i64 a0.pl.B, i64 a0.pl.C, i64 a0.pl.D, .nil]⟩) (ocons (⟨rfl, rfl, by decide, by decide, by decide⟩ : (⟨true, 0, [bl a0.inn, i64 a0.pl.A, i64 a0.pl.B, i64 a0.pl.C, i64 a0.pl.D, .nil]⟩ : Box).cs[5]? = some .nil ∧ (⟨true, 0, [bl a0.inn, i64 a0.pl.A, i64 a0.pl.B, i64 a0.pl.C, i64 a0.pl.D, .nil]⟩ : Box).sz = 0 ∧ 3 ≠ 635 ∧ 635 < 1000 ∧ 6 ≠ 0) onil)) (Tspec_l8Copy_0 n self hself a0.inn a0.pl.A a0.pl.B a0.pl.C a0.pl.D a0.kids false 0 0 0 0 a0.inn a0.pl.A a0.pl.B a0.pl.C a0.pl.D n (0, []) r h) (by kernel_rfl)
theorem Tspec_l8Copy {Y} (n : Nat) (a0 : Sol) (r : Sol) (h : Dspec_l8Copy n a0 = some r) : Big Try.prog H Y (.call 69 [.agg [bl a0.inn, i64 a0.pl.A, i64 a0.pl.B, i64 a0.pl.C, i64 a0.pl.D, .sl false 6 a0.kids.length ((eSol false).f a0.kids)]] (lk []) (.agg [bl r.inn, i64 r.pl.A, i64 r.pl.B, i64 r.pl.C, i64 r.pl.D, .sl true 6 r.kids.length ((eSol true).f r.kids)]) (lk [])) := Tspec_l8Copy_b n n a0 r h ()
/-! spec.l20Copy -/
def Dspec_l20Copy (n : Nat) (a0 : Dsk) : Option Dsk :=
  (Dspec_l8Copy n a0.1.1).bind fun v0 => (Dspec_l8Copy n a0.1.2.1).bind fun v1 => (Dspec_l8Copy n a0.1.2.2.1).bind fun v2 => (Dspec_l8Copy n a0.1.2.2.2.1).bind fun v3 => (Dspec_l8Copy n a0.1.2.2.2.2.1).bind fun v4 => (Dspec_l8Copy n a0.1.2.2.2.2.2.1).bind fun v5 => (Dspec_l8Copy n a0.1.2.2.2.2.2.2.1).bind fun v6 => (Dspec_l8Copy n a0.1.2.2.2.2.2.2.2).bind fun v7 => some ((v0, v1, v2, v3, v4, v5, v6, v7), a0.2)
theorem Tspec_l20Copy {Y} (n : Nat) (a0 : Dsk) (r : Dsk) (h : Dspec_l20Copy n a0 = some r) : Big Try.prog H Y (.call 101 [.agg (cT69 a0)] (lk []) (.agg (cT69o r)) (lk [])) := by
  unfold Dspec_l20Copy at h
  refine x_call (fn := Try.f101) (c := bodyOf Try.f101) (bs0 := []) Try.func101 (by kernel_rfl) (by kernel_rfl) ?_
  obtain ⟨v0, hv0, h⟩ := bind_some h
  obtain ⟨v1, hv1, h⟩ := bind_some h
  obtain ⟨v2, hv2, h⟩ := bind_some h
  obtain ⟨v3, hv3, h⟩ := bind_some h
  obtain ⟨v4, hv4, h⟩ := bind_some h
  obtain ⟨v5, hv5, h⟩ := bind_some h
  obtain ⟨v6, hv6, h⟩ := bind_some h
  obtain ⟨v7, hv7, h⟩ := bind_some h
  replace h := Option.some.inj h; subst h
  exact x_end 263 [(13, .call [] [] (.agg [bl v0.inn, i64 v0.pl.A, i64 v0.pl.B, i64 v0.pl.C, i64 v0.pl.D, .sl true 6 v0.kids.length ((eSol true).f v0.kids)]) []), (13, .call [] [] (.agg [bl v1.inn, i64 v1.pl.A, i64 v1.pl.B, i64 v1.pl.C, i64 v1.pl.D, .sl true 6 v1.kids.length ((eSol true).f v1.kids)]) []), (13, .call [] [] (.agg [bl v2.inn, i64 v2.pl.A, i64 v2.pl.B, i64 v2.pl.C, i64 v2.pl.D, .sl true 6 v2.kids.length ((eSol true).f v2.kids)]) []), (13, .call [] [] (.agg [bl v3.inn, i64 v3.pl.A, i64 v3.pl.B, i64 v3.pl.C, i64 v3.pl.D, .sl true 6 v3.kids.length ((eSol true).f v3.kids)]) []), (13, .call [] [] (.agg [bl v4.inn, i64 v4.pl.A, i64 v4.pl.B, i64 v4.pl.C, i64 v4.pl.D, .sl true 6 v4.kids.length ((eSol true).f v4.kids)]) []), (13, .call [] [] (.agg [bl v5.inn, i64 v5.pl.A, i64 v5.pl.B, i64 v5.pl.C, i64 v5.pl.D, .sl true 6 v5.kids.length ((eSol true).f v5.kids)]) []), (13, .call [] [] (.agg [bl v6.inn, i64 v6.pl.A, i64 v6.pl.B, i64 v6.pl.C, i64 v6.pl.D, .sl true 6 v6.kids.length ((eSol true).f v6.kids)]) []), (13, .call [] [] (.agg [bl v7.inn, i64 v7.pl.A, i64 v7.pl.B, i64 v7.pl.C, i64 v7.pl.D, .sl true 6 v7.kids.length ((eSol true).f v7.kids)]) [])] [] (ocons (Tspec_l8Copy (Y := Y) n a0.1.1 _ hv0) (ocons (Tspec_l8Copy (Y := Y) n a0.1.2.1 _ hv1) (ocons (Tspec_l8Copy (Y := Y) n a0.1.2.2.1 _ hv2) (ocons (Tspec_l8Copy (Y := Y) n a0.1.2.2.2.1 _ hv3) (ocons (Tspec_l8Copy (Y := Y) n a0.1.2.2.2.2.1 _ hv4) (ocons (Tspec_l8Copy (Y := Y) n a0.1.2.2.2.2.2.1 _ hv5) (ocons (Tspec_l8Copy (Y := Y) n a0.1.2.2.2.2.2.2.1 _ hv6) (ocons (Tspec_l8Copy (Y := Y) n a0.1.2.2.2.2.2.2.2 _ hv7) onil)))))))) onil (by kernel_rfl)
/-! spec.l20At -/
def Dspec_l20At (a0 : Int) : Option Bool :=
  (Dspec_l1In a0 0 7).bind fun v0 => some v0
theorem Tspec_l20At {Y} (a0 : Int) (r : Bool) (h : Dspec_l20At a0 = some r) : Big Try.prog H Y (.call 103 [i64 a0] (lk []) (bl r) (lk [])) := by
  unfold Dspec_l20At at h
  refine x_call (fn := Try.f103) (c := bodyOf Try.f103) (bs0 := []) Try.func103 (by kernel_rfl) (by kernel_rfl) ?_
  obtain ⟨v0, hv0, h⟩ := bind_some h
  replace h := Option.some.inj h; subst h
  exact x_end 10 [(2, .call [] [] (bl v0) [])] [] (ocons (Tspec_l1In (Y := Y) a0 0 7 _ hv0) onil) onil (by kernel_rfl)
/-! spec.l20Keeps -/
def Dspec_l20Keeps_0 (n : Nat) (a0 : Dsk) (b8_0 : Bool) (b8_1 b8_2 b8_3 b8_4 : Int) (b8_5 : List Sol) (b8_6 : Bool) (b8_7 b8_8 b8_9 b8_10 : Int) (b8_11 : List Sol) (b8_12 : Bool) (b8_13 b8_14 b8_15 b8_16 : Int) (b8_17 : List Sol) (b8_18 : Bool) (b8_19 b8_20 b8_21 b8_22 : Int) (b8_23 : List Sol) (b8_24 : Bool) (b8_25 b8_26 b8_27 b8_28 : Int) (b8_29 : List Sol) (b8_30 : Bool) (b8_31 b8_32 b8_33 b8_34 : Int) (b8_35 : List Sol) (b8_36 : Bool) (b8_37 b8_38 b8_39 b8_40 : Int) (b8_41 : List Sol) (b8_42 : Bool) (b8_43 b8_44 b8_45 b8_46 : Int) (b8_47 : List Sol) (b8_48 b8_49 b8_50 b8_51 b8_52 b8_53 b8_54 b8_55 : Bool) : Option (Dsk × Int) :=
  (Dspec_DeskOk n (((Sol.mk b8_0 (Pl.mk b8_1 b8_2 b8_3 b8_4) b8_5), (Sol.mk b8_6 (Pl.mk b8_7 b8_8 b8_9 b8_10) b8_11), (Sol.mk b8_12 (Pl.mk b8_13 b8_14 b8_15 b8_16) b8_17), (Sol.mk b8_18 (Pl.mk b8_19 b8_20 b8_21 b8_22) b8_23), (Sol.mk b8_24 (Pl.mk b8_25 b8_26 b8_27 b8_28) b8_29), (Sol.mk b8_30 (Pl.mk b8_31 b8_32 b8_33 b8_34) b8_35), (Sol.mk b8_36 (Pl.mk b8_37 b8_38 b8_39 b8_40) b8_41), (Sol.mk b8_42 (Pl.mk b8_43 b8_44 b8_45 b8_46) b8_47)), (b8_48, b8_49, b8_50, b8_51, b8_52, b8_53, b8_54, b8_55))).bind fun v2 => frk (!v2) ((Dspec_l20Copy n a0).bind fun v3 => some (v3, 3)) (some ((((Sol.mk b8_0 (Pl.mk b8_1 b8_2 b8_3 b8_4) b8_5), (Sol.mk b8_6 (Pl.mk b8_7 b8_8 b8_9 b8_10) b8_11), (Sol.mk b8_12 (Pl.mk b8_13 b8_14 b8_15 b8_16) b8_17), (Sol.mk b8_18 (Pl.mk b8_19 b8_20 b8_21 b8_22) b8_23), (Sol.mk b8_24 (Pl.mk b8_25 b8_26 b8_27 b8_28) b8_29), (Sol.mk b8_30 (Pl.mk b8_31 b8_32 b8_33 b8_34) b8_35), (Sol.mk b8_36 (Pl.mk b8_37 b8_38 b8_39 b8_40) b8_41), (Sol.mk b8_42 (Pl.mk b8_43 b8_44 b8_45 b8_46) b8_47)), (b8_48, b8_49, b8_50, b8_51, b8_52, b8_53, b8_54, b8_55)), 0))
theorem Tspec_l20Keeps_0 {Y} (n : Nat) (a0 : Dsk) (b8_0 : Bool) (b8_1 b8_2 b8_3 b8_4 : Int) (b8_5 : List Sol) (b8_6 : Bool) (b8_7 b8_8 b8_9 b8_10 : Int) (b8_11 : List Sol) (b8_12 : Bool) (b8_13 b8_14 b8_15 b8_16 : Int) (b8_17 : List Sol) (b8_18 : Bool) (b8_19 b8_20 b8_21 b8_22 : Int) (b8_23 : List Sol) (b8_24 : Bool) (b8_25 b8_26 b8_27 b8_28 : Int) (b8_29 : List Sol) (b8_30 : Bool) (b8_31 b8_32 b8_33 b8_34 : Int) (b8_35 : List Sol) (b8_36 : Bool) (b8_37 b8_38 b8_39 b8_40 : Int) (b8_41 : List Sol) (b8_42 : Bool) (b8_43 b8_44 b8_45 b8_46 : Int) (b8_47 : List Sol) (b8_48 b8_49 b8_50 b8_51 b8_52 b8_53 b8_54 b8_55 : Bool) (r : (Dsk × Int)) (h : Dspec_l20Keeps_0 n a0 b8_0 b8_1 b8_2 b8_3 b8_4 b8_5 b8_6 b8_7 b8_8 b8_9 b8_10 b8_11 b8_12 b8_13 b8_14 b8_15 b8_16 b8_17 b8_18 b8_19 b8_20 b8_21 b8_22 b8_23 b8_24 b8_25 b8_26 b8_27 b8_28 b8_29 b8_30 b8_31 b8_32 b8_33 b8_34 b8_35 b8_36 b8_37 b8_38 b8_39 b8_40 b8_41 b8_42 b8_43 b8_44 b8_45 b8_46 b8_47 b8_48 b8_49 b8_50 b8_51 b8_52 b8_53 b8_54 b8_55 = some r) : Wk Try.prog H Y 118 [.code (cp [1, 1, 1, 1, 0, 0] (bodyOf Try.f118)), .code (cp [1, 1, 1, 1, 0, 1] (bodyOf Try.f118)), .code (cp [1, 1, 1, 1, 1] (bodyOf Try.f118))] (FinX Try.prog Try.f118 [] (.tup [.agg (cT69o r.1), i64 r.2]) []) ⟨[(3, .ptr 3 0), (6, .ptr 6 0), (8, .ptr 8 0)], [(3, ⟨true, 0, (cT69 a0)⟩), (6, ⟨true, 0, [bl false, i64 0, i64 0, i64 0, i64 0, .nil, bl false, i64 0, i64 0, i64 0, i64 0, .nil, bl false, i64 0, i64 0, i64 0, i64 0, .nil, bl false, i64 0, i64 0, i64 0, i64 0, .nil, bl false, i64 0, i64 0, i64 0, i64 0, .nil, bl false, i64 0, i64 0, i64 0, i64 0, .nil, bl false, i64 0, i64 0, i64 0, i64 0, .nil, bl false, i64 0, i64 0, i64 0, i64 0, .nil, bl false, bl false, bl false, bl false, bl false, bl false, bl false, bl false]⟩), (8, ⟨true, 0, [bl b8_0, i64 b8_1, i64 b8_2, i64 b8_3, i64 b8_4, .sl true 6 b8_5.length ((eSol true).f b8_5), bl b8_6, i64 b8_7, i64 b8_8, i64 b8_9, i64 b8_10, .sl true 6 b8_11.length ((eSol true).f b8_11), bl b8_12, i64 b8_13, i64 b8_14, i64 b8_15, i64 b8_16, .sl true 6 b8_17.length ((eSol true).f b8_17), bl b8_18, i64 b8_19, i64 b8_20, i64 b8_21, i64 b8_22, .sl true 6 b8_23.length ((eSol true).f b8_23), bl b8_24, i64 b8_25, i64 b8_26, i64 b8_27, i64 b8_28, .sl true 6 b8_29.length ((eSol true).f b8_29), bl b8_30, i64 b8_31, i64 b8_32, i64 b8_33, i64 b8_34, .sl true 6 b8_35.length ((eSol true).f b8_35), bl b8_36, i64 b8_37, i64 b8_38, i64 b8_39, i64 b8_40, .sl true 6 b8_41.length ((eSol true).f b8_41), bl b8_42, i64 b8_43, i64 b8_44, i64 b8_45, i64 b8_46, .sl true 6 b8_47.length ((eSol true).f b8_47), bl b8_48, bl b8_49, bl b8_50, bl b8_51, bl b8_52, bl b8_53, bl b8_54, bl b8_55]⟩)]⟩ := by
  unfold Dspec_l20Keeps_0 at h
  obtain ⟨v2, hv2, h⟩ := bind_some h
  refine x_frk 5 [(0, .rows [(eSol false).f b8_5, (eSol false).f b8_11, (eSol false).f b8_17, (eSol false).f b8_23, (eSol false).f b8_29, (eSol false).f b8_35, (eSol false).f b8_41, (eSol false).f b8_47]), (0, .call [] [] (bl v2) [])] (ocons (Enc.share (eSol true) (eSol false) (sSol true) b8_5) (ocons (Enc.share (eSol true) (eSol false) (sSol true) b8_11) (ocons (Enc.share (eSol true) (eSol false) (sSol true) b8_17) (ocons (Enc.share (eSol true) (eSol false) (sSol true) b8_23) (ocons (Enc.share (eSol true) (eSol false) (sSol true) b8_29) (ocons (Enc.share (eSol true) (eSol false) (sSol true) b8_35) (ocons (Enc.share (eSol true) (eSol false) (sSol true) b8_41) (ocons (Enc.share (eSol true) (eSol false) (sSol true) b8_47) (ocons (Tspec_DeskOk (Y := Y) n (((Sol.mk b8_0 (Pl.mk b8_1 b8_2 b8_3 b8_4) b8_5), (Sol.mk b8_6 (Pl.mk b8_7 b8_8 b8_9 b8_10) b8_11), (Sol.mk b8_12 (Pl.mk b8_13 b8_14 b8_15 b8_16) b8_17), (Sol.mk b8_18 (Pl.mk b8_19 b8_20 b8_21 b8_22) b8_23), (Sol.mk b8_24 (Pl.mk b8_25 b8_26 b8_27 b8_28) b8_29), (Sol.mk b8_30 (Pl.mk b8_31 b8_32 b8_33 b8_34) b8_35), (Sol.mk b8_36 (Pl.mk b8_37 b8_38 b8_39 b8_40) b8_41), (Sol.mk b8_42 (Pl.mk b8_43 b8_44 b8_45 b8_46) b8_47)), (b8_48, b8_49, b8_50, b8_51, b8_52, b8_53, b8_54, b8_55)) _ hv2) onil))))))))) h (by kernel_rfl) (fun h => ?_) (fun h => ?_)
  · obtain ⟨v3, hv3, h⟩ := bind_some h
    replace h := Option.some.inj h; subst h
    exact x_end 7 [(1, .call [] [] (.agg (cT69o v3)) [])] [] (ocons (Tspec_l20Copy (Y := Y) n a0 _ hv3) onil) onil (by kernel_rfl)
  · replace h := Option.some.inj h; subst h
    exact x_end 7 [] [] onil onil (by kernel_rfl)
def Dspec_l20Keeps (n : Nat) (a0 : Dsk) (a1 : Int) (a2 : Sol) : Option (Dsk × Int) :=
  (Dspec_l20Copy n a0).bind fun v0 => (Dspec_l8Copy n a2).bind fun v1 => frk (a1 == 0) (Dspec_l20Keeps_0 n a0 v1.inn v1.pl.A v1.pl.B v1.pl.C v1.pl.D v1.kids v0.1.2.1.inn v0.1.2.1.pl.A v0.1.2.1.pl.B v0.1.2.1.pl.C v0.1.2.1.pl.D v0.1.2.1.kids v0.1.2.2.1.inn v0.1.2.2.1.pl.A v0.1.2.2.1.pl.B v0.1.2.2.1.pl.C v0.1.2.2.1.pl.D v0.1.2.2.1.kids v0.1.2.2.2.1.inn v0.1.2.2.2.1.pl.A v0.1.2.2.2.1.pl.B v0.1.2.2.2.1.pl.C v0.1.2.2.2.1.pl.D v0.1.2.2.2.1.kids v0.1.2.2.2.2.1.inn v0.1.2.2.2.2.1.pl.A v0.1.2.2.2.2.1.pl.B v0.1.2.2.2.2.1.pl.C v0.1.2.2.2.2.1.pl.D v0.1.2.2.2.2.1.kids v0.1.2.2.2.2.2.1.inn v0.1.2.2.2.2.2.1.pl.A v0.1.2.2.2.2.2.1.pl.B v0.1.2.2.2.2.2.1.pl.C v0.1.2.2.2.2.2.1.pl.D v0.1.2.2.2.2.2.1.kids v0.1.2.2.2.2.2.2.1.inn v0.1.2.2.2.2.2.2.1.pl.A v0.1.2.2.2.2.2.2.1.pl.B v0.1.2.2.2.2.2.2.1.pl.C v0.1.2.2.2.2.2.2.1.pl.D v0.1.2.2.2.2.2.2.1.kids v0.1.2.2.2.2.2.2.2.inn v0.1.2.2.2.2.2.2.2.pl.A v0.1.2.2.2.2.2.2.2.pl.B v0.1.2.2.2.2.2.2.2.pl.C v0.1.2.2.2.2.2.2.2.pl.D v0.1.2.2.2.2.2.2.2.kids true v0.2.2.1 v0.2.2.2.1 v0.2.2.2.2.1 v0.2.2.2.2.2.1 v0.2.2.2.2.2.2.1 v0.2.2.2.2.2.2.2.1 v0.2.2.2.2.2.2.2.2) (frk (a1 == 1) (Dspec_l20Keeps_0 n a0 v0.1.1.inn v0.1.1.pl.A v0.1.1.pl.B v0.1.1.pl.C v0.1.1.pl.D v0.1.1.kids v1.inn v1.pl.A v1.pl.B v1.pl.C v1.pl.D v1.kids v0.1.2.2.1.inn v0.1.2.2.1.pl.A v0.1.2.2.1.pl.B v0.1.2.2.1.pl.C v0.1.2.2.1.pl.D v0.1.2.2.1.kids v0.1.2.2.2.1.inn v0.1.2.2.2.1.pl.A v0.1.2.2.2.1.pl.B v0.1.2.2.2.1.pl.C v0.1.2.2.2.1.pl.D v0.1.2.2.2.1.kids v0.1.2.2.2.2.1.inn v0.1.2.2.2.2.1.pl.A v0.1.2.2.2.2.1.pl.B v0.1.2.2.2.2.1.pl.C v0.1.2.2.2.2.1.pl.D v0.1.2.2.2.2.1.kids v0.1.2.2.2.2.2.1.inn v0.1.2.2.2.2.2.1.pl.A v0.1.2.2.2.2.2.1.pl.B v0.1.2.2.2.2.2.1.pl.C v0.1.2.2.2.2.2.1.pl.D v0.1.2.2.2.2.2.1.kids v0.1.2.2.2.2.2.2.1.inn v0.1.2.2.2.2.2.2.1.pl.A v0.1.2.2.2.2.2.2.1.pl.B v0.1.2.2.2.2.2.2.1.pl.C v0.1.2.2.2.2.2.2.1.pl.D v0.1.2.2.2.2.2.2.1.kids v0.1.2.2.2.2.2.2.2.inn v0.1.2.2.2.2.2.2.2.pl.A v0.1.2.2.2.2.2.2.2.pl.B v0.1.2.2.2.2.2.2.2.pl.C v0.1.2.2.2.2.2.2.2.pl.D v0.1.2.2.2.2.2.2.2.kids v0.2.1 true v0.2.2.2.1 v0.2.2.2.2.1 v0.2.2.2.2.2.1 v0.2.2.2.2.2.2.1 v0.2.2.2.2.2.2.2.1 v0.2.2.2.2.2.2.2.2) (frk (a1 == 2) (Dspec_l20Keeps_0 n a0 v0.1.1.inn v0.1.1.pl.A v0.1.1.pl.B v0.1.1.pl.C v0.1.1.pl.D v0.1.1.kids v0.1.2.1.inn v0.1.2.1.pl.A v0.1.2.1.pl.B v0.1.2.1.pl.C v0.1.2.1.pl.D v0.1.2.1.kids v1.inn v1.pl.A v1.pl.B v1.pl.C v1.pl.D v1.kids v0.1.2.2.2.1.inn v0.1.2.2.2.1.pl.A v0.1.2.2.2.1.pl.B v0.1.2.2.2.1.pl.C v0.1.2.2.2.1.pl.D v0.1.2.2.2.1.kids v0.1.2.2.2.2.1.inn v0.1.2.2.2.2.1.pl.A v0.1.2.2.2.2.1.pl.B v0.1.2.2.2.2.1.pl.C v0.1.2.2.2.2.1.pl.D v0.1.2.2.2.2.1.kids v0.1.2.2.2.2.2.1.inn v0.1.2.2.2.2.2.1.pl.A v0.1.2.2.2.2.2.1.pl.B v0.1.2.2.2.2.2.1.pl.C v0.1.2.2.2.2.2.1.pl.D v0.1.2.2.2.2.2.1.kids v0.1.2.2.2.2.2.2.1.inn v0.1.2.2.2.2.2.2.1.pl.A v0.1.2.2.2.2.2.2.1.pl.B v0.1.2.2.2.2.2.2.1.pl.C v0.1.2.2.2.2.2.2.1.pl.D v0.1.2.2.2.2.2.2.1.kids v0.1.2.2.2.2.2.2.2.inn v0.1.2.2.2.2.2.2.2.pl.A v0.1.2.2.2.2.2.2.2.pl.B v0.1.2.2.2.2.2.2.2.pl.C v0.1.2.2.2.2.2.2.2.pl.D v0.1.2.2.2.2.2.2.2.kids v0.2.1 v0.2.2.1 true v0.2.2.2.2.1 v0.2.2.2.2.2.1 v0.2.2.2.2.2.2.1 v0.2.2.2.2.2.2.2.1 v0.2.2.2.2.2.2.2.2) (frk (a1 == 3) (Dspec_l20Keeps_0 n a0 v0.1.1.inn v0.1.1.pl.A v0.1.1.pl.B v0.1.1.pl.C v0.1.1.pl.D v0.1.1.kids v0.1.2.1.inn v0.1.2.1.pl.A v0.1.2.1.pl.B v0.1.2.1.pl.C v0.1.2.1.pl.D v0.1.2.1.kids v0.1.2.2.1.inn v0.1.2.2.1.pl.A v0.1.2.2.1.pl.B v0.1.2.2.1.pl.C v0.1.2.2.1.pl.D v0.1.2.2.1.kids v1.inn v1.pl.A v1.pl.B v1.pl.C v1.pl.D v1.kids v0.1.2.2.2.2.1.inn v0.1.2.2.2.2.1.pl.A v0.1.2.2.2.2.1.pl.B v0.1.2.2.2.2.1.pl.C v0.1.2.2.2.2.1.pl.D v0.1.2.2.2.2.1.kids v0.1.2.2.2.2.2.1.inn v0.1.2.2.2.2.2.1.pl.A v0.1.2.2.2.2.2.1.pl.B v0.1.2.2.2.2.2.1.pl.C v0.1.2.2.2.2.2.1.pl.D v0.1.2.2.2.2.2.1.kids v0.1.2.2.2.2.2.2.1.inn v0.1.2.2.2.2.2.2.1.pl.A v0.1.2.2.2.2.2.2.1.pl.B v0.1.2.2.2.2.2.2.1.pl.C v0.1.2.2.2.2.2.2.1.pl.D v0.1.2.2.2.2.2.2.1.kids v0.1.2.2.2.2.2.2.2.inn v0.1.2.2.2.2.2.2.2.pl.A v0.1.2.2.2.2.2.2.2.pl.B v0.1.2.2.2.2.2.2.2.pl.C v0.1.2.2.2.2.2.2.2.pl.D v0.1.2.2.2.2.2.2.2.kids v0.2.1 v0.2.2.1 v0.2.2.2.1 true v0.2.2.2.2.2.1 v0.2.2.2.2.2.2.1 v0.2.2.2.2.2.2.2.1 v0.2.2.2.2.2.2.2.2) (frk (a1 == 4) (Dspec_l20Keeps_0 n a0 v0.1.1.inn v0.1.1.pl.A v0.1.1.pl.B v0.1.1.pl.C v0.1.1.pl.D v0.1.1.kids v0.1.2.1.inn v0.1.2.1.pl.A v0.1.2.1.pl.B v0.1.2.1.pl.C v0.1.2.1.pl.D v0.1.2.1.kids v0.1.2.2.1.inn v0.1.2.2.1.pl.A v0.1.2.2.1.pl.B v0.1.2.2.1.pl.C v0.1.2.2.1.pl.D v0.1.2.2.1.kids v0.1.2.2.2.1.inn v0.1.2.2.2.1.pl.A v0.1.2.2.2.1.pl.B v0.1.2.2.2.1.pl.C v0.1.2.2.2.1.pl.D v0.1.2.2.2.1.kids v1.inn v1.pl.A v1.pl.B v1.pl.C v1.pl.D v1.kids v0.1.2.2.2.2.2.1.inn v0.1.2.2.2.2.2.1.pl.A v0.1.2.2.2.2.2.1.pl.B v0.1.2.2.2.2.2.1.pl.C v0.1.2.2.2.2.2.1.pl.D v0.1.2.2.2.2.2.1.kids v0.1.2.2.2.2.2.2.1.inn v0.1.2.2.2.2.2.2.1.pl.A v0.1.2.2.2.2.2.2.1.pl.B v0.1.2.2.2.2.2.2.1.pl.C v0.1.2.2.2.2.2.2.1.pl.D v0.1.2.2.2.2.2.2.1.kids v0.1.2.2.2.2.2.2.2.inn v0.1.2.2.2.2.2.2.2.pl.A v0.1.2.2.2.2.2.2.2.pl.B v0.1.2.2.2.2.2.2.2.pl.C v0.1.2.2.2.2.2.2.2.pl.D v0.1.2.2.2.2.2.2.2.kids v0.2.1 v0.2.2.1 v0.2.2.2.1 v0.2.2.2.2.1 true v0.2.2.2.2.2.2.1 v0.2.2.2.2.2.2.2.1 v0.2.2.2.2.2.2.2.2) (frk (a1 == 5) (Dspec_l20Keeps_0 n a0 v0.1.1.inn v0.1.1.pl.A v0.1.1.pl.B v0.1.1.pl.C v0.1.1.pl.D v0.1.1.kids v0.1.2.1.inn v0.1.2.1.pl.A v0.1.2.1.pl.B v0.1.2.1.pl.C v0.1.2.1.pl.D v0.1.2.1.kids v0.1.2.2.1.inn v0.1.2.2.1.pl.A v0.1.2.2.1.pl.B v0.1.2.2.1.pl.C v0.1.2.2.1.pl.D v0.1.2.2.1.kids v0.1.2.2.2.1.inn v0.1.2.2.2.1.pl.A v0.1.2.2.2.1.pl.B v0.1.2.2.2.1.pl.C v0.1.2.2.2.1.pl.D v0.1.2.2.2.1.kids v0.1.2.2.2.2.1.inn v0.1.2.2.2.2.1.pl.A v0.1.2.2.2.2.1.pl.B v0.1.2.2.2.2.1.pl.C v0.1.2.2.2.2.1.pl.D v0.1.2.2.2.2.1.kids v1.inn v1.pl.A v1.pl.B v1.pl.C v1.pl.D v1.kids v0.1.2.2.2.2.2.2.1.inn v0.1.2.2.2.2.2.2.1.pl.A v0.1.2.2.2.2.2.2.1.pl.B v0.1.2.2.2.2.2.2.1.pl.C v0.1.2.2.2.2.2.2.1.pl.D v0.1.2.2.2.2.2.2.1.kids v0.1.2.2.2.2.2.2.2.inn v0.1.2.2.2.2.2.2.2.pl.A v0.1.2.2.2.2.2.2.2.pl.B v0.1.2.2.2.2.2.2.2.pl.C v0.1.2.2.2.2.2.2.2.pl.D v0.1.2.2.2.2.2.2.2.kids v0.2.1 v0.2.2.1 v0.2.2.2.1 v0.2.2.2.2.1 v0.2.2.2.2.2.1 true v0.2.2.2.2.2.2.2.1 v0.2.2.2.2.2.2.2.2) (frk (a1 == 6) (Dspec_l20Keeps_0 n a0 v0.1.1.inn v0.1.1.pl.A v0.1.1.pl.B v0.1.1.pl.C v0.1.1.pl.D v0.1.1.kids v0.1.2.1.inn v0.1.2.1.pl.A v0.1.2.1.pl.B v0.1.2.1.pl.C v0.1.2.1.pl.D v0.1.2.1.kids v0.1.2.2.1.inn v0.1.2.2.1.pl.A v0.1.2.2.1.pl.B v0.1.2.2.1.pl.C v0.1.2.2.1.pl.D v0.1.2.2.1.kids v0.1.2.2.2.1.inn v0.1.2.2.2.1.pl.A v0.1.2.2.2.1.pl.B v0.1.2.2.2.1.pl.C v0.1.2.2.2.1.pl.D v0.1.2.2.2.1.kids v0.1.2.2.2.2.1.inn v0.1.2.2.2.2.1.pl.A v0.1.2.2.2.2.1.pl.B v0.1.2.2.2.2.1.pl.C v0.1.2.2.2.2.1.pl.D v0.1.2.2.2.2.1.kids v0.1.2.2.2.2.2.1.inn v0.1.2.2.2.2.2.1.pl.A v0.1.2.2.2.2.2.1.pl.B v0.1.2.2.2.2.2.1.pl.C v0.1.2.2.2.2.2.1.pl.D v0.1.2.2.2.2.2.1.kids v1.inn v1.pl.A v1.pl.B v1.pl.C v1.pl.D v1.kids v0.1.2.2.2.2.2.2.2.inn v0.1.2.2.2.2.2.2.2.pl.A v0.1.2.2.2.2.2.2.2.pl.B v0.1.2.2.2.2.2.2.2.pl.C v0.1.2.2.2.2.2.2.2.pl.D v0.1.2.2.2.2.2.2.2.kids v0.2.1 v0.2.2.1 v0.2.2.2.1 v0.2.2.2.2.1 v0.2.2.2.2.2.1 v0.2.2.2.2.2.2.1 true v0.2.2.2.2.2.2.2.2) (frk (a1 == 7) (Dspec_l20Keeps_0 n a0 v0.1.1.inn v0.1.1.pl.A v0.1.1.pl.B v0.1.1.pl.C v0.1.1.pl.D v0.1.1.kids v0.1.2.1.inn v0.1.2.1.pl.A v0.1.2.1.pl.B v0.1.2.1.pl.C v0.1.2.1.pl.D v0.1.2.1.kids v0.1.2.2.1.inn v0.1.2.2.1.pl.A v0.1.2.2.1.pl.B v0.1.2.2.1.pl.C v0.1.2.2.1.pl.D v0.1.2.2.1.kids v0.1.2.2.2.1.inn v0.1.2.2.2.1.pl.A v0.1.2.2.2.1.pl.B v0.1.2.2.2.1.pl.C v0.1.2.2.2.1.pl.D v0.1.2.2.2.1.kids v0.1.2.2.2.2.1.inn v0.1.2.2.2.2.1.pl.A v0.1.2.2.2.2.1.pl.B v0.1.2.2.2.2.1.pl.C v0.1.2.2.2.2.1.pl.D v0.1.2.2.2.2.1.kids v0.1.2.2.2.2.2.1.inn v0.1.2.2.2.2.2.1.pl.A v0.1.2.2.2.2.2.1.pl.B v0.1.2.2.2.2.2.1.pl.C v0.1.2.2.2.2.2.1.pl.D v0.1.2.2.2.2.2.1.kids v0.1.2.2.2.2.2.2.1.inn v0.1.2.2.2.2.2.2.1.pl.A v0.1.2.2.2.2.2.2.1.pl.B v0.1.2.2.2.2.2.2.1.pl.C v0.1.2.2.2.2.2.2.1.pl.D v0.1.2.2.2.2.2.2.1.kids v1.inn v1.pl.A v1.pl.B v1.pl.C v1.pl.D v1.kids v0.2.1 v0.2.2.1 v0.2.2.2.1 v0.2.2.2.2.1 v0.2.2.2.2.2.1 v0.2.2.2.2.2.2.1 v0.2.2.2.2.2.2.2.1 true) (none))))))))
theorem Tspec_l20Keeps {Y} (n : Nat) (a0 : Dsk) (a1 : Int) (a2 : Sol) (r : (Dsk × Int)) (h : Dspec_l20Keeps n a0 a1 a2 = some r) : Big Try.prog H Y (.call 118 [.agg (cT69 a0), i64 a1, .agg [bl a2.inn, i64 a2.pl.A, i64 a2.pl.B, i64 a2.pl.C, i64 a2.pl.D, .sl false 6 a2.kids.length ((eSol false).f a2.kids)]] (lk []) (.tup [.agg (cT69o r.1), i64 r.2]) (lk [])) := by
  unfold Dspec_l20Keeps at h
  refine x_call (fn := Try.f118) (c := bodyOf Try.f118) (bs0 := []) Try.func118 (by kernel_rfl) (by kernel_rfl) ?_
  obtain ⟨v0, hv0, h⟩ := bind_some h
  obtain ⟨v1, hv1, h⟩ := bind_some h
  refine x_pt 20 [(5, .call [] [] (.agg (cT69o v0)) []), (4, .call [] [] (.agg [bl v1.inn, i64 v1.pl.A, i64 v1.pl.B, i64 v1.pl.C, i64 v1.pl.D, .sl true 6 v1.kids.length ((eSol true).f v1.kids)]) [])] (ocons (Tspec_l20Copy (Y := Y) n a0 _ hv0) (ocons (Tspec_l8Copy (Y := Y) n a2 _ hv1) onil)) (by kernel_rfl) ?_
  rcases frk_eq h with ⟨hc, h⟩ | h
  · subst hc
    exact x_to 12 [] onil (Tspec_l20Keeps_0 n a0 v1.inn v1.pl.A v1.pl.B v1.pl.C v1.pl.D v1.kids v0.1.2.1.inn v0.1.2.1.pl.A v0.1.2.1.pl.B v0.1.2.1.pl.C v0.1.2.1.pl.D v0.1.2.1.kids v0.1.2.2.1.inn v0.1.2.2.1.pl.A v0.1.2.2.1.pl.B v0.1.2.2.1.pl.C v0.1.2.2.1.pl.D v0.1.2.2.1.kids v0.1.2.2.2.1.inn v0.1.2.2.2.1.pl.A v0.1.2.2.2.1.pl.B v0.1.2.2.2.1.pl.C v0.1.2.2.2.1.pl.D v0.1.2.2.2.1.kids v0.1.2.2.2.2.1.inn v0.1.2.2.2.2.1.pl.A v0.1.2.2.2.2.1.pl.B v0.1.2.2.2.2.1.pl.C v0.1.2.2.2.2.1.pl.D v0.1.2.2.2.2.1.kids v0.1.2.2.2.2.2.1.inn v0.1.2.2.2.2.2.1.pl.A v0.1.2.2.2.2.2.1.pl.B v0.1.2.2.2.2.2.1.pl.C v0.1.2.2.2.2.2.1.pl.D v0.1.2.2.2.2.2.1.kids v0.1.2.2.2.2.2.2.1.inn v0.1.2.2.2.2.2.2.1.pl.A v0.1.2.2.2.2.2.2.1.pl.B v0.1.2.2.2.2.2.2.1.pl.C v0.1.2.2.2.2.2.2.1.pl.D v0.1.2.2.2.2.2.2.1.kids v0.1.2.2.2.2.2.2.2.inn v0.1.2.2.2.2.2.2.2.pl.A v0.1.2.2.2.2.2.2.2.pl.B v0.1.2.2.2.2.2.2.2.pl.C v0.1.2.2.2.2.2.2.2.pl.D v0.1.2.2.2.2.2.2.2.kids true v0.2.2.1 v0.2.2.2.1 v0.2.2.2.2.1 v0.2.2.2.2.2.1 v0.2.2.2.2.2.2.1 v0.2.2.2.2.2.2.2.1 v0.2.2.2.2.2.2.2.2 r h) (by kernel_rfl)
  rcases frk_eq h with ⟨hc, h⟩ | h
  · subst hc
    exact x_to 12 [] onil (Tspec_l20Keeps_0 n a0 v0.1.1.inn v0.1.1.pl.A v0.1.1.pl.B v0.1.1.pl.C v0.1.1.pl.D v0.1.1.kids v1.inn v1.pl.A v1.pl.B v1.pl.C v1.pl.D v1.kids v0.1.2.2.1.inn v0.1.2.2.1.pl.A v0.1.2.2.1.pl.B v0.1.2.2.1.pl.C v0.1.2.2.1.pl.D v0.1.2.2.1.kids v0.1.2.2.2.1.inn v0.1.2.2.2.1.pl.A v0.1.2.2.2.1.pl.B v0.1.2.2.2.1.pl.C v0.1.2.2.2.1.pl.D v0.1.2.2.2.1.kids v0.1.2.2.2.2.1.inn v0.1.2.2.2.2.1.pl.A v0.1.2.2.2.2.1.pl.B v0.1.2.2.2.2.1.pl.C v0.1.2.2.2.2.1.pl.D v0.1.2.2.2.2.1.kids v0.1.2.2.2.2.2.1.inn v0.1.2.2.2.2.2.1.pl.A v0.1.2.2.2.2.2.1.pl.B v0.1.2.2.2.2.2.1.pl.C v0.1.2.2.2.2.2.1.pl.D v0.1.2.2.2.2.2.1.kids v0.1.2.2.2.2.2.2.1.inn v0.1.2.2.2.2.2.2.1.pl.A v0.1.2.2.2.2.2.2.1.pl.B v0.1.2.2.2.2.2.2.1.pl.C v0.1.2.2.2.2.2.2.1.pl.D v0.1.2.2.2.2.2.2.1.kids v0.1.2.2.2.2.2.2.2.inn v0.1.2.2.2.2.2.2.2.pl.A v0.1.2.2.2.2.2.2.2.pl.B v0.1.2.2.2.2.2.2.2.pl.C v0.1.2.2.2.2.2.2.2.pl.D v0.1.2.2.2.2.2.2.2.kids v0.2.1 true v0.2.2.2.1 v0.2.2.2.2.1 v0.2.2.2.2.2.1 v0.2.2.2.2.2.2.1 v0.2.2.2.2.2.2.2.1 v0.2.2.2.2.2.2.2.2 r h) (by kernel_rfl)
  rcases frk_eq h with ⟨hc, h⟩ | h
  · subst hc
    exact x_to 12 [] onil (Tspec_l20Keeps_0 n a0 v0.1.1.inn v0.1.1.pl.A v0.1.1.pl.B v0.1.1.pl.C v0.1.1.pl.D v0.1.1.kids v0.1.2.1.inn v0.1.2.1.pl.A v0.1.2.1.pl.B v0.1.2.1.pl.C v0.1.2.1.pl.D v0.1.2.1.kids v1.inn v1.pl.A v1.pl.B v1.pl.C v1.pl.D v1.kids v0.1.2.2.2.1.inn v0.1.2.2.2.1.pl.A v0.1.2.2.2.1.pl.B v0.1.2.2.2.1.pl.C v0.1.2.2.2.1.pl.D v0.1.2.2.2.1.kids v0.1.2.2.2.2.1.inn v0.1.2.2.2.2.1.pl.A v0.1.2.2.2.2.1.pl.B v0.1.2.2.2.2.1.pl.C v0.1.2.2.2.2.1.pl.D v0.1.2.2.2.2.1.kids v0.1.2.2.2.2.2.1.inn v0.1.2.2.2.2.2.1.pl.A v0.1.2.2.2.2.2.1.pl.B v0.1.2.2.2.2.2.1.pl.C v0.1.2.2.2.2.2.1.pl.D v0.1.2.2.2.2.2.1.kids v0.1.2.2.2.2.2.2.1.inn v0.1.2.2.2.2.2.2.1.pl.A v0.1.2.2.2.2.2.2.1.pl.B v0.1.2.2.2.2.2.2.1.pl.C v0.1.2.2.2.2.2.2.1.pl.D v0.1.2.2.2.2.2.2.1.kids v0.1.2.2.2.2.2.2.2.inn v0.1.2.2.2.2.2.2.2.pl.A v0.1.2.2.2.2.2.2.2.pl.B v0.1.2.2.2.2.2.2.2.pl.C v0.1.2.2.2.2.2.2.2.pl.D v0.1.2.2.2.2.2.2.2.kids v0.2.1 v0.2.2.1 true v0.2.2.2.2.1 v0.2.2.2.2.2.1 v0.2.2.2.2.2.2.1 v0.2.2.2.2.2.2.2.1 v0.2.2.2.2.2.2.2.2 r h) (by kernel_rfl)
  rcases frk_eq h with ⟨hc, h⟩ | h
  · subst hc
    exact x_to 12 [] onil (Tspec_l20Keeps_0 n a0 v0.1.1.inn v0.1.1.pl.A v0.1.1.pl.B v0.1.1.pl.C v0.1.1.pl.D v0.1.1.kids v0.1.2.1.inn v0.1.2.1.pl.A v0.1.2.1.pl.B v0.1.2.1.pl.C v0.1.2.1.pl.D v0.1.2.1.kids v0.1.2.2.1.inn v0.1.2.2.1.pl.A v0.1.2.2.1.pl.B v0.1.2.2.1.pl.C v0.1.2.2.1.pl.D v0.1.2.2.1.kids v1.inn v1.pl.A v1.pl.B v1.pl.C v1.pl.D v1.kids v0.1.2.2.2.2.1.inn v0.1.2.2.2.2.1.pl.A v0.1.2.2.2.2.1.pl.B v0.1.2.2.2.2.1.pl.C v0.1.2.2.2.2.1.pl.D v0.1.2.2.2.2.1.kids v0.1.2.2.2.2.2.1.inn v0.1.2.2.2.2.2.1.pl.A v0.1.2.2.2.2.2.1.pl.B v0.1.2.2.2.2.2.1.pl.C v0.1.2.2.2.2.2.1.pl.D v0.1.2.2.2.2.2.1.kids v0.1.2.2.2.2.2.2.1.inn v0.1.2.2.2.2.2.2.1.pl.A v0.1.2.2.2.2.2.2.1.pl.B v0.1.2.2.2.2.2.2.1.pl.C v0.1.2.2.2.2.2.2.1.pl.D v0.1.2.2.2.2.2.2.1.kids v0.1.2.2.2.2.2.2.2.inn v0.1.2.2.2.2.2.2.2.pl.A v0.1.2.2.2.2.2.2.2.pl.B v0.1.2.2.2.2.2.2.2.pl.C v0.1.2.2.2.2.2.2.2.pl.D v0.1.2.2.2.2.2.2.2.kids v0.2.1 v0.2.2.1 v0.2.2.2.1 true v0.2.2.2.2.2.1 v0.2.2.2.2.2.2.1 v0.2.2.2.2.2.2.2.1 v0.2.2.2.2.2.2.2.2 r h) (by kernel_rfl)
  rcases frk_eq h with ⟨hc, h⟩ | h
  · subst hc
    exact x_to 12 [] onil (Tspec_l20Keeps_0 n a0 v0.1.1.inn v0.1.1.pl.A v0.1.1.pl.B v0.1.1.pl.C v0.1.1.pl.D v0.1.1.kids v0.1.2.1.inn v0.1.2.1.pl.A v0.1.2.1.pl.B v0.1.2.1.pl.C v0.1.2.1.pl.D v0.1.2.1.kids v0.1.2.2.1.inn v0.1.2.2.1.pl.A v0.1.2.2.1.pl.B v0.1.2.2.1.pl.C v0.1.2.2.1.pl.D v0.1.2.2.1.kids v0.1.2.2.2.1.inn v0.1.2.2.2.1.pl.A v0.1.2.2.2.1.pl.B v0.1.2.2.2.1.pl.C v0.1.2.2.2.1.pl.D v0.1.2.2.2.1.kids v1.inn v1.pl.A v1.pl.B v1.pl.C v1.pl.D v1.kids v0.1.2.2.2.2.2.1.inn v0.1.2.2.2.2.2.1.pl.A v0.1.2.2.2.2.2.1.pl.B v0.1.2.2.2.2.2.1.pl.C v0.1.2.2.2.2.2.1.pl.D v0.1.2.2.2.2.2.1.kids v0.1.2.2.2.2.2.2.1.inn v0.1.2.2.2.2.2.2.1.pl.A v0.1.2.2.2.2.2.2.1.pl.B v0.1.2.2.2.2.2.2.1.pl.C v0.1.2.2.2.2.2.2.1.pl.D v0.1.2.2.2.2.2.2.1.kids v0.1.2.2.2.2.2.2.2.inn v0.1.2.2.2.2.2.2.2.pl.A v0.1.2.2.2.2.2.2.2.pl.B v0.1.2.2.2.2.2.2.2.pl.C v0.1.2.2.2.2.2.2.2.pl.D v0.1.2.2.2.2.2.2.2.kids v0.2.1 v0.2.2.1 v0.2.2.2.1 v0.2.2.2.2.1 true v0.2.2.2.2.2.2.1 v0.2.2.2.2.2.2.2.1 v0.2.2.2.2.2.2.2.2 r h) (by kernel_rfl)
  rcases frk_eq h with ⟨hc, h⟩ | h
  · subst hc
    exact x_to 12 [] onil (Tspec_l20Keeps_0 n a0 v0.1.1.inn v0.1.1.pl.A v0.1.1.pl.B v0.1.1.pl.C v0.1.1.pl.D v0.1.1.kids v0.1.2.1.inn v0.1.2.1.pl.A v0.1.2.1.pl.B v0.1.2.1.pl.C v0.1.2.1.pl.D v0.1.2.1.kids v0.1.2.2.1.inn v0.1.2.2.1.pl.A v0.1.2.2.1.pl.B v0.1.2.2.1.pl.C v0.1.2.2.1.pl.D v0.1.2.2.1.kids v0.1.2.2.2.1.inn v0.1.2.2.2.1.pl.A v0.1.2.2.2.1.pl.B v0.1.2.2.2.1.pl.C v0.1.2.2.2.1.pl.D v0.1.2.2.2.1.kids v0.1.2.2.2.2.1.inn v0.1.2.2.2.2.1.pl.A v0.1.2.2.2.2.1.pl.B v0.1.2.2.2.2.1.pl.C v0.1.2.2.2.2.1.pl.D v0.1.2.2.2.2.1.kids v1.inn v1.pl.A v1.pl.B v1.pl.C v1.pl.D v1.kids v0.1.2.2.2.2.2.2.1.inn v0.1.2.2.2.2.2.2.1.pl.A v0.1.2.2.2.2.2.2.1.pl.B v0.1.2.2.2.2.2.2.1.pl.C v0.1.2.2.2.2.2.2.1.pl.D v0.1.2.2.2.2.2.2.1.kids v0.1.2.2.2.2.2.2.2.inn v0.1.2.2.2.2.2.2.2.pl.A v0.1.2.2.2.2.2.2.2.pl.B v0.1.2.2.2.2.2.2.2.pl.C v0.1.2.2.2.2.2.2.2.pl.D v0.1.2.2.2.2.2.2.2.kids v0.2.1 v0.2.2.1 v0.2.2.2.1 v0.2.2.2.2.1 v0.2.2.2.2.2.1 true v0.2.2.2.2.2.2.2.1 v0.2.2.2.2.2.2.2.2 r h) (by kernel_rfl)
  rcases frk_eq h with ⟨hc, h⟩ | h
  · subst hc
    exact x_to 12 [] onil (Tspec_l20Keeps_0 n a0 v0.1.1.inn v0.1.1.pl.A v0.1.1.pl.B v0.1.1.pl.C v0.1.1.pl.D v0.1.1.kids v0.1.2.1.inn v0.1.2.1.pl.A v0.1.2.1.pl.B v0.1.2.1.pl.C v0.1.2.1.pl.D v0.1.2.1.kids v0.1.2.2.1.inn v0.1.2.2.1.pl.A v0.1.2.2.1.pl.B v0.1.2.2.1.pl.C v0.1.2.2.1.pl.D v0.1.2.2.1.kids v0.1.2.2.2.1.inn v0.1.2.2.2.1.pl.A v0.1.2.2.2.1.pl.B v0.1.2.2.2.1.pl.C v0.1.2.2.2.1.pl.D v0.1.2.2.2.1.kids v0.1.2.2.2.2.1.inn v0.1.2.2.2.2.1.pl.A v0.1.2.2.2.2.1.pl.B v0.1.2.2.2.2.1.pl.C v0.1.2.2.2.2.1.pl.D v0.1.2.2.2.2.1.kids v0.1.2.2.2.2.2.1.inn v0.1.2.2.2.2.2.1.pl.A v0.1.2.2.2.2.2.1.pl.B v0.1.2.2.2.2.2.1.pl.C v0.1.2.2.2.2.2.1.pl.D v0.1.2.2.2.2.2.1.kids v1.inn v1.pl.A v1.pl.B v1.pl.C v1.pl.D v1.kids v0.1.2.2.2.2.2.2.2.inn v0.1.2.2.2.2.2.2.2.pl.A v0.1.2.2.2.2.2.2.2.pl.B v0.1.2.2.2.2.2.2.2.pl.C v0.1.2.2.2.2.2.2.2.pl.D v0.1.2.2.2.2.2.2.2.kids v0.2.1 v0.2.2.1 v0.2.2.2.1 v0.2.2.2.2.1 v0.2.2.2.2.2.1 v0.2.2.2.2.2.2.1 true v0.2.2.2.2.2.2.2.2 r h) (by kernel_rfl)
  rcases frk_eq h with ⟨hc, h⟩ | h
  · subst hc
    exact x_to 12 [] onil (Tspec_l20Keeps_0 n a0 v0.1.1.inn v0.1.1.pl.A v0.1.1.pl.B v0.1.1.pl.C v0.1.1.pl.D v0.1.1.kids v0.1.2.1.inn v0.1.2.1.pl.A v0.1.2.1.pl.B v0.1.2.1.pl.C v0.1.2.1.pl.D v0.1.2.1.kids v0.1.2.2.1.inn v0.1.2.2.1.pl.A v0.1.2.2.1.pl.B v0.1.2.2.1.pl.C v0.1.2.2.1.pl.D v0.1.2.2.1.kids v0.1.2.2.2.1.inn v0.1.2.2.2.1.pl.A v0.1.2.2.2.1.pl.B v0.1.2.2.2.1.pl.C v0.1.2.2.2.1.pl.D v0.1.2.2.2.1.kids v0.1.2.2.2.2.1.inn v0.1.2.2.2.2.1.pl.A v0.1.2.2.2.2.1.pl.B v0.1.2.2.2.2.1.pl.C v0.1.2.2.2.2.1.pl.D v0.1.2.2.2.2.1.kids v0.1.2.2.2.2.2.1.inn v0.1.2.2.2.2.2.1.pl.A v0.1.2.2.2.2.2.1.pl.B v0.1.2.2.2.2.2.1.pl.C v0.1.2.2.2.2.2.1.pl.D v0.1.2.2.2.2.2.1.kids v0.1.2.2.2.2.2.2.1.inn v0.1.2.2.2.2.2.2.1.pl.A v0.1.2.2.2.2.2.2.1.pl.B v0.1.2.2.2.2.2.2.1.pl.C v0.1.2.2.2.2.2.2.1.pl.D v0.1.2.2.2.2.2.2.1.kids v1.inn v1.pl.A v1.pl.B v1.pl.C v1.pl.D v1.kids v0.2.1 v0.2.2.1 v0.2.2.2.1 v0.2.2.2.2.1 v0.2.2.2.2.2.1 v0.2.2.2.2.2.2.1 v0.2.2.2.2.2.2.2.1 true r h) (by kernel_rfl)
  exact absurd h (by simp)
/-! spec.Keep -/
def Dspec_Keep_0 (n : Nat) (a0 : Dsk) : Option (Dsk × Int) :=
  (Dspec_l20Copy n a0).bind fun v1 => some (v1, 1)
theorem Tspec_Keep_0 {Y} (n : Nat) (a0 : Dsk) (r : (Dsk × Int)) (h : Dspec_Keep_0 n a0 = some r) : Wk Try.prog H Y 49 [.code (cp [1, 0, 1, 0, 0] (bodyOf Try.f49)), .code (cp [1, 0, 1, 0, 1] (bodyOf Try.f49)), .code (cp [1, 1] (bodyOf Try.f49))] (FinX Try.prog Try.f49 [] (.tup [.agg (cT69o r.1), i64 r.2]) []) ⟨[(3, .ptr 3 0), (6, .ptr 6 0)], [(3, ⟨true, 0, (cT69 a0)⟩), (6, ⟨true, 0, [bl false, i64 0, i64 0, i64 0, i64 0, .nil, bl false, i64 0, i64 0, i64 0, i64 0, .nil, bl false, i64 0, i64 0, i64 0, i64 0, .nil, bl false, i64 0, i64 0, i64 0, i64 0, .nil, bl false, i64 0, i64 0, i64 0, i64 0, .nil, bl false, i64 0, i64 0, i64 0, i64 0, .nil, bl false, i64 0, i64 0, i64 0, i64 0, .nil, bl false, i64 0, i64 0, i64 0, i64 0, .nil, bl false, bl false, bl false, bl false, bl false, bl false, bl false, bl false]⟩)]⟩ := by
  unfold Dspec_Keep_0 at h
  obtain ⟨v1, hv1, h⟩ := bind_some h
  replace h := Option.some.inj h; subst h
  exact x_end 6 [(1, .call [] [] (.agg (cT69o v1)) [])] [] (ocons (Tspec_l20Copy (Y := Y) n a0 _ hv1) onil) onil (by kernel_rfl)
def Dspec_Keep_1 (n : Nat) (t1 : Int) (t20 : Bool) (a0 : Dsk) (b5_0 : Bool) (b5_1 b5_2 b5_3 b5_4 : Int) (b5_5 : List Sol) : Option (Dsk × Int) :=
  frk t20 ((Dspec_l20Copy n a0).bind fun v4 => some (v4, 1)) ((Dspec_l20Keeps n a0 t1 (Sol.mk b5_0 (Pl.mk b5_1 b5_2 b5_3 b5_4) b5_5)).bind fun v5 => some v5)
theorem Tspec_Keep_1 {Y} (n : Nat) (t1 : Int) (t20 : Bool) (a0 : Dsk) (b5_0 : Bool) (b5_1 b5_2 b5_3 b5_4 : Int) (b5_5 : List Sol) (r : (Dsk × Int)) (h : Dspec_Keep_1 n t1 t20 a0 b5_0 b5_1 b5_2 b5_3 b5_4 b5_5 = some r) : Wk Try.prog H Y 49 [.code (cp [1, 0, 1] (bodyOf Try.f49)), .code (cp [1, 1] (bodyOf Try.f49))] (FinX Try.prog Try.f49 [] (.tup [.agg (cT69o r.1), i64 r.2]) []) ⟨[(1, i64 t1), (3, .ptr 3 0), (5, .ptr 5 0), (6, .ptr 6 0), (20, bl t20)], [(3, ⟨true, 0, (cT69 a0)⟩), (5, ⟨true, 0, [bl b5_0, i64 b5_1, i64 b5_2, i64 b5_3, i64 b5_4, .sl false 6 b5_5.length ((eSol false).f b5_5)]⟩), (6, ⟨true, 0, [bl false, i64 0, i64 0, i64 0, i64 0, .nil, bl false, i64 0, i64 0, i64 0, i64 0, .nil, bl false, i64 0, i64 0, i64 0, i64 0, .nil, bl false, i64 0, i64 0, i64 0, i64 0, .nil, bl false, i64 0, i64 0, i64 0, i64 0, .nil, bl false, i64 0, i64 0, i64 0, i64 0, .nil, bl false, i64 0, i64 0, i64 0, i64 0, .nil, bl false, i64 0, i64 0, i64 0, i64 0, .nil, bl false, bl false, bl false, bl false, bl false, bl false, bl false, bl false]⟩)]⟩ := by
  unfold Dspec_Keep_1 at h
  refine x_frk 0 [] onil h (by kernel_rfl) (fun h => ?_) (fun h => ?_)
  · obtain ⟨v4, hv4, h⟩ := bind_some h
    replace h := Option.some.inj h; subst h
    exact x_end 7 [(1, .call [] [] (.agg (cT69o v4)) [])] [] (ocons (Tspec_l20Copy (Y := Y) n a0 _ hv4) onil) onil (by kernel_rfl)
  · obtain ⟨v5, hv5, h⟩ := bind_some h
    replace h := Option.some.inj h; subst h
    exact x_end 12 [(3, .call [] [] (.tup [.agg (cT69o v5.1), i64 v5.2]) [])] [] (ocons (Tspec_l20Keeps (Y := Y) n a0 t1 (Sol.mk b5_0 (Pl.mk b5_1 b5_2 b5_3 b5_4) b5_5) _ hv5) onil) onil (by kernel_rfl)
def Dspec_Keep (n : Nat) (a0 : Dsk) (a1 : Int) (a2 : Sol) : Option (Dsk × Int) :=
  (Dspec_DeskOk n a0).bind fun v0 => frk (!v0) (Dspec_Keep_0 n a0) ((Dspec_l20At a1).bind fun v2 => frk (!v2) (Dspec_Keep_0 n a0) ((Dspec_SolidOk n a2).bind fun v3 => Dspec_Keep_1 n a1 (!v3) a0 a2.inn a2.pl.A a2.pl.B a2.pl.C a2.pl.D a2.kids))
theorem Tspec_Keep {Y} (n : Nat) (a0 : Dsk) (a1 : Int) (a2 : Sol) (r : (Dsk × Int)) (h : Dspec_Keep n a0 a1 a2 = some r) : Big Try.prog H Y (.call 49 [.agg (cT69 a0), i64 a1, .agg [bl a2.inn, i64 a2.pl.A, i64 a2.pl.B, i64 a2.pl.C, i64 a2.pl.D, .sl false 6 a2.kids.length ((eSol false).f a2.kids)]] (lk []) (.tup [.agg (cT69o r.1), i64 r.2]) (lk [])) := by
  unfold Dspec_Keep at h
  refine x_call (fn := Try.f49) (c := bodyOf Try.f49) (bs0 := []) Try.func49 (by kernel_rfl) (by kernel_rfl) ?_
  obtain ⟨v0, hv0, h⟩ := bind_some h
  refine x_frk 14 [(5, .call [] [] (bl v0) [])] (ocons (Tspec_DeskOk (Y := Y) n a0 _ hv0) onil) h (by kernel_rfl) (fun h => ?_) (fun h => ?_)
  · exact x_to 12 [] onil (Tspec_Keep_0 n a0 r h) (by kernel_rfl)
  · obtain ⟨v2, hv2, h⟩ := bind_some h
    refine x_frk 5 [(1, .call [] [] (bl v2) [])] (ocons (Tspec_l20At (Y := Y) a1 _ hv2) onil) h (by kernel_rfl) (fun h => ?_) (fun h => ?_)
    · exact x_to 7 [] onil (Tspec_Keep_0 n a0 r h) (by kernel_rfl)
    · obtain ⟨v3, hv3, h⟩ := bind_some h
      exact x_to 5 [(1, .call [] [] (bl v3) [])] (ocons (Tspec_SolidOk (Y := Y) n a2 _ hv3) onil) (Tspec_Keep_1 n a1 (!v3) a0 a2.inn a2.pl.A a2.pl.B a2.pl.C a2.pl.D a2.kids r h) (by kernel_rfl)
/-! impl.isPlace -/
def Dimpl_isPlace (a0 : Int) : Option Bool :=
  (Dimpl_inRange a0 0 7).bind fun v0 => some v0
theorem Timpl_isPlace {Y} (a0 : Int) (r : Bool) (h : Dimpl_isPlace a0 = some r) : Big Try.prog H Y (.call 107 [i64 a0] (lk []) (bl r) (lk [])) := by
  unfold Dimpl_isPlace at h
  refine x_call (fn := Try.f107) (c := bodyOf Try.f107) (bs0 := []) Try.func107 (by kernel_rfl) (by kernel_rfl) ?_
  obtain ⟨v0, hv0, h⟩ := bind_some h
  replace h := Option.some.inj h; subst h
  exact x_end 10 [(2, .call [] [] (bl v0) [])] [] (ocons (Timpl_inRange (Y := Y) a0 0 7 _ hv0) onil) onil (by kernel_rfl)
end Evl.T
