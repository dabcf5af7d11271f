/- Walks. No condition. -/
import Derived.Test.YtljcjahaeebocaaGreatJd
import Derived.Test.YtljcjahaeebocaaGreatWs
import Derived.Test.YtljcjahaeebocaaGreatChecked
import Derived.WalkKit
import Derived.BigCall
import Derived.Deep.LoopGhost
import Derived.Lib.Walk
namespace Evl.T
open Go Evl Go.Proofs
set_option maxRecDepth 100000
def H : Hints := { mv := hasP [(33, 26), (45, 42), (78, 50), (78, 63), (95, 8), (95, 9), (123, 26), (162, 18)], own := hasP [(45, 1), (79, 1), (95, 1), (95, 2), (112, 1), (112, 2), (114, 1), (154, 2), (154, 3), (190, 1), (190, 2)], mt := hasP [(33, 0), (34, 0), (45, 0), (46, 0), (47, 0), (49, 0), (50, 0), (60, 0), (78, 0), (79, 0), (81, 0), (94, 0), (97, 0), (124, 0), (129, 0), (138, 0), (153, 0), (154, 0), (177, 0), (180, 0), (189, 0)], eqt := fun t => [25, 159].contains t, fl := fun f => [78].contains f }
abbrev Dk8 := (Sol × Sol × Sol × Sol × Sol × Sol × Sol × Sol) × (Bool × Bool × Bool × Bool × Bool × Bool × Bool × Bool)
def kF (a : Dk8) : List (List AV) := [(eSol false).f a.1.1.kids, (eSol false).f a.1.2.1.kids, (eSol false).f a.1.2.2.1.kids, (eSol false).f a.1.2.2.2.1.kids, (eSol false).f a.1.2.2.2.2.1.kids, (eSol false).f a.1.2.2.2.2.2.1.kids, (eSol false).f a.1.2.2.2.2.2.2.1.kids, (eSol false).f a.1.2.2.2.2.2.2.2.kids]
theorem oSh8 (a : Dk8) {ps : List Prop} (hs : All ps) : All ((shareL ((eSol true).f a.1.1.kids) = (eSol false).f a.1.1.kids) :: (shareL ((eSol true).f a.1.2.1.kids) = (eSol false).f a.1.2.1.kids) :: (shareL ((eSol true).f a.1.2.2.1.kids) = (eSol false).f a.1.2.2.1.kids) :: (shareL ((eSol true).f a.1.2.2.2.1.kids) = (eSol false).f a.1.2.2.2.1.kids) :: (shareL ((eSol true).f a.1.2.2.2.2.1.kids) = (eSol false).f a.1.2.2.2.2.1.kids) :: (shareL ((eSol true).f a.1.2.2.2.2.2.1.kids) = (eSol false).f a.1.2.2.2.2.2.1.kids) :: (shareL ((eSol true).f a.1.2.2.2.2.2.2.1.kids) = (eSol false).f a.1.2.2.2.2.2.2.1.kids) :: (shareL ((eSol true).f a.1.2.2.2.2.2.2.2.kids) = (eSol false).f a.1.2.2.2.2.2.2.2.kids) :: ps) := (ocons (Enc.share (eSol true) (eSol false) (sSol true) a.1.1.kids) (ocons (Enc.share (eSol true) (eSol false) (sSol true) a.1.2.1.kids) (ocons (Enc.share (eSol true) (eSol false) (sSol true) a.1.2.2.1.kids) (ocons (Enc.share (eSol true) (eSol false) (sSol true) a.1.2.2.2.1.kids) (ocons (Enc.share (eSol true) (eSol false) (sSol true) a.1.2.2.2.2.1.kids) (ocons (Enc.share (eSol true) (eSol false) (sSol true) a.1.2.2.2.2.2.1.kids) (ocons (Enc.share (eSol true) (eSol false) (sSol true) a.1.2.2.2.2.2.2.1.kids) (ocons (Enc.share (eSol true) (eSol false) (sSol true) a.1.2.2.2.2.2.2.2.kids) hs))))))))
theorem mixW : Tryz.prog.follows .mixedOrders = true := by decide +kernel
theorem eqW : EqtOk Tryz.prog H := eqt_of fun t ht => by
  have h : [25, 159].contains t = true := ht
  have : t = 25 ∨ t = 159 := by simpa using h
  rcases this with rfl | rfl
  · exact .inl ⟨by kernel_rfl, by kernel_rfl, by kernel_rfl, by kernel_rfl, by kernel_rfl⟩
  · exact .inr ⟨⟨3, 3, (Tryz.prog.info? 3).get (by kernel_rfl), by kernel_rfl, (Option.some_get _).symm, by kernel_rfl, by kernel_rfl, by kernel_rfl, by kernel_rfl⟩, by kernel_rfl⟩

/-! laws.big -/
def Dlaws_big (a0 : (List Int)) : Option Bool :=
  some (decide ((a0.length : Int) > 1048576))
theorem Tlaws_big {Y} (a0 : (List Int)) (r : Bool) (h : Dlaws_big a0 = some r) : Big Tryz.prog H Y (.call 6 [.sl false 1 a0.length ((eU8).f a0)] (lk []) (bl r) (lk [])) := by
  unfold Dlaws_big at h
  refine x_call (fn := Tryz.f6) (c := bodyOf Tryz.f6) (bs0 := []) Tryz.func6 (by kernel_rfl) (by kernel_rfl) ?_
  replace h := Option.some.inj h; subst h
  exact x_end 11 [] [] onil onil (by kernel_rfl)
/-! spec.l1New -/
def Dspec_l1New_0 (_n : Nat) (rec0 : (Int × Int) → Option ((List Int) × Int × Int)) (t0 : List Int) (t3 t4 : Int) (t15 : Bool) : Option ((List Int) × Int × Int) :=
  frk t15 ((lget t0 t4).bind fun v0 => rec0 (bAnd .i64 (w64 ((w64 ((w64 (t3 * 137)) + (w64 v0))) + 11)) 1073741823, w64 (t4 + 1))) (some (t0, 0, t3))
theorem Tspec_l1New_0 {Y} (n : Nat) (rec0 : (Int × Int) → Option ((List Int) × Int × Int)) (t0 : List Int) (hrec0 : ∀ (a : (Int × Int)) (r : ((List Int) × Int × Int)), rec0 a = some r → Wk Tryz.prog H Y 32 [.code (cp [1, 1, 0, 1, 0] (bodyOf Tryz.f32)), .blk 0, .code (cp [1, 1, 1] (bodyOf Tryz.f32))] (FinX Tryz.prog Tryz.f32 [] (.nbx [.sl false 1 r.1.length ((eU8).f r.1), i64 r.2.1, i64 r.2.2]) []) ⟨[(0, .sl false 1 t0.length ((eU8).f t0)), (3, i64 a.1), (4, i64 a.2)], []⟩) (t3 t4 : Int) (t15 : Bool) (r : ((List Int) × Int × Int)) (h : Dspec_l1New_0 n rec0 t0 t3 t4 t15 = some r) : Wk Tryz.prog H Y 32 [.code (cp [1, 1, 0, 1, 0, 0, 0, 1] (bodyOf Tryz.f32)), .code (cp [1, 1, 0, 1, 0, 0, 1] (bodyOf Tryz.f32)), .lp (cp [1, 1, 0, 1, 0] (bodyOf Tryz.f32)), .blk 0, .code (cp [1, 1, 1] (bodyOf Tryz.f32))] (FinX Tryz.prog Tryz.f32 [] (.nbx [.sl false 1 r.1.length ((eU8).f r.1), i64 r.2.1, i64 r.2.2]) []) ⟨[(0, .sl false 1 t0.length ((eU8).f t0)), (3, i64 t3), (4, i64 t4), (15, bl t15)], []⟩ := by
  unfold Dspec_l1New_0 at h
  refine x_frk 0 [] onil h (by kernel_rfl) (fun h => ?_) (fun h => ?_)
  · obtain ⟨v0, hv0, h⟩ := bind_some h
    exact x_to 23 [(4, .val (.cptr (eU8.c v0 ++ (eU8).f ((t0).drop (Int.toNat t4 + 1)))))] (ocons (ix eU8 hv0) onil) (hrec0 (bAnd .i64 (w64 ((w64 ((w64 (t3 * 137)) + (w64 v0))) + 11)) 1073741823, w64 (t4 + 1)) r h) (by kernel_rfl)
  · replace h := Option.some.inj h; subst h
    exact x_end 9 [] [] onil onil (by kernel_rfl)
def Dspec_l1New_1 (n : Nat) (t0 : List Int) (rec0 : (Int × Int) → Option ((List Int) × Int × Int)) (a : (Int × Int)) : Option ((List Int) × Int × Int) :=
  match a with
  | (t3, t4) => frk (decide (t4 < (t0.length : Int))) (Dspec_l1New_0 n rec0 t0 t3 t4 (decide (t4 < 4000))) (some (t0, 0, t3))
theorem Tspec_l1New_1 {Y} (n : Nat) (t0 : List Int) : ∀ (m : Nat) (a : (Int × Int)) (r : ((List Int) × Int × Int)), loopN (Dspec_l1New_1 n t0) m a = some r → Wk Tryz.prog H Y 32 [.code (cp [1, 1, 0, 1, 0] (bodyOf Tryz.f32)), .blk 0, .code (cp [1, 1, 1] (bodyOf Tryz.f32))] (FinX Tryz.prog Tryz.f32 [] (.nbx [.sl false 1 r.1.length ((eU8).f r.1), i64 r.2.1, i64 r.2.2]) []) ⟨[(0, .sl false 1 t0.length ((eU8).f t0)), (3, i64 a.1), (4, i64 a.2)], []⟩ := by
  refine loopN_ind (fun rec0 hrec0 a r h => ?_)
  obtain ⟨t3, t4⟩ := a
  unfold Dspec_l1New_1 at h
  refine x_frk 9 [] onil h (by kernel_rfl) (fun h => ?_) (fun h => ?_)
  · exact x_to 4 [] onil (Tspec_l1New_0 n rec0 t0 hrec0 t3 t4 (decide (t4 < 4000)) r h) (by kernel_rfl)
  · replace h := Option.some.inj h; subst h
    exact x_end 14 [] [] onil onil (by kernel_rfl)
def Dspec_l1New (n : Nat) (a0 : (List Int)) : Option ((List Int) × Int × Int) :=
  loopN (Dspec_l1New_1 n a0) n (w64 (142142 + (a0.length : Int)), 0)
theorem Tspec_l1New {Y} (n : Nat) (a0 : (List Int)) (r : ((List Int) × Int × Int)) (h : Dspec_l1New n a0 = some r) : Big Tryz.prog H Y (.call 32 [.sl false 1 a0.length ((eU8).f a0)] (lk []) (.nbx [.sl false 1 r.1.length ((eU8).f r.1), i64 r.2.1, i64 r.2.2]) (lk [])) := by
  unfold Dspec_l1New at h
  refine x_call (fn := Tryz.f32) (c := bodyOf Tryz.f32) (bs0 := []) Tryz.func32 (by kernel_rfl) (by kernel_rfl) ?_
  exact x_to 17 [] onil (Tspec_l1New_1 n a0 n (w64 (142142 + (a0.length : Int)), 0) r h) (by kernel_rfl)
/-! spec.l1Byte -/
def Dspec_l1Byte (a0 : ((List Int) × Int × Int)) : Option (Int × ((List Int) × Int × Int)) :=
  frk (decide (a0.2.1 < (a0.1.length : Int))) ((lget a0.1 a0.2.1).bind fun v0 => some (bAnd .i64 (w64 ((bAnd .i64 (bXor .i64 (Int.fdiv (w64 ((w64 (a0.2.2 * 6364136223846793005)) + 1442695040888963407)) 8589934592) (Int.fdiv (w64 ((w64 (a0.2.2 * 6364136223846793005)) + 1442695040888963407)) 140737488355328)) 255) + (w64 v0))) 255, (a0.1, w64 (a0.2.1 + 1), w64 ((w64 (a0.2.2 * 6364136223846793005)) + 1442695040888963407)))) (some (bAnd .i64 (bXor .i64 (Int.fdiv (w64 ((w64 (a0.2.2 * 6364136223846793005)) + 1442695040888963407)) 8589934592) (Int.fdiv (w64 ((w64 (a0.2.2 * 6364136223846793005)) + 1442695040888963407)) 140737488355328)) 255, (a0.1, a0.2.1, w64 ((w64 (a0.2.2 * 6364136223846793005)) + 1442695040888963407))))
theorem Tspec_l1Byte {Y} (a0 : ((List Int) × Int × Int)) (r : (Int × ((List Int) × Int × Int))) (h : Dspec_l1Byte a0 = some r) : Big Tryz.prog H Y (.call 97 [.ptr 1000 0] (lk [(1000, ⟨true, 0, [.sl false 1 a0.1.length ((eU8).f a0.1), i64 a0.2.1, i64 a0.2.2]⟩)]) (i64 r.1) (lk [(1000, ⟨true, 0, [.sl false 1 r.2.1.length ((eU8).f r.2.1), i64 r.2.2.1, i64 r.2.2.2]⟩)])) := by
  unfold Dspec_l1Byte at h
  refine x_call (fn := Tryz.f97) (c := bodyOf Tryz.f97) (bs0 := [(1000, ⟨true, 0, [.bad, .bad, .bad]⟩)]) Tryz.func97 (by kernel_rfl) (by kernel_rfl) ?_
  refine x_frk 47 [] onil h (by kernel_rfl) (fun h => ?_) (fun h => ?_)
  · obtain ⟨v0, hv0, h⟩ := bind_some h
    replace h := Option.some.inj h; subst h
    exact x_end 34 [(9, .val (.cptr (eU8.c v0 ++ (eU8).f ((a0.1).drop (Int.toNat a0.2.1 + 1)))))] [] (ocons (ix eU8 hv0) onil) onil (by kernel_rfl)
  · replace h := Option.some.inj h; subst h
    exact x_end 6 [] [] onil onil (by kernel_rfl)
/-! spec.l1Below -/
def Dspec_l1Below (a0 : ((List Int) × Int × Int)) (a1 : Int) : Option (Int × ((List Int) × Int × Int)) :=
  frk (decide (a1 ≤ 0)) (some (0, a0)) (frk (decide (a1 ≤ 256)) ((Dspec_l1Byte a0).bind fun v0 => (rm .i64 v0.1 a1).bind fun v1 => some (v1, v0.2)) ((Dspec_l1Byte a0).bind fun v2 => (Dspec_l1Byte v2.2).bind fun v3 => (Dspec_l1Byte v3.2).bind fun v4 => (rm .i64 (w64 ((w64 ((w64 (v2.1 * 65536)) + (w64 (v3.1 * 256)))) + v4.1)) a1).bind fun v5 => some (v5, v4.2)))
theorem Tspec_l1Below {Y} (a0 : ((List Int) × Int × Int)) (a1 : Int) (r : (Int × ((List Int) × Int × Int))) (h : Dspec_l1Below a0 a1 = some r) : Big Tryz.prog H Y (.call 46 [.ptr 1000 0, i64 a1] (lk [(1000, ⟨true, 0, [.sl false 1 a0.1.length ((eU8).f a0.1), i64 a0.2.1, i64 a0.2.2]⟩)]) (i64 r.1) (lk [(1000, ⟨true, 0, [.sl false 1 r.2.1.length ((eU8).f r.2.1), i64 r.2.2.1, i64 r.2.2.2]⟩)])) := by
  unfold Dspec_l1Below at h
  refine x_call (fn := Tryz.f46) (c := bodyOf Tryz.f46) (bs0 := [(1000, ⟨true, 0, [.bad, .bad, .bad]⟩)]) Tryz.func46 (by kernel_rfl) (by kernel_rfl) ?_
  refine x_frk 10 [] onil h (by kernel_rfl) (fun h => ?_) (fun h => ?_)
  · replace h := Option.some.inj h; subst h
    exact x_end 4 [] [] onil onil (by kernel_rfl)
  · refine x_frk 7 [] onil h (by kernel_rfl) (fun h => ?_) (fun h => ?_)
    · obtain ⟨v0, hv0, h⟩ := bind_some h
      obtain ⟨v1, hv1, h⟩ := bind_some h
      replace h := Option.some.inj h; subst h
      exact x_end 8 [(1, .call [] [] (i64 v0.1) [(1000, ⟨true, 0, [.sl false 1 v0.2.1.length ((eU8).f v0.2.1), i64 v0.2.2.1, i64 v0.2.2.2]⟩)]), (1, .val (i64 v1))] [] (ocons (Tspec_l1Byte (Y := Y) a0 _ hv0) (ocons (rmOk hv1) onil)) onil (by kernel_rfl)
    · obtain ⟨v2, hv2, h⟩ := bind_some h
      obtain ⟨v3, hv3, h⟩ := bind_some h
      obtain ⟨v4, hv4, h⟩ := bind_some h
      obtain ⟨v5, hv5, h⟩ := bind_some h
      replace h := Option.some.inj h; subst h
      exact x_end 32 [(1, .call [] [] (i64 v2.1) [(1000, ⟨true, 0, [.sl false 1 v2.2.1.length ((eU8).f v2.2.1), i64 v2.2.2.1, i64 v2.2.2.2]⟩)]), (2, .call [] [] (i64 v3.1) [(1000, ⟨true, 0, [.sl false 1 v3.2.1.length ((eU8).f v3.2.1), i64 v3.2.2.1, i64 v3.2.2.2]⟩)]), (2, .call [] [] (i64 v4.1) [(1000, ⟨true, 0, [.sl false 1 v4.2.1.length ((eU8).f v4.2.1), i64 v4.2.2.1, i64 v4.2.2.2]⟩)]), (9, .val (i64 v5))] [] (ocons (Tspec_l1Byte (Y := Y) a0 _ hv2) (ocons (Tspec_l1Byte (Y := Y) v2.2 _ hv3) (ocons (Tspec_l1Byte (Y := Y) v3.2 _ hv4) (ocons (rmOk hv5) onil)))) onil (by kernel_rfl)
/-! spec.l1Int -/
def Dspec_l1Int (a0 : ((List Int) × Int × Int)) (a1 : (List Int)) : Option (Int × ((List Int) × Int × Int)) :=
  (Dspec_l1Below a0 (a1.length : Int)).bind fun v0 => (lget a1 v0.1).bind fun v1 => some (v1, v0.2)
theorem Tspec_l1Int {Y} (a0 : ((List Int) × Int × Int)) (a1 : (List Int)) (r : (Int × ((List Int) × Int × Int))) (h : Dspec_l1Int a0 a1 = some r) : Big Tryz.prog H Y (.call 79 [.ptr 1000 0, .sl false 1 a1.length ((eInt).f a1)] (lk [(1000, ⟨true, 0, [.sl false 1 a0.1.length ((eU8).f a0.1), i64 a0.2.1, i64 a0.2.2]⟩)]) (i64 r.1) (lk [(1000, ⟨true, 0, [.sl false 1 r.2.1.length ((eU8).f r.2.1), i64 r.2.2.1, i64 r.2.2.2]⟩)])) := by
  unfold Dspec_l1Int at h
  refine x_call (fn := Tryz.f79) (c := bodyOf Tryz.f79) (bs0 := [(1000, ⟨true, 0, [.bad, .bad, .bad]⟩)]) Tryz.func79 (by kernel_rfl) (by kernel_rfl) ?_
  obtain ⟨v0, hv0, h⟩ := bind_some h
  obtain ⟨v1, hv1, h⟩ := bind_some h
  replace h := Option.some.inj h; subst h
  exact x_end 15 [(5, .call [] [] (i64 v0.1) [(1000, ⟨true, 0, [.sl false 1 v0.2.1.length ((eU8).f v0.2.1), i64 v0.2.2.1, i64 v0.2.2.2]⟩)]), (0, .val (.cptr (eInt.c v1 ++ (eInt).f ((a1).drop (Int.toNat v0.1 + 1)))))] [] (ocons (Tspec_l1Below (Y := Y) a0 (a1.length : Int) _ hv0) (ocons (ix eInt hv1) onil)) onil (by kernel_rfl)
/-! spec.l3Coef -/
def Dspec_l3Coef (a0 : ((List Int) × Int × Int)) : Option (Int × ((List Int) × Int × Int)) :=
  (Dspec_l1Below a0 11).bind fun v0 => (Dspec_l1Int v0.2 [0, 0, 1, (-1), 2, (-3), w64 (v0.1 - 5)]).bind fun v1 => some v1
theorem Tspec_l3Coef {Y} (a0 : ((List Int) × Int × Int)) (r : (Int × ((List Int) × Int × Int))) (h : Dspec_l3Coef a0 = some r) : Big Tryz.prog H Y (.call 138 [.ptr 1000 0] (lk [(1000, ⟨true, 0, [.sl false 1 a0.1.length ((eU8).f a0.1), i64 a0.2.1, i64 a0.2.2]⟩)]) (i64 r.1) (lk [(1000, ⟨true, 0, [.sl false 1 r.2.1.length ((eU8).f r.2.1), i64 r.2.2.1, i64 r.2.2.2]⟩)])) := by
  unfold Dspec_l3Coef at h
  refine x_call (fn := Tryz.f138) (c := bodyOf Tryz.f138) (bs0 := [(1000, ⟨true, 0, [.bad, .bad, .bad]⟩)]) Tryz.func138 (by kernel_rfl) (by kernel_rfl) ?_
  obtain ⟨v0, hv0, h⟩ := bind_some h
  obtain ⟨v1, hv1, h⟩ := bind_some h
  replace h := Option.some.inj h; subst h
  exact x_end 14 [(3, .call [] [] (i64 v0.1) [(1000, ⟨true, 0, [.sl false 1 v0.2.1.length ((eU8).f v0.2.1), i64 v0.2.2.1, i64 v0.2.2.2]⟩)]), (2, .call [] [] (i64 v1.1) [(1000, ⟨true, 0, [.sl false 1 v1.2.1.length ((eU8).f v1.2.1), i64 v1.2.2.1, i64 v1.2.2.2]⟩)])] [] (ocons (Tspec_l1Below (Y := Y) a0 11 _ hv0) (ocons (Big.wka (show WkT [.ptr 1000 0, .sl true 1 7 ((eInt).f [0, 0, 1, (-1), 2, (-3), w64 (v0.1 - 5)])] [.ptr 1000 0, .sl false 1 7 ((eInt).f [0, 0, 1, (-1), 2, (-3), w64 (v0.1 - 5)])] from ⟨wkSameU _, wkShareU (L := [0, 0, 1, (-1), 2, (-3), w64 (v0.1 - 5)]) eInt eInt sInt, trivial⟩) (Tspec_l1Int (Y := Y) v0.2 [0, 0, 1, (-1), 2, (-3), w64 (v0.1 - 5)] _ hv1)) (ocons (len_row (L := [0, 0, 1, (-1), 2, (-3), w64 (v0.1 - 5)]) eInt) onil))) onil (by kernel_rfl)
/-! spec.l1Once -/
def Dspec_l1Once (a0 : ((List Int) × Int × Int)) (a1 : Int) : Option (Bool × ((List Int) × Int × Int)) :=
  (Dspec_l1Below a0 a1).bind fun v0 => some (v0.1 == 0, v0.2)
theorem Tspec_l1Once {Y} (a0 : ((List Int) × Int × Int)) (a1 : Int) (r : (Bool × ((List Int) × Int × Int))) (h : Dspec_l1Once a0 a1 = some r) : Big Tryz.prog H Y (.call 47 [.ptr 1000 0, i64 a1] (lk [(1000, ⟨true, 0, [.sl false 1 a0.1.length ((eU8).f a0.1), i64 a0.2.1, i64 a0.2.2]⟩)]) (bl r.1) (lk [(1000, ⟨true, 0, [.sl false 1 r.2.1.length ((eU8).f r.2.1), i64 r.2.2.1, i64 r.2.2.2]⟩)])) := by
  unfold Dspec_l1Once at h
  refine x_call (fn := Tryz.f47) (c := bodyOf Tryz.f47) (bs0 := [(1000, ⟨true, 0, [.bad, .bad, .bad]⟩)]) Tryz.func47 (by kernel_rfl) (by kernel_rfl) ?_
  obtain ⟨v0, hv0, h⟩ := bind_some h
  replace h := Option.some.inj h; subst h
  exact x_end 12 [(3, .call [] [] (i64 v0.1) [(1000, ⟨true, 0, [.sl false 1 v0.2.1.length ((eU8).f v0.2.1), i64 v0.2.2.1, i64 v0.2.2.2]⟩)])] [] (ocons (Tspec_l1Below (Y := Y) a0 a1 _ hv0) onil) onil (by kernel_rfl)
/-! spec.l1Num -/
def Dspec_l1Num_1 (_n : Nat) (t0 : Bool) (t1 : List Int) (t5 : Int) (_b4_0 : Bool) : Option Num :=
  frk t0 ((lsl t1 0 t5).bind fun v1 => chk (apB 8 (0 + v1.length)) (some (Num.mk (decide (t5 > 0)) ([] ++ v1)))) ((lsl t1 0 t5).bind fun v3 => chk (apB 8 (0 + v3.length)) (some (Num.mk false ([] ++ v3))))
theorem Tspec_l1Num_1 {Y} (n : Nat) (t0 : Bool) (t1 : List Int) (t5 : Int) (b4_0 : Bool) (r : Num) (h : Dspec_l1Num_1 n t0 t1 t5 b4_0 = some r) : Wk Tryz.prog H Y 165 [.code (cp [1, 1, 1, 0] (bodyOf Tryz.f165)), .code (cp [1, 1, 1, 1] (bodyOf Tryz.f165))] (FinX Tryz.prog Tryz.f165 [] (.agg [bl r.Neg, .sl true 1 r.D.length ((eInt).f r.D)]) []) ⟨[(0, bl t0), (1, .sl false 1 t1.length ((eInt).f t1)), (4, .ptr 4 0), (5, i64 t5)], [(4, ⟨true, 0, [bl b4_0, .nil]⟩)]⟩ := by
  unfold Dspec_l1Num_1 at h
  refine x_frk 3 [] onil h (by kernel_rfl) (fun h => ?_) (fun h => ?_)
  · obtain ⟨v1, hv1, h⟩ := bind_some h
    obtain ⟨c2, h⟩ := chk_some h
    replace h := Option.some.inj h; subst h
    exact x_end 11 [(6, .val (.sl false 1 v1.length ((eInt).f v1))), (0, .app false (List.length ([] ++ v1)) ((eInt).f ([] ++ v1)))] [] (ocons (slF eInt hv1) (ocons (len_row' (L := []) eInt) (ocons (app_one (L := []) (M := v1) eInt c2) (ocons (app_new (L := []) (M := v1) eInt) (ocons (app_m (L := []) (M := v1) eInt rfl) (ocons (len_row' (L := v1) eInt) onil)))))) (ocons (len_row (L := ([] ++ v1)) eInt) onil) (by kernel_rfl)
  · obtain ⟨v3, hv3, h⟩ := bind_some h
    obtain ⟨c4, h⟩ := chk_some h
    replace h := Option.some.inj h; subst h
    exact x_end 11 [(6, .val (.sl false 1 v3.length ((eInt).f v3))), (0, .app false (List.length ([] ++ v3)) ((eInt).f ([] ++ v3)))] [] (ocons (slF eInt hv3) (ocons (len_row' (L := []) eInt) (ocons (app_one (L := []) (M := v3) eInt c4) (ocons (app_new (L := []) (M := v3) eInt) (ocons (app_m (L := []) (M := v3) eInt rfl) (ocons (len_row' (L := v3) eInt) onil)))))) (ocons (len_row (L := ([] ++ v3)) eInt) onil) (by kernel_rfl)
def Dspec_l1Num_0 (n : Nat) (rec0 : Int → Option Num) (t0 : Bool) (t1 : List Int) (b4_0 : Bool) (t5 : Int) (t17 : Bool) : Option Num :=
  frk t17 (rec0 (w64 (t5 - 1))) (Dspec_l1Num_1 n t0 t1 t5 b4_0)
theorem Tspec_l1Num_0 {Y} (n : Nat) (rec0 : Int → Option Num) (t0 : Bool) (t1 : List Int) (b4_0 : Bool) (hrec0 : ∀ (a : Int) (r : Num), rec0 a = some r → Wk Tryz.prog H Y 165 [.code (cp [1, 1, 0, 0] (bodyOf Tryz.f165)), .blk 0, .code (cp [1, 1, 1] (bodyOf Tryz.f165))] (FinX Tryz.prog Tryz.f165 [] (.agg [bl r.Neg, .sl true 1 r.D.length ((eInt).f r.D)]) []) ⟨[(0, bl t0), (1, .sl false 1 t1.length ((eInt).f t1)), (4, .ptr 4 0), (5, i64 a)], [(4, ⟨true, 0, [bl b4_0, .nil]⟩)]⟩) (t5 : Int) (t17 : Bool) (r : Num) (h : Dspec_l1Num_0 n rec0 t0 t1 b4_0 t5 t17 = some r) : Wk Tryz.prog H Y 165 [.code (cp [1, 1, 0, 0, 0, 0, 1] (bodyOf Tryz.f165)), .code (cp [1, 1, 0, 0, 0, 1] (bodyOf Tryz.f165)), .lp (cp [1, 1, 0, 0] (bodyOf Tryz.f165)), .blk 0, .code (cp [1, 1, 1] (bodyOf Tryz.f165))] (FinX Tryz.prog Tryz.f165 [] (.agg [bl r.Neg, .sl true 1 r.D.length ((eInt).f r.D)]) []) ⟨[(0, bl t0), (1, .sl false 1 t1.length ((eInt).f t1)), (4, .ptr 4 0), (5, i64 t5), (17, bl t17)], [(4, ⟨true, 0, [bl b4_0, .nil]⟩)]⟩ := by
  unfold Dspec_l1Num_0 at h
  refine x_frk 0 [] onil h (by kernel_rfl) (fun h => ?_) (fun h => ?_)
  · exact x_to 9 [] onil (hrec0 (w64 (t5 - 1)) r h) (by kernel_rfl)
  · exact x_to 2 [] onil (Tspec_l1Num_1 n t0 t1 t5 b4_0 r h) (by kernel_rfl)
def Dspec_l1Num_2 (n : Nat) (t0 : Bool) (t1 : List Int) (b4_0 : Bool) (rec0 : Int → Option Num) (a : Int) : Option Num :=
  match a with
  | t5 => frk (decide (t5 > 0)) ((lget t1 (w64 (t5 - 1))).bind fun v0 => Dspec_l1Num_0 n rec0 t0 t1 b4_0 t5 (v0 == 0)) (Dspec_l1Num_1 n t0 t1 t5 b4_0)
theorem Tspec_l1Num_2 {Y} (n : Nat) (t0 : Bool) (t1 : List Int) (b4_0 : Bool) : ∀ (m : Nat) (a : Int) (r : Num), loopN (Dspec_l1Num_2 n t0 t1 b4_0) m a = some r → Wk Tryz.prog H Y 165 [.code (cp [1, 1, 0, 0] (bodyOf Tryz.f165)), .blk 0, .code (cp [1, 1, 1] (bodyOf Tryz.f165))] (FinX Tryz.prog Tryz.f165 [] (.agg [bl r.Neg, .sl true 1 r.D.length ((eInt).f r.D)]) []) ⟨[(0, bl t0), (1, .sl false 1 t1.length ((eInt).f t1)), (4, .ptr 4 0), (5, i64 a)], [(4, ⟨true, 0, [bl b4_0, .nil]⟩)]⟩ := by
  refine loopN_ind (fun rec0 hrec0 a r h => ?_)
  obtain ⟨t5, rfl⟩ : ∃ x, x = a := ⟨a, rfl⟩
  unfold Dspec_l1Num_2 at h
  refine x_frk 7 [] onil h (by kernel_rfl) (fun h => ?_) (fun h => ?_)
  · obtain ⟨v0, hv0, h⟩ := bind_some h
    exact x_to 8 [(3, .val (.cptr (eInt.c v0 ++ (eInt).f ((t1).drop (Int.toNat (w64 (t5 - 1)) + 1)))))] (ocons (ix eInt hv0) onil) (Tspec_l1Num_0 n rec0 t0 t1 b4_0 hrec0 t5 (v0 == 0) r h) (by kernel_rfl)
  · exact x_to 11 [] onil (Tspec_l1Num_1 n t0 t1 t5 b4_0 r h) (by kernel_rfl)
def Dspec_l1Num (n : Nat) (a0 : Bool) (a1 : (List Int)) : Option Num :=
  loopN (Dspec_l1Num_2 n a0 a1 false) n (a1.length : Int)
theorem Tspec_l1Num {Y} (n : Nat) (a0 : Bool) (a1 : (List Int)) (r : Num) (h : Dspec_l1Num n a0 a1 = some r) : Big Tryz.prog H Y (.call 165 [bl a0, .sl false 1 a1.length ((eInt).f a1)] (lk []) (.agg [bl r.Neg, .sl true 1 r.D.length ((eInt).f r.D)]) (lk [])) := by
  unfold Dspec_l1Num at h
  refine x_call (fn := Tryz.f165) (c := bodyOf Tryz.f165) (bs0 := []) Tryz.func165 (by kernel_rfl) (by kernel_rfl) ?_
  exact x_to 12 [] onil (Tspec_l1Num_2 n a0 a1 false n (a1.length : Int) r h) (by kernel_rfl)
/-! spec.Of -/
def Dspec_Of_1 (n : Nat) (t0 : Int) (_b2_0 : Bool) (l14 : List Int) : Option Num :=
  (Dspec_l1Num n (decide (t0 < 0)) l14).bind fun v1 => some v1
theorem Tspec_Of_1 {Y} (n : Nat) (t0 : Int) (b2_0 : Bool) (l14 : List Int) (r : Num) (h : Dspec_Of_1 n t0 b2_0 l14 = some r) : Wk Tryz.prog H Y 161 [.code (cp [1, 1, 1, 1, 1, 0] (bodyOf Tryz.f161)), .code (cp [1, 1, 1, 1, 1, 1] (bodyOf Tryz.f161))] (FinX Tryz.prog Tryz.f161 [] (.agg [bl r.Neg, .sl true 1 r.D.length ((eInt).f r.D)]) []) ⟨[(0, i64 t0), (2, .ptr 2 0), (4, .msl 14 l14.length)], [(2, ⟨true, 0, [bl b2_0, .nil]⟩), (14, ⟨true, 1, (eInt).f l14⟩)]⟩ := by
  unfold Dspec_Of_1 at h
  obtain ⟨v1, hv1, h⟩ := bind_some h
  replace h := Option.some.inj h; subst h
  exact x_end 7 [(3, .call [] [(eInt).f l14] (.agg [bl v1.Neg, .sl true 1 v1.D.length ((eInt).f v1.D)]) [])] [] (ocons (Tspec_l1Num (Y := Y) n (decide (t0 < 0)) l14 _ hv1) (ocons (len_row (L := l14) eInt) (ocons (Enc.share eInt eInt sInt l14) (ocons (show hasSh (.agg [bl v1.Neg, .sl true 1 v1.D.length ((eInt).f v1.D)]) = false by simp [hasSh, hasShL, nSh, nShI, nShB, nShP, nShT, nShN, nShPs]) onil)))) onil (by kernel_rfl)
def Dspec_Of_2 (n : Nat) (t0 : Int) (b2_0 : Bool) (rec0 : (Int × List Int) → Option Num) (a : (Int × List Int)) : Option Num :=
  match a with
  | (t3, l14) => frk (decide (t3 > 0)) (chk (apB 8 (l14.length + 1)) (rec0 (IntKind.u64.wrap (Int.tdiv t3 10000), (l14 ++ [w64 (Int.tmod t3 10000)])))) (Dspec_Of_1 n t0 b2_0 l14)
theorem Tspec_Of_2 {Y} (n : Nat) (t0 : Int) (b2_0 : Bool) : ∀ (m : Nat) (a : (Int × List Int)) (r : Num), loopN (Dspec_Of_2 n t0 b2_0) m a = some r → Wk Tryz.prog H Y 161 [.code (cp [1, 1, 1, 1, 0, 0] (bodyOf Tryz.f161)), .blk 0, .code (cp [1, 1, 1, 1, 1] (bodyOf Tryz.f161))] (FinX Tryz.prog Tryz.f161 [] (.agg [bl r.Neg, .sl true 1 r.D.length ((eInt).f r.D)]) []) ⟨[(0, i64 t0), (2, .ptr 2 0), (3, .lit (.int .u64 a.1)), (4, .msl 14 a.2.length)], [(2, ⟨true, 0, [bl b2_0, .nil]⟩), (14, ⟨true, 1, (eInt).f a.2⟩)]⟩ := by
  refine loopN_ind (fun _rec0 hrec0 a r h => ?_)
  obtain ⟨t3, l14⟩ := a
  unfold Dspec_Of_2 at h
  refine x_frk 7 [] onil h (by kernel_rfl) (fun h => ?_) (fun h => ?_)
  · obtain ⟨c0, h⟩ := chk_some h
    exact x_to 20 [(5, .app false (List.length (l14 ++ [w64 (Int.tmod t3 10000)])) ((eInt).f (l14 ++ [w64 (Int.tmod t3 10000)]))), (4, .ren 22 14)] (ocons (len_row' (L := l14) eInt) (ocons (app_one (L := l14) (M := [w64 (Int.tmod t3 10000)]) eInt c0) (ocons (app_new (L := l14) (M := [w64 (Int.tmod t3 10000)]) eInt) (ocons (app_m (L := l14) (M := [w64 (Int.tmod t3 10000)]) eInt rfl) (ocons (len_row' (L := [w64 (Int.tmod t3 10000)]) eInt) (ocons (Enc.noOwn eInt (fun _ => rfl) [w64 (Int.tmod t3 10000)]) (ocons (show 22 < 1000 ∧ 14 < 1000 by decide) onil))))))) (hrec0 (IntKind.u64.wrap (Int.tdiv t3 10000), (l14 ++ [w64 (Int.tmod t3 10000)])) r h) (by kernel_rfl)
  · exact x_to 2 [] onil (Tspec_Of_1 n t0 b2_0 l14 r h) (by kernel_rfl)
def Dspec_Of_0 (n : Nat) (t0 t3 : Int) (b2_0 : Bool) (l14 : List Int) : Option Num :=
  loopN (Dspec_Of_2 n t0 b2_0) n (t3, l14)
theorem Tspec_Of_0 {Y} (n : Nat) (t0 t3 : Int) (b2_0 : Bool) (l14 : List Int) (r : Num) (h : Dspec_Of_0 n t0 t3 b2_0 l14 = some r) : Wk Tryz.prog H Y 161 [.code (cp [1, 1, 1, 1, 0, 0] (bodyOf Tryz.f161)), .blk 0, .code (cp [1, 1, 1, 1, 1] (bodyOf Tryz.f161))] (FinX Tryz.prog Tryz.f161 [] (.agg [bl r.Neg, .sl true 1 r.D.length ((eInt).f r.D)]) []) ⟨[(0, i64 t0), (2, .ptr 2 0), (3, .lit (.int .u64 t3)), (4, .msl 14 l14.length)], [(2, ⟨true, 0, [bl b2_0, .nil]⟩), (14, ⟨true, 1, (eInt).f l14⟩)]⟩ := by
  unfold Dspec_Of_0 at h
  exact x_to 0 [] onil (Tspec_Of_2 n t0 b2_0 n (t3, l14) r h) (by kernel_rfl)
def Dspec_Of (n : Nat) (a0 : Int) : Option Num :=
  frk (decide (a0 < 0)) (Dspec_Of_0 n a0 (IntKind.u64.wrap ((IntKind.u64.wrap (w64 (0 - (w64 (a0 + 1))))) + 1)) false []) (Dspec_Of_0 n a0 (IntKind.u64.wrap a0) false [])
theorem Tspec_Of {Y} (n : Nat) (a0 : Int) (r : Num) (h : Dspec_Of n a0 = some r) : Big Tryz.prog H Y (.call 161 [i64 a0] (lk []) (.agg [bl r.Neg, .sl true 1 r.D.length ((eInt).f r.D)]) (lk [])) := by
  unfold Dspec_Of at h
  refine x_call (fn := Tryz.f161) (c := bodyOf Tryz.f161) (bs0 := []) Tryz.func161 (by kernel_rfl) (by kernel_rfl) ?_
  refine x_frk 16 [] onil h (by kernel_rfl) (fun h => ?_) (fun h => ?_)
  · exact x_to 15 [] onil (Tspec_Of_0 n a0 (IntKind.u64.wrap ((IntKind.u64.wrap (w64 (0 - (w64 (a0 + 1))))) + 1)) false [] r h) (by kernel_rfl)
  · exact x_to 8 [] onil (Tspec_Of_0 n a0 (IntKind.u64.wrap a0) false [] r h) (by kernel_rfl)
/-! spec.l1In -/
def Dspec_l1In (a0 a1 a2 : Int) : Option Bool :=
  frk (decide (a0 ≥ a1)) (some (decide (a0 ≤ a2))) (some false)
theorem Tspec_l1In {Y} (a0 a1 a2 : Int) (r : Bool) (h : Dspec_l1In a0 a1 a2 = some r) : Big Tryz.prog H Y (.call 42 [i64 a0, i64 a1, i64 a2] (lk []) (bl r) (lk [])) := by
  unfold Dspec_l1In at h
  refine x_call (fn := Tryz.f42) (c := bodyOf Tryz.f42) (bs0 := []) Tryz.func42 (by kernel_rfl) (by kernel_rfl) ?_
  refine x_frk 10 [] onil h (by kernel_rfl) (fun h => ?_) (fun h => ?_)
  · replace h := Option.some.inj h; subst h
    exact x_end 6 [] [] onil onil (by kernel_rfl)
  · replace h := Option.some.inj h; subst h
    exact x_end 6 [] [] onil onil (by kernel_rfl)
/-! spec.NumOk -/
def Dspec_NumOk_1 (_n : Nat) (t3 : Int) (b1_0 : Bool) (b1_1 : List Int) : Option Bool :=
  frk (decide (t3 ≤ 120)) (frk (t3 == 0) (frk (!b1_0) (some true) (frk (decide (t3 > 0)) ((lget b1_1 (w64 (t3 - 1))).bind fun v2 => some (v2 != 0)) (some false))) (frk (decide (t3 > 0)) ((lget b1_1 (w64 (t3 - 1))).bind fun v3 => some (v3 != 0)) (some false))) (some false)
theorem Tspec_NumOk_1 {Y} (n : Nat) (t3 : Int) (b1_0 : Bool) (b1_1 : List Int) (r : Bool) (h : Dspec_NumOk_1 n t3 b1_0 b1_1 = some r) : Wk Tryz.prog H Y 193 [.code (cp [1, 1, 1, 0] (bodyOf Tryz.f193)), .code (cp [1, 1, 1, 1] (bodyOf Tryz.f193))] (FinX Tryz.prog Tryz.f193 [] (bl r) []) ⟨[(1, .ptr 1 0), (3, i64 t3)], [(1, ⟨true, 0, [bl b1_0, .sl false 1 b1_1.length ((eInt).f b1_1)]⟩)]⟩ := by
  unfold Dspec_NumOk_1 at h
  refine x_frk 4 [] onil h (by kernel_rfl) (fun h => ?_) (fun h => ?_)
  · refine x_frk 3 [] onil h (by kernel_rfl) (fun h => ?_) (fun h => ?_)
    · refine x_frk 5 [] onil h (by kernel_rfl) (fun h => ?_) (fun h => ?_)
      · replace h := Option.some.inj h; subst h
        exact x_end 15 [] [] onil onil (by kernel_rfl)
      · refine x_frk 3 [] onil h (by kernel_rfl) (fun h => ?_) (fun h => ?_)
        · obtain ⟨v2, hv2, h⟩ := bind_some h
          replace h := Option.some.inj h; subst h
          exact x_end 12 [(4, .val (.cptr (eInt.c v2 ++ (eInt).f ((b1_1).drop (Int.toNat (w64 (t3 - 1)) + 1)))))] [] (ocons (ix eInt hv2) onil) onil (by kernel_rfl)
        · replace h := Option.some.inj h; subst h
          exact x_end 12 [] [] onil onil (by kernel_rfl)
    · refine x_frk 8 [] onil h (by kernel_rfl) (fun h => ?_) (fun h => ?_)
      · obtain ⟨v3, hv3, h⟩ := bind_some h
        replace h := Option.some.inj h; subst h
        exact x_end 12 [(4, .val (.cptr (eInt.c v3 ++ (eInt).f ((b1_1).drop (Int.toNat (w64 (t3 - 1)) + 1)))))] [] (ocons (ix eInt hv3) onil) onil (by kernel_rfl)
      · replace h := Option.some.inj h; subst h
        exact x_end 12 [] [] onil onil (by kernel_rfl)
  · replace h := Option.some.inj h; subst h
    exact x_end 23 [] [] onil onil (by kernel_rfl)
def Dspec_NumOk_0 (n : Nat) (rec0 : Int → Option Bool) (t3 : Int) (b1_0 : Bool) (b1_1 : List Int) (t4 : Int) (t14 : Bool) : Option Bool :=
  frk t14 ((lget b1_1 t4).bind fun v0 => (Dspec_l1In v0 0 9999).bind fun v1 => frk (!v1) (some false) (rec0 (w64 (t4 + 1)))) (Dspec_NumOk_1 n t3 b1_0 b1_1)
theorem Tspec_NumOk_0 {Y} (n : Nat) (rec0 : Int → Option Bool) (t3 : Int) (b1_0 : Bool) (b1_1 : List Int) (hrec0 : ∀ (a : Int) (r : Bool), rec0 a = some r → Wk Tryz.prog H Y 193 [.code (cp [1, 1, 0, 1, 0] (bodyOf Tryz.f193)), .blk 0, .code (cp [1, 1, 1] (bodyOf Tryz.f193))] (FinX Tryz.prog Tryz.f193 [] (bl r) []) ⟨[(1, .ptr 1 0), (3, i64 t3), (4, i64 a)], [(1, ⟨true, 0, [bl b1_0, .sl false 1 b1_1.length ((eInt).f b1_1)]⟩)]⟩) (t4 : Int) (t14 r : Bool) (h : Dspec_NumOk_0 n rec0 t3 b1_0 b1_1 t4 t14 = some r) : Wk Tryz.prog H Y 193 [.code (cp [1, 1, 0, 1, 0, 0, 0, 1] (bodyOf Tryz.f193)), .code (cp [1, 1, 0, 1, 0, 0, 1] (bodyOf Tryz.f193)), .lp (cp [1, 1, 0, 1, 0] (bodyOf Tryz.f193)), .blk 0, .code (cp [1, 1, 1] (bodyOf Tryz.f193))] (FinX Tryz.prog Tryz.f193 [] (bl r) []) ⟨[(1, .ptr 1 0), (3, i64 t3), (4, i64 t4), (14, bl t14)], [(1, ⟨true, 0, [bl b1_0, .sl false 1 b1_1.length ((eInt).f b1_1)]⟩)]⟩ := by
  unfold Dspec_NumOk_0 at h
  refine x_frk 0 [] onil h (by kernel_rfl) (fun h => ?_) (fun h => ?_)
  · obtain ⟨v0, hv0, h⟩ := bind_some h
    obtain ⟨v1, hv1, h⟩ := bind_some h
    refine x_frk 13 [(3, .val (.cptr (eInt.c v0 ++ (eInt).f ((b1_1).drop (Int.toNat t4 + 1))))), (1, .call [] [] (bl v1) [])] (ocons (ix eInt hv0) (ocons (Tspec_l1In (Y := Y) v0 0 9999 _ hv1) onil)) h (by kernel_rfl) (fun h => ?_) (fun h => ?_)
    · replace h := Option.some.inj h; subst h
      exact x_end 4 [] [] onil onil (by kernel_rfl)
    · exact x_to 8 [] onil (hrec0 (w64 (t4 + 1)) r h) (by kernel_rfl)
  · exact x_to 2 [] onil (Tspec_NumOk_1 n t3 b1_0 b1_1 r h) (by kernel_rfl)
def Dspec_NumOk_2 (n : Nat) (t3 : Int) (b1_0 : Bool) (b1_1 : List Int) (rec0 : Int → Option Bool) (a : Int) : Option Bool :=
  match a with
  | t4 => frk (decide (t4 < t3)) (Dspec_NumOk_0 n rec0 t3 b1_0 b1_1 t4 (decide (t4 ≤ 120))) (Dspec_NumOk_1 n t3 b1_0 b1_1)
theorem Tspec_NumOk_2 {Y} (n : Nat) (t3 : Int) (b1_0 : Bool) (b1_1 : List Int) : ∀ (m : Nat) (a : Int) (r : Bool), loopN (Dspec_NumOk_2 n t3 b1_0 b1_1) m a = some r → Wk Tryz.prog H Y 193 [.code (cp [1, 1, 0, 1, 0] (bodyOf Tryz.f193)), .blk 0, .code (cp [1, 1, 1] (bodyOf Tryz.f193))] (FinX Tryz.prog Tryz.f193 [] (bl r) []) ⟨[(1, .ptr 1 0), (3, i64 t3), (4, i64 a)], [(1, ⟨true, 0, [bl b1_0, .sl false 1 b1_1.length ((eInt).f b1_1)]⟩)]⟩ := by
  refine loopN_ind (fun rec0 hrec0 a r h => ?_)
  obtain ⟨t4, rfl⟩ : ∃ x, x = a := ⟨a, rfl⟩
  unfold Dspec_NumOk_2 at h
  refine x_frk 8 [] onil h (by kernel_rfl) (fun h => ?_) (fun h => ?_)
  · exact x_to 4 [] onil (Tspec_NumOk_0 n rec0 t3 b1_0 b1_1 hrec0 t4 (decide (t4 ≤ 120)) r h) (by kernel_rfl)
  · exact x_to 7 [] onil (Tspec_NumOk_1 n t3 b1_0 b1_1 r h) (by kernel_rfl)
def Dspec_NumOk (n : Nat) (a0 : Num) : Option Bool :=
  loopN (Dspec_NumOk_2 n (a0.D.length : Int) a0.Neg a0.D) n 0
theorem Tspec_NumOk {Y} (n : Nat) (a0 : Num) (r : Bool) (h : Dspec_NumOk n a0 = some r) : Big Tryz.prog H Y (.call 193 [.agg [bl a0.Neg, .sl false 1 a0.D.length ((eInt).f a0.D)]] (lk []) (bl r) (lk [])) := by
  unfold Dspec_NumOk at h
  refine x_call (fn := Tryz.f193) (c := bodyOf Tryz.f193) (bs0 := []) Tryz.func193 (by kernel_rfl) (by kernel_rfl) ?_
  exact x_to 18 [] onil (Tspec_NumOk_2 n (a0.D.length : Int) a0.Neg a0.D n 0 r h) (by kernel_rfl)
/-! spec.l1Mag -/
def Dspec_l1Mag (n : Nat) (a0 : Num) : Option (List Int) :=
  (Dspec_NumOk n a0).bind fun v0 => frk (!v0) (some []) (some a0.D)
theorem Tspec_l1Mag {Y} (n : Nat) (a0 : Num) (r : (List Int)) (h : Dspec_l1Mag n a0 = some r) : Big Tryz.prog H Y (.call 186 [.agg [bl a0.Neg, .sl false 1 a0.D.length ((eInt).f a0.D)]] (lk []) (.sl false 1 r.length ((eInt).f r)) (lk [])) := by
  unfold Dspec_l1Mag at h
  refine x_call (fn := Tryz.f186) (c := bodyOf Tryz.f186) (bs0 := []) Tryz.func186 (by kernel_rfl) (by kernel_rfl) ?_
  obtain ⟨v0, hv0, h⟩ := bind_some h
  refine x_frk 12 [(3, .call [] [] (bl v0) [])] (ocons (Tspec_NumOk (Y := Y) n a0 _ hv0) onil) h (by kernel_rfl) (fun h => ?_) (fun h => ?_)
  · replace h := Option.some.inj h; subst h
    exact x_endS 5 [] onil (ocons (len_row (L := []) eInt) onil) (wkShare (L := []) eInt eInt sInt) (by kernel_rfl)
  · replace h := Option.some.inj h; subst h
    exact x_end 7 [] [] onil onil (by kernel_rfl)
/-! spec.l1CmpMag -/
def Dspec_l1CmpMag_0 (_n : Nat) (t0 : List Int) (t1 : List Int) (rec0 : Int → Option Int) (a : Int) : Option Int :=
  match a with
  | t5 => frk (decide (t5 ≥ 0)) ((lget t0 t5).bind fun v0 => (lget t1 t5).bind fun v1 => frk (v0 != v1) ((lget t0 t5).bind fun v2 => (lget t1 t5).bind fun v3 => frk (decide (v2 < v3)) (some (-1)) (some 1)) (rec0 (w64 (t5 - 1)))) (some 0)
theorem Tspec_l1CmpMag_0 {Y} (n : Nat) (t0 : List Int) (t1 : List Int) : ∀ (m : Nat) (a r : Int), loopN (Dspec_l1CmpMag_0 n t0 t1) m a = some r → Wk Tryz.prog H Y 182 [.code (cp [1, 1, 0, 1, 0] (bodyOf Tryz.f182)), .blk 0, .code (cp [1, 1, 1] (bodyOf Tryz.f182))] (FinX Tryz.prog Tryz.f182 [] (i64 r) []) ⟨[(0, .sl false 1 t0.length ((eInt).f t0)), (1, .sl false 1 t1.length ((eInt).f t1)), (5, i64 a)], []⟩ := by
  refine loopN_ind (fun _rec0 hrec0 a r h => ?_)
  obtain ⟨t5, rfl⟩ : ∃ x, x = a := ⟨a, rfl⟩
  unfold Dspec_l1CmpMag_0 at h
  refine x_frk 7 [] onil h (by kernel_rfl) (fun h => ?_) (fun h => ?_)
  · obtain ⟨v0, hv0, h⟩ := bind_some h
    obtain ⟨v1, hv1, h⟩ := bind_some h
    refine x_frk 15 [(2, .val (.cptr (eInt.c v0 ++ (eInt).f ((t0).drop (Int.toNat t5 + 1))))), (3, .val (.cptr (eInt.c v1 ++ (eInt).f ((t1).drop (Int.toNat t5 + 1)))))] (ocons (ix eInt hv0) (ocons (ix eInt hv1) onil)) h (by kernel_rfl) (fun h => ?_) (fun h => ?_)
    · obtain ⟨v2, hv2, h⟩ := bind_some h
      obtain ⟨v3, hv3, h⟩ := bind_some h
      refine x_frk 13 [(2, .val (.cptr (eInt.c v2 ++ (eInt).f ((t0).drop (Int.toNat t5 + 1))))), (3, .val (.cptr (eInt.c v3 ++ (eInt).f ((t1).drop (Int.toNat t5 + 1)))))] (ocons (ix eInt hv2) (ocons (ix eInt hv3) onil)) h (by kernel_rfl) (fun h => ?_) (fun h => ?_)
      · replace h := Option.some.inj h; subst h
        exact x_end 4 [] [] onil onil (by kernel_rfl)
      · replace h := Option.some.inj h; subst h
        exact x_end 5 [] [] onil onil (by kernel_rfl)
    · exact x_to 8 [] onil (hrec0 (w64 (t5 - 1)) r h) (by kernel_rfl)
  · replace h := Option.some.inj h; subst h
    exact x_end 5 [] [] onil onil (by kernel_rfl)
def Dspec_l1CmpMag (n : Nat) (a0 : (List Int)) (a1 : (List Int)) : Option Int :=
  frk ((a0.length : Int) != (a1.length : Int)) (frk (decide ((a0.length : Int) < (a1.length : Int))) (some (-1)) (some 1)) (loopN (Dspec_l1CmpMag_0 n a0 a1) n (w64 ((a0.length : Int) - 1)))
theorem Tspec_l1CmpMag {Y} (n : Nat) (a0 : (List Int)) (a1 : (List Int)) (r : Int) (h : Dspec_l1CmpMag n a0 a1 = some r) : Big Tryz.prog H Y (.call 182 [.sl false 1 a0.length ((eInt).f a0), .sl false 1 a1.length ((eInt).f a1)] (lk []) (i64 r) (lk [])) := by
  unfold Dspec_l1CmpMag at h
  refine x_call (fn := Tryz.f182) (c := bodyOf Tryz.f182) (bs0 := []) Tryz.func182 (by kernel_rfl) (by kernel_rfl) ?_
  refine x_frk 13 [] onil h (by kernel_rfl) (fun h => ?_) (fun h => ?_)
  · refine x_frk 9 [] onil h (by kernel_rfl) (fun h => ?_) (fun h => ?_)
    · replace h := Option.some.inj h; subst h
      exact x_end 4 [] [] onil onil (by kernel_rfl)
    · replace h := Option.some.inj h; subst h
      exact x_end 5 [] [] onil onil (by kernel_rfl)
  · exact x_to 10 [] onil (Tspec_l1CmpMag_0 n a0 a1 n (w64 ((a0.length : Int) - 1)) r h) (by kernel_rfl)
/-! spec.l1Guess -/
def Dspec_l1Guess_4 (_n : Nat) (t5 t7 : Int) : Option Int :=
  (qt .i64 t5 t7).bind fun v2 => frk (decide (v2 > 0)) ((qt .i64 t5 t7).bind fun v3 => some v3) (some 1)
theorem Tspec_l1Guess_4 {Y} (n : Nat) (t5 t7 r : Int) (h : Dspec_l1Guess_4 n t5 t7 = some r) : Wk Tryz.prog H Y 183 [.code (cp [1, 1, 1, 1, 1, 1, 0, 0] (bodyOf Tryz.f183)), .code (cp [1, 1, 1, 1, 1, 1, 0, 1] (bodyOf Tryz.f183)), .code (cp [1, 1, 1, 1, 1, 1, 1] (bodyOf Tryz.f183))] (FinX Tryz.prog Tryz.f183 [] (i64 r) []) ⟨[(5, i64 t5), (7, i64 t7)], []⟩ := by
  unfold Dspec_l1Guess_4 at h
  obtain ⟨v2, hv2, h⟩ := bind_some h
  refine x_frk 6 [(2, .val (i64 v2))] (ocons (qtOk hv2) onil) h (by kernel_rfl) (fun h => ?_) (fun h => ?_)
  · obtain ⟨v3, hv3, h⟩ := bind_some h
    replace h := Option.some.inj h; subst h
    exact x_end 7 [(2, .val (i64 v3))] [] (ocons (qtOk hv3) onil) onil (by kernel_rfl)
  · replace h := Option.some.inj h; subst h
    exact x_end 5 [] [] onil onil (by kernel_rfl)
def Dspec_l1Guess_3 (n : Nat) (t5 t7 : Int) (t53 : Bool) : Option Int :=
  frk t53 (Dspec_l1Guess_4 n t5 (w64 (t7 + 1))) (Dspec_l1Guess_4 n t5 t7)
theorem Tspec_l1Guess_3 {Y} (n : Nat) (t5 t7 : Int) (t53 : Bool) (r : Int) (h : Dspec_l1Guess_3 n t5 t7 t53 = some r) : Wk Tryz.prog H Y 183 [.code (cp [1, 1, 1, 1, 1, 0, 1] (bodyOf Tryz.f183)), .code (cp [1, 1, 1, 1, 1, 1] (bodyOf Tryz.f183))] (FinX Tryz.prog Tryz.f183 [] (i64 r) []) ⟨[(5, i64 t5), (7, i64 t7), (53, bl t53)], []⟩ := by
  unfold Dspec_l1Guess_3 at h
  refine x_frk 0 [] onil h (by kernel_rfl) (fun h => ?_) (fun h => ?_)
  · exact x_to 7 [] onil (Tspec_l1Guess_4 n t5 (w64 (t7 + 1)) r h) (by kernel_rfl)
  · exact x_to 3 [] onil (Tspec_l1Guess_4 n t5 t7 r h) (by kernel_rfl)
def Dspec_l1Guess_2 (n : Nat) (rec1 : (Int × Int) → Option Int) (t1 : List Int) (t5 t7 t8 : Int) (t41 : Bool) : Option Int :=
  frk t41 ((lget t1 t8).bind fun v1 => rec1 (w64 ((w64 (t7 * 10000)) + v1), w64 (t8 - 1))) (Dspec_l1Guess_3 n t5 t7 (decide ((t1.length : Int) > 3)))
theorem Tspec_l1Guess_2 {Y} (n : Nat) (rec1 : (Int × Int) → Option Int) (t1 : List Int) (t5 : Int) (hrec1 : ∀ (a : (Int × Int)) (r : Int), rec1 a = some r → Wk Tryz.prog H Y 183 [.code (cp [1, 1, 1, 1, 0, 1, 0] (bodyOf Tryz.f183)), .blk 2, .code (cp [1, 1, 1, 1, 1] (bodyOf Tryz.f183))] (FinX Tryz.prog Tryz.f183 [] (i64 r) []) ⟨[(1, .sl false 1 t1.length ((eInt).f t1)), (5, i64 t5), (7, i64 a.1), (8, i64 a.2)], []⟩) (t7 t8 : Int) (t41 : Bool) (r : Int) (h : Dspec_l1Guess_2 n rec1 t1 t5 t7 t8 t41 = some r) : Wk Tryz.prog H Y 183 [.code (cp [1, 1, 1, 1, 0, 1, 0, 0, 0, 1] (bodyOf Tryz.f183)), .code (cp [1, 1, 1, 1, 0, 1, 0, 0, 1] (bodyOf Tryz.f183)), .lp (cp [1, 1, 1, 1, 0, 1, 0] (bodyOf Tryz.f183)), .blk 2, .code (cp [1, 1, 1, 1, 1] (bodyOf Tryz.f183))] (FinX Tryz.prog Tryz.f183 [] (i64 r) []) ⟨[(1, .sl false 1 t1.length ((eInt).f t1)), (5, i64 t5), (7, i64 t7), (8, i64 t8), (41, bl t41)], []⟩ := by
  unfold Dspec_l1Guess_2 at h
  refine x_frk 0 [] onil h (by kernel_rfl) (fun h => ?_) (fun h => ?_)
  · obtain ⟨v1, hv1, h⟩ := bind_some h
    exact x_to 20 [(4, .val (.cptr (eInt.c v1 ++ (eInt).f ((t1).drop (Int.toNat t8 + 1)))))] (ocons (ix eInt hv1) onil) (hrec1 (w64 ((w64 (t7 * 10000)) + v1), w64 (t8 - 1)) r h) (by kernel_rfl)
  · exact x_to 8 [] onil (Tspec_l1Guess_3 n t5 t7 (decide ((t1.length : Int) > 3)) r h) (by kernel_rfl)
def Dspec_l1Guess_5 (n : Nat) (t1 : List Int) (t5 : Int) (rec1 : (Int × Int) → Option Int) (a : (Int × Int)) : Option Int :=
  match a with
  | (t7, t8) => frk (decide (t8 ≥ 0)) (Dspec_l1Guess_2 n rec1 t1 t5 t7 t8 (decide (t8 ≥ (w64 ((t1.length : Int) - 3))))) (Dspec_l1Guess_3 n t5 t7 (decide ((t1.length : Int) > 3)))
theorem Tspec_l1Guess_5 {Y} (n : Nat) (t1 : List Int) (t5 : Int) : ∀ (m : Nat) (a : (Int × Int)) (r : Int), loopN (Dspec_l1Guess_5 n t1 t5) m a = some r → Wk Tryz.prog H Y 183 [.code (cp [1, 1, 1, 1, 0, 1, 0] (bodyOf Tryz.f183)), .blk 2, .code (cp [1, 1, 1, 1, 1] (bodyOf Tryz.f183))] (FinX Tryz.prog Tryz.f183 [] (i64 r) []) ⟨[(1, .sl false 1 t1.length ((eInt).f t1)), (5, i64 t5), (7, i64 a.1), (8, i64 a.2)], []⟩ := by
  refine loopN_ind (fun rec1 hrec1 a r h => ?_)
  obtain ⟨t7, t8⟩ := a
  unfold Dspec_l1Guess_5 at h
  refine x_frk 7 [] onil h (by kernel_rfl) (fun h => ?_) (fun h => ?_)
  · exact x_to 7 [] onil (Tspec_l1Guess_2 n rec1 t1 t5 hrec1 t7 t8 (decide (t8 ≥ (w64 ((t1.length : Int) - 3)))) r h) (by kernel_rfl)
  · exact x_to 16 [] onil (Tspec_l1Guess_3 n t5 t7 (decide ((t1.length : Int) > 3)) r h) (by kernel_rfl)
def Dspec_l1Guess_1 (n : Nat) (t1 : List Int) (t5 t7 t8 : Int) : Option Int :=
  loopN (Dspec_l1Guess_5 n t1 t5) n (t7, t8)
theorem Tspec_l1Guess_1 {Y} (n : Nat) (t1 : List Int) (t5 t7 t8 r : Int) (h : Dspec_l1Guess_1 n t1 t5 t7 t8 = some r) : Wk Tryz.prog H Y 183 [.code (cp [1, 1, 1, 1, 0, 1, 0] (bodyOf Tryz.f183)), .blk 2, .code (cp [1, 1, 1, 1, 1] (bodyOf Tryz.f183))] (FinX Tryz.prog Tryz.f183 [] (i64 r) []) ⟨[(1, .sl false 1 t1.length ((eInt).f t1)), (5, i64 t5), (7, i64 t7), (8, i64 t8)], []⟩ := by
  unfold Dspec_l1Guess_1 at h
  exact x_to 0 [] onil (Tspec_l1Guess_5 n t1 t5 n (t7, t8) r h) (by kernel_rfl)
def Dspec_l1Guess_0 (n : Nat) (rec0 : (Int × Int) → Option Int) (t0 : List Int) (t1 : List Int) (t5 t6 : Int) (t20 : Bool) : Option Int :=
  frk t20 ((lget t0 t6).bind fun v0 => rec0 (w64 ((w64 (t5 * 10000)) + v0), w64 (t6 - 1))) (Dspec_l1Guess_1 n t1 t5 0 (w64 ((t1.length : Int) - 1)))
theorem Tspec_l1Guess_0 {Y} (n : Nat) (rec0 : (Int × Int) → Option Int) (t0 : List Int) (t1 : List Int) (hrec0 : ∀ (a : (Int × Int)) (r : Int), rec0 a = some r → Wk Tryz.prog H Y 183 [.code (cp [1, 1, 0, 1, 0] (bodyOf Tryz.f183)), .blk 0, .code (cp [1, 1, 1] (bodyOf Tryz.f183))] (FinX Tryz.prog Tryz.f183 [] (i64 r) []) ⟨[(0, .sl false 1 t0.length ((eInt).f t0)), (1, .sl false 1 t1.length ((eInt).f t1)), (5, i64 a.1), (6, i64 a.2)], []⟩) (t5 t6 : Int) (t20 : Bool) (r : Int) (h : Dspec_l1Guess_0 n rec0 t0 t1 t5 t6 t20 = some r) : Wk Tryz.prog H Y 183 [.code (cp [1, 1, 0, 1, 0, 0, 0, 1] (bodyOf Tryz.f183)), .code (cp [1, 1, 0, 1, 0, 0, 1] (bodyOf Tryz.f183)), .lp (cp [1, 1, 0, 1, 0] (bodyOf Tryz.f183)), .blk 0, .code (cp [1, 1, 1] (bodyOf Tryz.f183))] (FinX Tryz.prog Tryz.f183 [] (i64 r) []) ⟨[(0, .sl false 1 t0.length ((eInt).f t0)), (1, .sl false 1 t1.length ((eInt).f t1)), (5, i64 t5), (6, i64 t6), (20, bl t20)], []⟩ := by
  unfold Dspec_l1Guess_0 at h
  refine x_frk 0 [] onil h (by kernel_rfl) (fun h => ?_) (fun h => ?_)
  · obtain ⟨v0, hv0, h⟩ := bind_some h
    exact x_to 20 [(4, .val (.cptr (eInt.c v0 ++ (eInt).f ((t0).drop (Int.toNat t6 + 1)))))] (ocons (ix eInt hv0) onil) (hrec0 (w64 ((w64 (t5 * 10000)) + v0), w64 (t6 - 1)) r h) (by kernel_rfl)
  · exact x_to 14 [] onil (Tspec_l1Guess_1 n t1 t5 0 (w64 ((t1.length : Int) - 1)) r h) (by kernel_rfl)
def Dspec_l1Guess_6 (n : Nat) (t0 : List Int) (t1 : List Int) (rec0 : (Int × Int) → Option Int) (a : (Int × Int)) : Option Int :=
  match a with
  | (t5, t6) => frk (decide (t6 ≥ 0)) (Dspec_l1Guess_0 n rec0 t0 t1 t5 t6 (decide (t6 ≥ (w64 ((t1.length : Int) - 3))))) (Dspec_l1Guess_1 n t1 t5 0 (w64 ((t1.length : Int) - 1)))
theorem Tspec_l1Guess_6 {Y} (n : Nat) (t0 : List Int) (t1 : List Int) : ∀ (m : Nat) (a : (Int × Int)) (r : Int), loopN (Dspec_l1Guess_6 n t0 t1) m a = some r → Wk Tryz.prog H Y 183 [.code (cp [1, 1, 0, 1, 0] (bodyOf Tryz.f183)), .blk 0, .code (cp [1, 1, 1] (bodyOf Tryz.f183))] (FinX Tryz.prog Tryz.f183 [] (i64 r) []) ⟨[(0, .sl false 1 t0.length ((eInt).f t0)), (1, .sl false 1 t1.length ((eInt).f t1)), (5, i64 a.1), (6, i64 a.2)], []⟩ := by
  refine loopN_ind (fun rec0 hrec0 a r h => ?_)
  obtain ⟨t5, t6⟩ := a
  unfold Dspec_l1Guess_6 at h
  refine x_frk 7 [] onil h (by kernel_rfl) (fun h => ?_) (fun h => ?_)
  · exact x_to 7 [] onil (Tspec_l1Guess_0 n rec0 t0 t1 hrec0 t5 t6 (decide (t6 ≥ (w64 ((t1.length : Int) - 3)))) r h) (by kernel_rfl)
  · exact x_to 22 [] onil (Tspec_l1Guess_1 n t1 t5 0 (w64 ((t1.length : Int) - 1)) r h) (by kernel_rfl)
def Dspec_l1Guess (n : Nat) (a0 : (List Int)) (a1 : (List Int)) : Option Int :=
  loopN (Dspec_l1Guess_6 n a0 a1) n (0, w64 ((a0.length : Int) - 1))
theorem Tspec_l1Guess {Y} (n : Nat) (a0 : (List Int)) (a1 : (List Int)) (r : Int) (h : Dspec_l1Guess n a0 a1 = some r) : Big Tryz.prog H Y (.call 183 [.sl false 1 a0.length ((eInt).f a0), .sl false 1 a1.length ((eInt).f a1)] (lk []) (i64 r) (lk [])) := by
  unfold Dspec_l1Guess at h
  refine x_call (fn := Tryz.f183) (c := bodyOf Tryz.f183) (bs0 := []) Tryz.func183 (by kernel_rfl) (by kernel_rfl) ?_
  exact x_to 17 [] onil (Tspec_l1Guess_6 n a0 a1 n (0, w64 ((a0.length : Int) - 1)) r h) (by kernel_rfl)
/-! spec.l1MulMag -/
def Dspec_l1MulMag_0 (_n : Nat) (rec0 : (Int × List Int) → Option (List Int)) (_t0 : List Int) (t1 : List Int) (t6 t7 : Int) (l15 : List Int) : Option (List Int) :=
  (lget l15 (w64 (t6 + (t1.length : Int)))).bind fun _v5 => rec0 (w64 (t6 + 1), (l15.set (Int.toNat (w64 (t6 + (t1.length : Int)))) t7))
theorem Tspec_l1MulMag_0 {Y} (n : Nat) (rec0 : (Int × List Int) → Option (List Int)) (t0 : List Int) (t1 : List Int) (hrec0 : ∀ (a : (Int × List Int)) (r : (List Int)), rec0 a = some r → Wk Tryz.prog H Y 185 [.code (cp [1, 1, 0, 1, 0] (bodyOf Tryz.f185)), .blk 0, .code (cp [1, 1, 1] (bodyOf Tryz.f185))] (FinX Tryz.prog Tryz.f185 [] (.sl true 1 r.length ((eInt).f r)) []) ⟨[(0, .sl false 1 t0.length ((eInt).f t0)), (1, .sl false 1 t1.length ((eInt).f t1)), (5, .msl 15 a.2.length), (6, i64 a.1)], [(15, ⟨true, 1, (eInt).f a.2⟩)]⟩) (t6 t7 : Int) (l15 : List Int) (r : (List Int)) (h : Dspec_l1MulMag_0 n rec0 t0 t1 t6 t7 l15 = some r) : Wk Tryz.prog H Y 185 [.code (cp [1, 1, 0, 1, 0, 0, 1, 0, 0, 1, 1] (bodyOf Tryz.f185)), .blk 1, .code (cp [1, 1, 0, 1, 0, 0, 1, 1] (bodyOf Tryz.f185)), .lp (cp [1, 1, 0, 1, 0] (bodyOf Tryz.f185)), .blk 0, .code (cp [1, 1, 1] (bodyOf Tryz.f185))] (FinX Tryz.prog Tryz.f185 [] (.sl true 1 r.length ((eInt).f r)) []) ⟨[(0, .sl false 1 t0.length ((eInt).f t0)), (1, .sl false 1 t1.length ((eInt).f t1)), (5, .msl 15 l15.length), (6, i64 t6), (7, i64 t7)], [(15, ⟨true, 1, (eInt).f l15⟩)]⟩ := by
  unfold Dspec_l1MulMag_0 at h
  obtain ⟨_v5, hv5, h⟩ := bind_some h
  exact x_to 19 [(6, .unit), (0, .cells ((eInt).f (l15.set (Int.toNat (w64 (t6 + (t1.length : Int)))) t7))), (0, .fix 5 (.msl 15 (l15.set (Int.toNat (w64 (t6 + (t1.length : Int)))) t7).length)), (0, .fix 55 (.msl 15 (l15.set (Int.toNat (w64 (t6 + (t1.length : Int)))) t7).length))] (ocons (inr hv5) (ocons (stA eInt hv5 0 1 [i64 t7] t7 rfl rfl) (ocons (setLen 15 l15 (Int.toNat (w64 (t6 + (t1.length : Int)))) t7) (ocons (setLen 15 l15 (Int.toNat (w64 (t6 + (t1.length : Int)))) t7) onil)))) (hrec0 (w64 (t6 + 1), (l15.set (Int.toNat (w64 (t6 + (t1.length : Int)))) t7)) r h) (by kernel_rfl)
def Dspec_l1MulMag_1 (n : Nat) (rec0 : (Int × List Int) → Option (List Int)) (t0 : List Int) (t1 : List Int) (t6 : Int) (rec1 : (Int × Int × List Int) → Option (List Int)) (a : (Int × Int × List Int)) : Option (List Int) :=
  match a with
  | (t7, t8, l15) => frk (decide (t8 < (t1.length : Int))) ((lget t0 t6).bind fun v1 => (lget t1 t8).bind fun v2 => (lget l15 (w64 (t6 + t8))).bind fun v3 => (lget l15 (w64 (t6 + t8))).bind fun _v4 => rec1 (w64 (Int.tdiv (w64 ((w64 ((w64 (v1 * v2)) + v3)) + t7)) 10000), w64 (t8 + 1), (l15.set (Int.toNat (w64 (t6 + t8))) (Int.tmod (w64 ((w64 ((w64 (v1 * v2)) + v3)) + t7)) 10000)))) (Dspec_l1MulMag_0 n rec0 t0 t1 t6 t7 l15)
theorem Tspec_l1MulMag_1 {Y} (n : Nat) (rec0 : (Int × List Int) → Option (List Int)) (t0 : List Int) (t1 : List Int) (hrec0 : ∀ (a : (Int × List Int)) (r : (List Int)), rec0 a = some r → Wk Tryz.prog H Y 185 [.code (cp [1, 1, 0, 1, 0] (bodyOf Tryz.f185)), .blk 0, .code (cp [1, 1, 1] (bodyOf Tryz.f185))] (FinX Tryz.prog Tryz.f185 [] (.sl true 1 r.length ((eInt).f r)) []) ⟨[(0, .sl false 1 t0.length ((eInt).f t0)), (1, .sl false 1 t1.length ((eInt).f t1)), (5, .msl 15 a.2.length), (6, i64 a.1)], [(15, ⟨true, 1, (eInt).f a.2⟩)]⟩) (t6 : Int) : ∀ (m : Nat) (a : (Int × Int × List Int)) (r : (List Int)), loopN (Dspec_l1MulMag_1 n rec0 t0 t1 t6) m a = some r → Wk Tryz.prog H Y 185 [.code (cp [1, 1, 0, 1, 0, 0, 1, 0, 0, 1, 0, 1, 0] (bodyOf Tryz.f185)), .blk 2, .code (cp [1, 1, 0, 1, 0, 0, 1, 0, 0, 1, 1] (bodyOf Tryz.f185)), .blk 1, .code (cp [1, 1, 0, 1, 0, 0, 1, 1] (bodyOf Tryz.f185)), .lp (cp [1, 1, 0, 1, 0] (bodyOf Tryz.f185)), .blk 0, .code (cp [1, 1, 1] (bodyOf Tryz.f185))] (FinX Tryz.prog Tryz.f185 [] (.sl true 1 r.length ((eInt).f r)) []) ⟨[(0, .sl false 1 t0.length ((eInt).f t0)), (1, .sl false 1 t1.length ((eInt).f t1)), (5, .msl 15 a.2.2.length), (6, i64 t6), (7, i64 a.1), (8, i64 a.2.1)], [(15, ⟨true, 1, (eInt).f a.2.2⟩)]⟩ := by
  refine loopN_ind (fun _rec1 hrec1 a r h => ?_)
  obtain ⟨t7, t8, l15⟩ := a
  unfold Dspec_l1MulMag_1 at h
  refine x_frk 9 [] onil h (by kernel_rfl) (fun h => ?_) (fun h => ?_)
  · obtain ⟨v1, hv1, h⟩ := bind_some h
    obtain ⟨v2, hv2, h⟩ := bind_some h
    obtain ⟨v3, hv3, h⟩ := bind_some h
    obtain ⟨_v4, hv4, h⟩ := bind_some h
    exact x_to 51 [(2, .val (.cptr (eInt.c v1 ++ (eInt).f ((t0).drop (Int.toNat t6 + 1))))), (3, .val (.cptr (eInt.c v2 ++ (eInt).f ((t1).drop (Int.toNat t8 + 1))))), (6, .unit), (0, .val (i64 v3)), (10, .unit), (0, .cells ((eInt).f (l15.set (Int.toNat (w64 (t6 + t8))) (Int.tmod (w64 ((w64 ((w64 (v1 * v2)) + v3)) + t7)) 10000)))), (0, .fix 5 (.msl 15 (l15.set (Int.toNat (w64 (t6 + t8))) (Int.tmod (w64 ((w64 ((w64 (v1 * v2)) + v3)) + t7)) 10000)).length)), (0, .fix 37 (.msl 15 (l15.set (Int.toNat (w64 (t6 + t8))) (Int.tmod (w64 ((w64 ((w64 (v1 * v2)) + v3)) + t7)) 10000)).length)), (0, .fix 46 (.msl 15 (l15.set (Int.toNat (w64 (t6 + t8))) (Int.tmod (w64 ((w64 ((w64 (v1 * v2)) + v3)) + t7)) 10000)).length))] (ocons (ix eInt hv1) (ocons (ix eInt hv2) (ocons (inr hv3) (ocons (ld1 eInt hv3 0 rfl) (ocons (inr hv4) (ocons (stA eInt hv4 0 1 [i64 (Int.tmod (w64 ((w64 ((w64 (v1 * v2)) + v3)) + t7)) 10000)] (Int.tmod (w64 ((w64 ((w64 (v1 * v2)) + v3)) + t7)) 10000) rfl rfl) (ocons (setLen 15 l15 (Int.toNat (w64 (t6 + t8))) (Int.tmod (w64 ((w64 ((w64 (v1 * v2)) + v3)) + t7)) 10000)) (ocons (setLen 15 l15 (Int.toNat (w64 (t6 + t8))) (Int.tmod (w64 ((w64 ((w64 (v1 * v2)) + v3)) + t7)) 10000)) (ocons (setLen 15 l15 (Int.toNat (w64 (t6 + t8))) (Int.tmod (w64 ((w64 ((w64 (v1 * v2)) + v3)) + t7)) 10000)) onil))))))))) (hrec1 (w64 (Int.tdiv (w64 ((w64 ((w64 (v1 * v2)) + v3)) + t7)) 10000), w64 (t8 + 1), (l15.set (Int.toNat (w64 (t6 + t8))) (Int.tmod (w64 ((w64 ((w64 (v1 * v2)) + v3)) + t7)) 10000))) r h) (by kernel_rfl)
  · exact x_to 1 [] onil (Tspec_l1MulMag_0 n rec0 t0 t1 hrec0 t6 t7 l15 r h) (by kernel_rfl)
def Dspec_l1MulMag_2 (n : Nat) (t0 : List Int) (t1 : List Int) (rec0 : (Int × List Int) → Option (List Int)) (a : (Int × List Int)) : Option (List Int) :=
  match a with
  | (t6, l15) => frk (decide (t6 < (t0.length : Int))) (loopN (Dspec_l1MulMag_1 n rec0 t0 t1 t6) n (0, 0, l15)) (some l15)
theorem Tspec_l1MulMag_2 {Y} (n : Nat) (t0 : List Int) (t1 : List Int) : ∀ (m : Nat) (a : (Int × List Int)) (r : (List Int)), loopN (Dspec_l1MulMag_2 n t0 t1) m a = some r → Wk Tryz.prog H Y 185 [.code (cp [1, 1, 0, 1, 0] (bodyOf Tryz.f185)), .blk 0, .code (cp [1, 1, 1] (bodyOf Tryz.f185))] (FinX Tryz.prog Tryz.f185 [] (.sl true 1 r.length ((eInt).f r)) []) ⟨[(0, .sl false 1 t0.length ((eInt).f t0)), (1, .sl false 1 t1.length ((eInt).f t1)), (5, .msl 15 a.2.length), (6, i64 a.1)], [(15, ⟨true, 1, (eInt).f a.2⟩)]⟩ := by
  refine loopN_ind (fun rec0 hrec0 a r h => ?_)
  obtain ⟨t6, l15⟩ := a
  unfold Dspec_l1MulMag_2 at h
  refine x_frk 9 [] onil h (by kernel_rfl) (fun h => ?_) (fun h => ?_)
  · exact x_to 13 [] onil (Tspec_l1MulMag_1 n rec0 t0 t1 hrec0 t6 n (0, 0, l15) r h) (by kernel_rfl)
  · replace h := Option.some.inj h; subst h
    exact x_end 6 [] [] onil (ocons (len_row (L := l15) eInt) onil) (by kernel_rfl)
def Dspec_l1MulMag (n : Nat) (a0 : (List Int)) (a1 : (List Int)) : Option (List Int) :=
  chk (mkB (w64 ((a0.length : Int) + (a1.length : Int))) 8) (loopN (Dspec_l1MulMag_2 n a0 a1) n (0, (List.replicate (Int.toNat (w64 ((a0.length : Int) + (a1.length : Int)))) (0 : Int))))
theorem Tspec_l1MulMag {Y} (n : Nat) (a0 : (List Int)) (a1 : (List Int)) (r : (List Int)) (h : Dspec_l1MulMag n a0 a1 = some r) : Big Tryz.prog H Y (.call 185 [.sl false 1 a0.length ((eInt).f a0), .sl false 1 a1.length ((eInt).f a1)] (lk []) (.sl true 1 r.length ((eInt).f r)) (lk [])) := by
  unfold Dspec_l1MulMag at h
  refine x_call (fn := Tryz.f185) (c := bodyOf Tryz.f185) (bs0 := []) Tryz.func185 (by kernel_rfl) (by kernel_rfl) ?_
  obtain ⟨c0, h⟩ := chk_some h
  exact x_to 20 [(6, .mk (List.replicate (Int.toNat (w64 ((a0.length : Int) + (a1.length : Int)))) (0 : Int)).length ((eInt).f (List.replicate (Int.toNat (w64 ((a0.length : Int) + (a1.length : Int)))) (0 : Int))))] (ocons (rflI (w64 ((a0.length : Int) + (a1.length : Int)))) (ocons (mkOk eInt c0 (0 : Int) rfl) onil)) (Tspec_l1MulMag_2 n a0 a1 n (0, (List.replicate (Int.toNat (w64 ((a0.length : Int) + (a1.length : Int)))) (0 : Int))) r h) (by kernel_rfl)
/-! spec.l1SubMag -/
def Dspec_l1SubMag_1 (_n : Nat) (rec0 : (Int × Int × List Int) → Option (List Int)) (_t0 : List Int) (_t1 : List Int) (t6 t7 t8 : Int) (l9 : List Int) : Option (List Int) :=
  chk (apB 8 (l9.length + 1)) (rec0 (t6, w64 (t7 + 1), (l9 ++ [t8])))
theorem Tspec_l1SubMag_1 {Y} (n : Nat) (rec0 : (Int × Int × List Int) → Option (List Int)) (t0 : List Int) (t1 : List Int) (hrec0 : ∀ (a : (Int × Int × List Int)) (r : (List Int)), rec0 a = some r → Wk Tryz.prog H Y 184 [.code (cp [1, 1, 1, 0, 1, 0] (bodyOf Tryz.f184)), .blk 0, .code (cp [1, 1, 1, 1] (bodyOf Tryz.f184))] (FinX Tryz.prog Tryz.f184 [] (.sl true 1 r.length ((eInt).f r)) []) ⟨[(0, .sl false 1 t0.length ((eInt).f t0)), (1, .sl false 1 t1.length ((eInt).f t1)), (5, .msl 9 a.2.2.length), (6, i64 a.1), (7, i64 a.2.1)], [(9, ⟨true, 1, (eInt).f a.2.2⟩)]⟩) (t6 t7 t8 : Int) (l9 : List Int) (r : (List Int)) (h : Dspec_l1SubMag_1 n rec0 t0 t1 t6 t7 t8 l9 = some r) : Wk Tryz.prog H Y 184 [.code (cp [1, 1, 1, 0, 1, 0, 0, 1, 0, 0, 1, 1, 1, 1] (bodyOf Tryz.f184)), .blk 1, .code (cp [1, 1, 1, 0, 1, 0, 0, 1, 1] (bodyOf Tryz.f184)), .lp (cp [1, 1, 1, 0, 1, 0] (bodyOf Tryz.f184)), .blk 0, .code (cp [1, 1, 1, 1] (bodyOf Tryz.f184))] (FinX Tryz.prog Tryz.f184 [] (.sl true 1 r.length ((eInt).f r)) []) ⟨[(0, .sl false 1 t0.length ((eInt).f t0)), (1, .sl false 1 t1.length ((eInt).f t1)), (5, .msl 9 l9.length), (6, i64 t6), (7, i64 t7), (8, i64 t8)], [(9, ⟨true, 1, (eInt).f l9⟩)]⟩ := by
  unfold Dspec_l1SubMag_1 at h
  obtain ⟨c2, h⟩ := chk_some h
  exact x_to 15 [(3, .app false (List.length (l9 ++ [t8])) ((eInt).f (l9 ++ [t8]))), (4, .ren 39 9)] (ocons (len_row' (L := l9) eInt) (ocons (app_one (L := l9) (M := [t8]) eInt c2) (ocons (app_new (L := l9) (M := [t8]) eInt) (ocons (app_m (L := l9) (M := [t8]) eInt rfl) (ocons (len_row' (L := [t8]) eInt) (ocons (Enc.noOwn eInt (fun _ => rfl) [t8]) (ocons (show 39 < 1000 ∧ 9 < 1000 by decide) onil))))))) (hrec0 (t6, w64 (t7 + 1), (l9 ++ [t8])) r h) (by kernel_rfl)
def Dspec_l1SubMag_0 (n : Nat) (rec0 : (Int × Int × List Int) → Option (List Int)) (t0 : List Int) (t1 : List Int) (t6 t7 t8 : Int) (t33 : Bool) (l9 : List Int) : Option (List Int) :=
  frk t33 (Dspec_l1SubMag_1 n rec0 t0 t1 1 t7 (w64 (t8 + 10000)) l9) (Dspec_l1SubMag_1 n rec0 t0 t1 t6 t7 t8 l9)
theorem Tspec_l1SubMag_0 {Y} (n : Nat) (rec0 : (Int × Int × List Int) → Option (List Int)) (t0 : List Int) (t1 : List Int) (hrec0 : ∀ (a : (Int × Int × List Int)) (r : (List Int)), rec0 a = some r → Wk Tryz.prog H Y 184 [.code (cp [1, 1, 1, 0, 1, 0] (bodyOf Tryz.f184)), .blk 0, .code (cp [1, 1, 1, 1] (bodyOf Tryz.f184))] (FinX Tryz.prog Tryz.f184 [] (.sl true 1 r.length ((eInt).f r)) []) ⟨[(0, .sl false 1 t0.length ((eInt).f t0)), (1, .sl false 1 t1.length ((eInt).f t1)), (5, .msl 9 a.2.2.length), (6, i64 a.1), (7, i64 a.2.1)], [(9, ⟨true, 1, (eInt).f a.2.2⟩)]⟩) (t6 t7 t8 : Int) (t33 : Bool) (l9 : List Int) (r : (List Int)) (h : Dspec_l1SubMag_0 n rec0 t0 t1 t6 t7 t8 t33 l9 = some r) : Wk Tryz.prog H Y 184 [.code (cp [1, 1, 1, 0, 1, 0, 0, 1, 0, 0, 1, 1, 1, 0, 1] (bodyOf Tryz.f184)), .code (cp [1, 1, 1, 0, 1, 0, 0, 1, 0, 0, 1, 1, 1, 1] (bodyOf Tryz.f184)), .blk 1, .code (cp [1, 1, 1, 0, 1, 0, 0, 1, 1] (bodyOf Tryz.f184)), .lp (cp [1, 1, 1, 0, 1, 0] (bodyOf Tryz.f184)), .blk 0, .code (cp [1, 1, 1, 1] (bodyOf Tryz.f184))] (FinX Tryz.prog Tryz.f184 [] (.sl true 1 r.length ((eInt).f r)) []) ⟨[(0, .sl false 1 t0.length ((eInt).f t0)), (1, .sl false 1 t1.length ((eInt).f t1)), (5, .msl 9 l9.length), (6, i64 t6), (7, i64 t7), (8, i64 t8), (33, bl t33)], [(9, ⟨true, 1, (eInt).f l9⟩)]⟩ := by
  unfold Dspec_l1SubMag_0 at h
  refine x_frk 0 [] onil h (by kernel_rfl) (fun h => ?_) (fun h => ?_)
  · exact x_to 9 [] onil (Tspec_l1SubMag_1 n rec0 t0 t1 hrec0 1 t7 (w64 (t8 + 10000)) l9 r h) (by kernel_rfl)
  · exact x_to 1 [] onil (Tspec_l1SubMag_1 n rec0 t0 t1 hrec0 t6 t7 t8 l9 r h) (by kernel_rfl)
def Dspec_l1SubMag_2 (n : Nat) (t0 : List Int) (t1 : List Int) (rec0 : (Int × Int × List Int) → Option (List Int)) (a : (Int × Int × List Int)) : Option (List Int) :=
  match a with
  | (t6, t7, l9) => frk (decide (t7 < (t0.length : Int))) ((lget t0 t7).bind fun v0 => frk (decide (t7 < (t1.length : Int))) ((lget t1 t7).bind fun v1 => Dspec_l1SubMag_0 n rec0 t0 t1 0 t7 (w64 ((w64 (v0 - t6)) - v1)) (decide ((w64 ((w64 (v0 - t6)) - v1)) < 0)) l9) (Dspec_l1SubMag_0 n rec0 t0 t1 0 t7 (w64 (v0 - t6)) (decide ((w64 (v0 - t6)) < 0)) l9)) (some l9)
theorem Tspec_l1SubMag_2 {Y} (n : Nat) (t0 : List Int) (t1 : List Int) : ∀ (m : Nat) (a : (Int × Int × List Int)) (r : (List Int)), loopN (Dspec_l1SubMag_2 n t0 t1) m a = some r → Wk Tryz.prog H Y 184 [.code (cp [1, 1, 1, 0, 1, 0] (bodyOf Tryz.f184)), .blk 0, .code (cp [1, 1, 1, 1] (bodyOf Tryz.f184))] (FinX Tryz.prog Tryz.f184 [] (.sl true 1 r.length ((eInt).f r)) []) ⟨[(0, .sl false 1 t0.length ((eInt).f t0)), (1, .sl false 1 t1.length ((eInt).f t1)), (5, .msl 9 a.2.2.length), (6, i64 a.1), (7, i64 a.2.1)], [(9, ⟨true, 1, (eInt).f a.2.2⟩)]⟩ := by
  refine loopN_ind (fun rec0 hrec0 a r h => ?_)
  obtain ⟨t6, t7, l9⟩ := a
  unfold Dspec_l1SubMag_2 at h
  refine x_frk 9 [] onil h (by kernel_rfl) (fun h => ?_) (fun h => ?_)
  · obtain ⟨v0, hv0, h⟩ := bind_some h
    refine x_frk 21 [(2, .val (.cptr (eInt.c v0 ++ (eInt).f ((t0).drop (Int.toNat t7 + 1)))))] (ocons (ix eInt hv0) onil) h (by kernel_rfl) (fun h => ?_) (fun h => ?_)
    · obtain ⟨v1, hv1, h⟩ := bind_some h
      exact x_to 19 [(3, .val (.cptr (eInt.c v1 ++ (eInt).f ((t1).drop (Int.toNat t7 + 1)))))] (ocons (ix eInt hv1) onil) (Tspec_l1SubMag_0 n rec0 t0 t1 hrec0 0 t7 (w64 ((w64 (v0 - t6)) - v1)) (decide ((w64 ((w64 (v0 - t6)) - v1)) < 0)) l9 r h) (by kernel_rfl)
    · exact x_to 11 [] onil (Tspec_l1SubMag_0 n rec0 t0 t1 hrec0 0 t7 (w64 (v0 - t6)) (decide ((w64 (v0 - t6)) < 0)) l9 r h) (by kernel_rfl)
  · replace h := Option.some.inj h; subst h
    exact x_end 6 [] [] onil (ocons (len_row (L := l9) eInt) onil) (by kernel_rfl)
def Dspec_l1SubMag (n : Nat) (a0 : (List Int)) (a1 : (List Int)) : Option (List Int) :=
  loopN (Dspec_l1SubMag_2 n a0 a1) n (0, 0, [])
theorem Tspec_l1SubMag {Y} (n : Nat) (a0 : (List Int)) (a1 : (List Int)) (r : (List Int)) (h : Dspec_l1SubMag n a0 a1 = some r) : Big Tryz.prog H Y (.call 184 [.sl false 1 a0.length ((eInt).f a0), .sl false 1 a1.length ((eInt).f a1)] (lk []) (.sl true 1 r.length ((eInt).f r)) (lk [])) := by
  unfold Dspec_l1SubMag at h
  refine x_call (fn := Tryz.f184) (c := bodyOf Tryz.f184) (bs0 := []) Tryz.func184 (by kernel_rfl) (by kernel_rfl) ?_
  exact x_to 19 [] onil (Tspec_l1SubMag_2 n a0 a1 n (0, 0, []) r h) (by kernel_rfl)
/-! spec.l1DivMag -/
def Dspec_l1DivMag_0 (n : Nat) (rec0 : (Int × List Int × List Int) → Option ((List Int) × (List Int))) (_t0 : List Int) (t1 : List Int) (t8 : Int) (rec1 : (List Int × List Int) → Option ((List Int) × (List Int))) (a : (List Int × List Int)) : Option ((List Int) × (List Int)) :=
  match a with
  | (l12, l29) => (Dspec_l1CmpMag n l29 t1).bind fun v4 => frk (decide (v4 ≥ 0)) ((Dspec_l1Guess n l29 t1).bind fun v5 => (lget l12 t8).bind fun v6 => (lget l12 t8).bind fun _v7 => (Dspec_l1MulMag n t1 [Int.tmod v5 10000, w64 (Int.tdiv v5 10000)]).bind fun v8 => (Dspec_l1Num n false v8).bind fun v9 => (Dspec_l1SubMag n l29 v9.D).bind fun v10 => (Dspec_l1Num n false v10).bind fun v11 => rec1 ((l12.set (Int.toNat t8) (w64 (v6 + v5))), v11.D)) (rec0 (w64 (t8 - 1), l12, l29))
theorem Tspec_l1DivMag_0 {Y} (n : Nat) (rec0 : (Int × List Int × List Int) → Option ((List Int) × (List Int))) (t0 : List Int) (t1 : List Int) (hrec0 : ∀ (a : (Int × List Int × List Int)) (r : ((List Int) × (List Int))), rec0 a = some r → Wk Tryz.prog H Y 163 [.code (cp [1, 1, 1, 0, 1, 0] (bodyOf Tryz.f163)), .blk 0, .code (cp [1, 1, 1, 1] (bodyOf Tryz.f163))] (FinX Tryz.prog Tryz.f163 [] (.tup [.sl true 1 r.1.length ((eInt).f r.1), .sl true 1 r.2.length ((eInt).f r.2)]) []) ⟨[(0, .sl false 1 t0.length ((eInt).f t0)), (1, .sl false 1 t1.length ((eInt).f t1)), (6, .msl 12 a.2.1.length), (7, .msl 13 a.2.2.length), (8, i64 a.1)], [(12, ⟨true, 1, (eInt).f a.2.1⟩), (13, ⟨false, 1, (eInt).f a.2.2⟩)]⟩) (t8 : Int) : ∀ (m : Nat) (a : (List Int × List Int)) (r : ((List Int) × (List Int))), loopN (Dspec_l1DivMag_0 n rec0 t0 t1 t8) m a = some r → Wk Tryz.prog H Y 163 [.code (cp [1, 1, 1, 0, 1, 0, 0, 1, 0, 0, 1, 0] (bodyOf Tryz.f163)), .blk 2, .blk 1, .code (cp [1, 1, 1, 0, 1, 0, 0, 1, 1] (bodyOf Tryz.f163)), .lp (cp [1, 1, 1, 0, 1, 0] (bodyOf Tryz.f163)), .blk 0, .code (cp [1, 1, 1, 1] (bodyOf Tryz.f163))] (FinX Tryz.prog Tryz.f163 [] (.tup [.sl true 1 r.1.length ((eInt).f r.1), .sl true 1 r.2.length ((eInt).f r.2)]) []) ⟨[(0, .sl false 1 t0.length ((eInt).f t0)), (1, .sl false 1 t1.length ((eInt).f t1)), (6, .msl 12 a.1.length), (7, .msl 29 a.2.length), (8, i64 t8)], [(12, ⟨true, 1, (eInt).f a.1⟩), (29, ⟨false, 1, (eInt).f a.2⟩)]⟩ := by
  refine loopN_ind (fun _rec1 hrec1 a r h => ?_)
  obtain ⟨l12, l29⟩ := a
  unfold Dspec_l1DivMag_0 at h
  obtain ⟨v4, hv4, h⟩ := bind_some h
  refine x_frk 9 [(2, .call [] [(eInt).f l29] (i64 v4) [])] (ocons (Tspec_l1CmpMag (Y := Y) n l29 t1 _ hv4) (ocons (len_row (L := l29) eInt) (ocons (Enc.share eInt eInt sInt l29) onil))) h (by kernel_rfl) (fun h => ?_) (fun h => ?_)
  · obtain ⟨v5, hv5, h⟩ := bind_some h
    obtain ⟨v6, hv6, h⟩ := bind_some h
    obtain ⟨_v7, hv7, h⟩ := bind_some h
    obtain ⟨v8, hv8, h⟩ := bind_some h
    obtain ⟨v9, hv9, h⟩ := bind_some h
    obtain ⟨v10, hv10, h⟩ := bind_some h
    obtain ⟨v11, hv11, h⟩ := bind_some h
    exact x_to 44 [(2, .call [] [(eInt).f l29] (i64 v5) []), (5, .unit), (0, .val (i64 v6)), (2, .unit), (0, .cells ((eInt).f (l12.set (Int.toNat t8) (w64 (v6 + v5))))), (0, .fix 6 (.msl 12 (l12.set (Int.toNat t8) (w64 (v6 + v5))).length)), (0, .fix 37 (.msl 12 (l12.set (Int.toNat t8) (w64 (v6 + v5))).length)), (0, .fix 39 (.msl 12 (l12.set (Int.toNat t8) (w64 (v6 + v5))).length)), (7, .call [] [(eInt).f [Int.tmod v5 10000, w64 (Int.tdiv v5 10000)]] (.sl true 1 v8.length ((eInt).f v8)) []), (0, .call [] [(eInt).f v8] (.agg [bl v9.Neg, .sl true 1 v9.D.length ((eInt).f v9.D)]) []), (1, .call [] [(eInt).f v9.D, (eInt).f l29] (.sl true 1 v10.length ((eInt).f v10)) []), (0, .call [] [(eInt).f v10] (.agg [bl v11.Neg, .sl true 1 v11.D.length ((eInt).f v11.D)]) []), (2, .ren 58 29)] (ocons (Tspec_l1Guess (Y := Y) n l29 t1 _ hv5) (ocons (len_row (L := l29) eInt) (ocons (Enc.share eInt eInt sInt l29) (ocons (inr hv6) (ocons (ld1 eInt hv6 0 rfl) (ocons (inr hv7) (ocons (stA eInt hv7 0 1 [i64 (w64 (v6 + v5))] (w64 (v6 + v5)) rfl rfl) (ocons (setLen 12 l12 (Int.toNat t8) (w64 (v6 + v5))) (ocons (setLen 12 l12 (Int.toNat t8) (w64 (v6 + v5))) (ocons (setLen 12 l12 (Int.toNat t8) (w64 (v6 + v5))) (ocons (Tspec_l1MulMag (Y := Y) n t1 [Int.tmod v5 10000, w64 (Int.tdiv v5 10000)] _ hv8) (ocons (len_row (L := [Int.tmod v5 10000, w64 (Int.tdiv v5 10000)]) eInt) (ocons (Enc.share eInt eInt sInt [Int.tmod v5 10000, w64 (Int.tdiv v5 10000)]) (ocons (show hasSh (.sl true 1 v8.length ((eInt).f v8)) = false by simp [hasSh, hasShL, nSh, nShI, nShB, nShP, nShT, nShN, nShPs]) (ocons (Tspec_l1Num (Y := Y) n false v8 _ hv9) (ocons (len_row (L := v8) eInt) (ocons (Enc.share eInt eInt sInt v8) (ocons (show hasSh (.agg [bl v9.Neg, .sl true 1 v9.D.length ((eInt).f v9.D)]) = false by simp [hasSh, hasShL, nSh, nShI, nShB, nShP, nShT, nShN, nShPs]) (ocons (Tspec_l1SubMag (Y := Y) n l29 v9.D _ hv10) (ocons (len_row (L := l29) eInt) (ocons (Enc.share eInt eInt sInt l29) (ocons (len_row (L := v9.D) eInt) (ocons (Enc.share eInt eInt sInt v9.D) (ocons (show hasSh (.sl true 1 v10.length ((eInt).f v10)) = false by simp [hasSh, hasShL, nSh, nShI, nShB, nShP, nShT, nShN, nShPs]) (ocons (Tspec_l1Num (Y := Y) n false v10 _ hv11) (ocons (len_row (L := v10) eInt) (ocons (Enc.share eInt eInt sInt v10) (ocons (show hasSh (.agg [bl v11.Neg, .sl true 1 v11.D.length ((eInt).f v11.D)]) = false by simp [hasSh, hasShL, nSh, nShI, nShB, nShP, nShT, nShN, nShPs]) (ocons (show 58 < 1000 ∧ 29 < 1000 by decide) onil))))))))))))))))))))))))))))) (hrec1 ((l12.set (Int.toNat t8) (w64 (v6 + v5))), v11.D) r h) (by kernel_rfl)
  · exact x_to 9 [(3, .ren 29 13)] (ocons (show 29 < 1000 ∧ 13 < 1000 by decide) onil) (hrec0 (w64 (t8 - 1), l12, l29) r h) (by kernel_rfl)
def Dspec_l1DivMag_1 (n : Nat) (t0 : List Int) (t1 : List Int) (rec0 : (Int × List Int × List Int) → Option ((List Int) × (List Int))) (a : (Int × List Int × List Int)) : Option ((List Int) × (List Int)) :=
  match a with
  | (t8, l12, l13) => frk (decide (t8 ≥ 0)) ((lget t0 t8).bind fun v1 => chk (apB 8 (1 + l13.length)) ((Dspec_l1Num n false ([v1] ++ l13)).bind fun v3 => loopN (Dspec_l1DivMag_0 n rec0 t0 t1 t8) n (l12, v3.D))) (some (l12, l13))
theorem Tspec_l1DivMag_1 {Y} (n : Nat) (t0 : List Int) (t1 : List Int) : ∀ (m : Nat) (a : (Int × List Int × List Int)) (r : ((List Int) × (List Int))), loopN (Dspec_l1DivMag_1 n t0 t1) m a = some r → Wk Tryz.prog H Y 163 [.code (cp [1, 1, 1, 0, 1, 0] (bodyOf Tryz.f163)), .blk 0, .code (cp [1, 1, 1, 1] (bodyOf Tryz.f163))] (FinX Tryz.prog Tryz.f163 [] (.tup [.sl true 1 r.1.length ((eInt).f r.1), .sl true 1 r.2.length ((eInt).f r.2)]) []) ⟨[(0, .sl false 1 t0.length ((eInt).f t0)), (1, .sl false 1 t1.length ((eInt).f t1)), (6, .msl 12 a.2.1.length), (7, .msl 13 a.2.2.length), (8, i64 a.1)], [(12, ⟨true, 1, (eInt).f a.2.1⟩), (13, ⟨false, 1, (eInt).f a.2.2⟩)]⟩ := by
  refine loopN_ind (fun rec0 hrec0 a r h => ?_)
  obtain ⟨t8, l12, l13⟩ := a
  unfold Dspec_l1DivMag_1 at h
  refine x_frk 7 [] onil h (by kernel_rfl) (fun h => ?_) (fun h => ?_)
  · obtain ⟨v1, hv1, h⟩ := bind_some h
    obtain ⟨c2, h⟩ := chk_some h
    obtain ⟨v3, hv3, h⟩ := bind_some h
    exact x_to 17 [(2, .val (.cptr (eInt.c v1 ++ (eInt).f ((t0).drop (Int.toNat t8 + 1))))), (3, .app false (List.length ([v1] ++ l13)) ((eInt).f ([v1] ++ l13))), (0, .call [] [(eInt).f ([v1] ++ l13)] (.agg [bl v3.Neg, .sl true 1 v3.D.length ((eInt).f v3.D)]) [])] (ocons (ix eInt hv1) (ocons (len_row' (L := [v1]) eInt) (ocons (app_one (L := [v1]) (M := l13) eInt c2) (ocons (app_new (L := [v1]) (M := l13) eInt) (ocons (app_m (L := [v1]) (M := l13) eInt rfl) (ocons (len_row' (L := l13) eInt) (ocons (Enc.noOwn eInt (fun _ => rfl) l13) (ocons (Tspec_l1Num (Y := Y) n false ([v1] ++ l13) _ hv3) (ocons (len_row (L := ([v1] ++ l13)) eInt) (ocons (Enc.share eInt eInt sInt ([v1] ++ l13)) (ocons (show hasSh (.agg [bl v3.Neg, .sl true 1 v3.D.length ((eInt).f v3.D)]) = false by simp [hasSh, hasShL, nSh, nShI, nShB, nShP, nShT, nShN, nShPs]) onil))))))))))) (Tspec_l1DivMag_0 n rec0 t0 t1 hrec0 t8 n (l12, v3.D) r h) (by kernel_rfl)
  · replace h := Option.some.inj h; subst h
    exact x_end 8 [] [] onil (ocons (len_row (L := l12) eInt) (ocons (len_row (L := l13) eInt) onil)) (by kernel_rfl)
def Dspec_l1DivMag (n : Nat) (a0 : (List Int)) (a1 : (List Int)) : Option ((List Int) × (List Int)) :=
  chk (mkB (a0.length : Int) 8) (loopN (Dspec_l1DivMag_1 n a0 a1) n (w64 ((a0.length : Int) - 1), (List.replicate (Int.toNat (a0.length : Int)) (0 : Int)), []))
theorem Tspec_l1DivMag {Y} (n : Nat) (a0 : (List Int)) (a1 : (List Int)) (r : ((List Int) × (List Int))) (h : Dspec_l1DivMag n a0 a1 = some r) : Big Tryz.prog H Y (.call 163 [.sl false 1 a0.length ((eInt).f a0), .sl false 1 a1.length ((eInt).f a1)] (lk []) (.tup [.sl true 1 r.1.length ((eInt).f r.1), .sl true 1 r.2.length ((eInt).f r.2)]) (lk [])) := by
  unfold Dspec_l1DivMag at h
  refine x_call (fn := Tryz.f163) (c := bodyOf Tryz.f163) (bs0 := []) Tryz.func163 (by kernel_rfl) (by kernel_rfl) ?_
  obtain ⟨c0, h⟩ := chk_some h
  exact x_to 27 [(4, .mk (List.replicate (Int.toNat (a0.length : Int)) (0 : Int)).length ((eInt).f (List.replicate (Int.toNat (a0.length : Int)) (0 : Int)))), (7, .shutb 13 ⟨true, 1, (eInt).f []⟩)] (ocons (rflI (a0.length : Int)) (ocons (mkOk eInt c0 (0 : Int) rfl) (ocons (rflB ⟨true, 1, (eInt).f []⟩) (ocons (show 1 ≠ 0 by decide) onil)))) (Tspec_l1DivMag_1 n a0 a1 n (w64 ((a0.length : Int) - 1), (List.replicate (Int.toNat (a0.length : Int)) (0 : Int)), []) r h) (by kernel_rfl)
/-! spec.l1Gcd -/
def Dspec_l1Gcd_0 (n : Nat) (rec0 : (List Int × List Int) → Option (List Int)) (a : (List Int × List Int)) : Option (List Int) :=
  match a with
  | (t0, t1) => frk (decide ((t1.length : Int) > 0)) ((Dspec_l1DivMag n t0 t1).bind fun v0 => rec0 (t1, v0.2)) (some t0)
theorem Tspec_l1Gcd_0 {Y} (n : Nat) : ∀ (m : Nat) (a : (List Int × List Int)) (r : (List Int)), loopN (Dspec_l1Gcd_0 n) m a = some r → Wk Tryz.prog H Y 192 [.code (cp [1, 0, 0] (bodyOf Tryz.f192)), .blk 0, .code (cp [1, 1] (bodyOf Tryz.f192))] (FinX Tryz.prog Tryz.f192 [] (.sl false 1 r.length ((eInt).f r)) []) ⟨[(0, .sl false 1 a.1.length ((eInt).f a.1)), (1, .sl false 1 a.2.length ((eInt).f a.2))], []⟩ := by
  refine loopN_ind (fun _rec0 hrec0 a r h => ?_)
  obtain ⟨t0, t1⟩ := a
  unfold Dspec_l1Gcd_0 at h
  refine x_frk 8 [] onil h (by kernel_rfl) (fun h => ?_) (fun h => ?_)
  · obtain ⟨v0, hv0, h⟩ := bind_some h
    exact x_to 24 [(2, .call [] [] (.tup [.sl false 1 v0.1.length ((eInt).f v0.1), .sl false 1 v0.2.length ((eInt).f v0.2)]) [])] (ocons (Big.wkr (Tspec_l1DivMag (Y := Y) n t0 t1 _ hv0) (show WkV (.tup [.sl true 1 v0.1.length ((eInt).f v0.1), .sl true 1 v0.2.length ((eInt).f v0.2)]) (.tup [.sl false 1 v0.1.length ((eInt).f v0.1), .sl false 1 v0.2.length ((eInt).f v0.2)]) from .inr ⟨_, _, rfl, rfl, ⟨wkShareU (L := v0.1) eInt eInt sInt, wkShareU (L := v0.2) eInt eInt sInt, trivial⟩⟩)) onil) (hrec0 (t1, v0.2) r h) (by kernel_rfl)
  · replace h := Option.some.inj h; subst h
    exact x_end 6 [] [] onil onil (by kernel_rfl)
def Dspec_l1Gcd (n : Nat) (a0 : (List Int)) (a1 : (List Int)) : Option (List Int) :=
  loopN (Dspec_l1Gcd_0 n) n (a0, a1)
theorem Tspec_l1Gcd {Y} (n : Nat) (a0 : (List Int)) (a1 : (List Int)) (r : (List Int)) (h : Dspec_l1Gcd n a0 a1 = some r) : Big Tryz.prog H Y (.call 192 [.sl false 1 a0.length ((eInt).f a0), .sl false 1 a1.length ((eInt).f a1)] (lk []) (.sl false 1 r.length ((eInt).f r)) (lk [])) := by
  unfold Dspec_l1Gcd at h
  refine x_call (fn := Tryz.f192) (c := bodyOf Tryz.f192) (bs0 := []) Tryz.func192 (by kernel_rfl) (by kernel_rfl) ?_
  exact x_to 6 [] onil (Tspec_l1Gcd_0 n n (a0, a1) r h) (by kernel_rfl)
/-! spec.Gcd -/
def Dspec_Gcd (n : Nat) (a0 : Num) (a1 : Num) : Option Num :=
  (Dspec_l1Mag n a0).bind fun v0 => (Dspec_l1Mag n a1).bind fun v1 => (Dspec_l1Gcd n v0 v1).bind fun v2 => (Dspec_l1Num n false v2).bind fun v3 => some v3
theorem Tspec_Gcd {Y} (n : Nat) (a0 : Num) (a1 : Num) (r : Num) (h : Dspec_Gcd n a0 a1 = some r) : Big Tryz.prog H Y (.call 181 [.agg [bl a0.Neg, .sl false 1 a0.D.length ((eInt).f a0.D)], .agg [bl a1.Neg, .sl false 1 a1.D.length ((eInt).f a1.D)]] (lk []) (.agg [bl r.Neg, .sl true 1 r.D.length ((eInt).f r.D)]) (lk [])) := by
  unfold Dspec_Gcd at h
  refine x_call (fn := Tryz.f181) (c := bodyOf Tryz.f181) (bs0 := []) Tryz.func181 (by kernel_rfl) (by kernel_rfl) ?_
  obtain ⟨v0, hv0, h⟩ := bind_some h
  obtain ⟨v1, hv1, h⟩ := bind_some h
  obtain ⟨v2, hv2, h⟩ := bind_some h
  obtain ⟨v3, hv3, h⟩ := bind_some h
  replace h := Option.some.inj h; subst h
  exact x_end 16 [(4, .call [] [] (.sl false 1 v0.length ((eInt).f v0)) []), (1, .call [] [] (.sl false 1 v1.length ((eInt).f v1)) []), (0, .call [] [] (.sl false 1 v2.length ((eInt).f v2)) []), (0, .call [] [] (.agg [bl v3.Neg, .sl true 1 v3.D.length ((eInt).f v3.D)]) [])] [] (ocons (Tspec_l1Mag (Y := Y) n a0 _ hv0) (ocons (Tspec_l1Mag (Y := Y) n a1 _ hv1) (ocons (Tspec_l1Gcd (Y := Y) n v0 v1 _ hv2) (ocons (Tspec_l1Num (Y := Y) n false v2 _ hv3) onil)))) onil (by kernel_rfl)
/-! spec.l3NumGcd -/
def Dspec_l3NumGcd_0 (n : Nat) (t0 : List Num) (_b2_0 : Bool) (rec0 : (Int × Bool × List Int) → Option Num) (a : (Int × Bool × List Int)) : Option Num :=
  match a with
  | (t4, b3_0, b3_1) => frk (decide (t4 < (t0.length : Int))) ((lget t0 t4).bind fun v1 => (Dspec_Gcd n (Num.mk b3_0 b3_1) v1).bind fun v2 => rec0 (w64 (t4 + 1), v2.Neg, v2.D)) (some (Num.mk b3_0 b3_1))
theorem Tspec_l3NumGcd_0 {Y} (n : Nat) (t0 : List Num) (b2_0 : Bool) : ∀ (m : Nat) (a : (Int × Bool × List Int)) (r : Num), loopN (Dspec_l3NumGcd_0 n t0 b2_0) m a = some r → Wk Tryz.prog H Y 162 [.code (cp [1, 1, 0, 1, 0] (bodyOf Tryz.f162)), .blk 0, .code (cp [1, 1, 1] (bodyOf Tryz.f162))] (FinX Tryz.prog Tryz.f162 [] (.agg [bl r.Neg, .sl true 1 r.D.length ((eInt).f r.D)]) []) ⟨[(0, .sl false 2 t0.length ((eNum false).f t0)), (2, .ptr 2 0), (3, .ptr 3 0), (4, i64 a.1)], [(2, ⟨true, 0, [bl b2_0, .nil]⟩), (3, ⟨true, 0, [bl a.2.1, .sl true 1 a.2.2.length ((eInt).f a.2.2)]⟩)]⟩ := by
  refine loopN_ind (fun _rec0 hrec0 a r h => ?_)
  obtain ⟨t4, b3_0, b3_1⟩ := a
  unfold Dspec_l3NumGcd_0 at h
  refine x_frk 9 [] onil h (by kernel_rfl) (fun h => ?_) (fun h => ?_)
  · obtain ⟨v1, hv1, h⟩ := bind_some h
    obtain ⟨v2, hv2, h⟩ := bind_some h
    exact x_to 19 [(0, .rows [(eInt).f b3_1]), (2, .val (.cptr ((eNum false).c v1 ++ (eNum false).f ((t0).drop (Int.toNat t4 + 1))))), (1, .call [] [] (.agg [bl v2.Neg, .sl true 1 v2.D.length ((eInt).f v2.D)]) [])] (ocons (Enc.share eInt eInt sInt b3_1) (ocons (ix (eNum false) hv1) (ocons (Tspec_Gcd (Y := Y) n (Num.mk b3_0 b3_1) v1 _ hv2) onil))) (hrec0 (w64 (t4 + 1), v2.Neg, v2.D) r h) (by kernel_rfl)
  · replace h := Option.some.inj h; subst h
    exact x_end 6 [] [] onil onil (by kernel_rfl)
def Dspec_l3NumGcd (n : Nat) (a0 : (List Num)) : Option Num :=
  (Dspec_Of n 0).bind fun v0 => loopN (Dspec_l3NumGcd_0 n a0 false) n (0, v0.Neg, v0.D)
theorem Tspec_l3NumGcd {Y} (n : Nat) (a0 : (List Num)) (r : Num) (h : Dspec_l3NumGcd n a0 = some r) : Big Tryz.prog H Y (.call 162 [.sl false 2 a0.length ((eNum false).f a0)] (lk []) (.agg [bl r.Neg, .sl true 1 r.D.length ((eInt).f r.D)]) (lk [])) := by
  unfold Dspec_l3NumGcd at h
  refine x_call (fn := Tryz.f162) (c := bodyOf Tryz.f162) (bs0 := []) Tryz.func162 (by kernel_rfl) (by kernel_rfl) ?_
  obtain ⟨v0, hv0, h⟩ := bind_some h
  exact x_to 16 [(1, .call [] [] (.agg [bl v0.Neg, .sl true 1 v0.D.length ((eInt).f v0.D)]) [])] (ocons (Tspec_Of (Y := Y) n 0 _ hv0) onil) (Tspec_l3NumGcd_0 n a0 false n (0, v0.Neg, v0.D) r h) (by kernel_rfl)
/-! spec.l1Sign -/
def Dspec_l1Sign (n : Nat) (a0 : Num) : Option Bool :=
  (Dspec_NumOk n a0).bind fun v0 => frk v0 (some a0.Neg) (some false)
theorem Tspec_l1Sign {Y} (n : Nat) (a0 : Num) (r : Bool) (h : Dspec_l1Sign n a0 = some r) : Big Tryz.prog H Y (.call 187 [.agg [bl a0.Neg, .sl false 1 a0.D.length ((eInt).f a0.D)]] (lk []) (bl r) (lk [])) := by
  unfold Dspec_l1Sign at h
  refine x_call (fn := Tryz.f187) (c := bodyOf Tryz.f187) (bs0 := []) Tryz.func187 (by kernel_rfl) (by kernel_rfl) ?_
  obtain ⟨v0, hv0, h⟩ := bind_some h
  refine x_frk 10 [(3, .call [] [] (bl v0) [])] (ocons (Tspec_NumOk (Y := Y) n a0 _ hv0) onil) h (by kernel_rfl) (fun h => ?_) (fun h => ?_)
  · replace h := Option.some.inj h; subst h
    exact x_end 5 [] [] onil onil (by kernel_rfl)
  · replace h := Option.some.inj h; subst h
    exact x_end 5 [] [] onil onil (by kernel_rfl)
/-! spec.Small -/
def Dspec_Small_0 (n : Nat) (t5 : Int) (b1_0 : Bool) (b1_1 : List Int) : Option (Int × Bool) :=
  (Dspec_l1Sign n (Num.mk b1_0 b1_1)).bind fun v2 => frk v2 (frk (decide (t5 > 9223372036854775808)) (some (0, false)) (some (w64 ((w64 (0 - (w64 (IntKind.u64.wrap (t5 - 1))))) - 1), true))) (frk (decide (t5 ≥ 9223372036854775808)) (some (0, false)) (some (w64 t5, true)))
theorem Tspec_Small_0 {Y} (n : Nat) (t5 : Int) (b1_0 : Bool) (b1_1 : List Int) (r : (Int × Bool)) (h : Dspec_Small_0 n t5 b1_0 b1_1 = some r) : Wk Tryz.prog H Y 164 [.code (cp [1, 1, 1, 1, 1, 0, 0] (bodyOf Tryz.f164)), .code (cp [1, 1, 1, 1, 1, 0, 1] (bodyOf Tryz.f164)), .code (cp [1, 1, 1, 1, 1, 1] (bodyOf Tryz.f164))] (FinX Tryz.prog Tryz.f164 [] (.tup [i64 r.1, bl r.2]) []) ⟨[(1, .ptr 1 0), (5, .lit (.int .u64 t5))], [(1, ⟨true, 0, [bl b1_0, .sl false 1 b1_1.length ((eInt).f b1_1)]⟩)]⟩ := by
  unfold Dspec_Small_0 at h
  obtain ⟨v2, hv2, h⟩ := bind_some h
  refine x_frk 4 [(1, .call [] [] (bl v2) [])] (ocons (Tspec_l1Sign (Y := Y) n (Num.mk b1_0 b1_1) _ hv2) onil) h (by kernel_rfl) (fun h => ?_) (fun h => ?_)
  · refine x_frk 6 [] onil h (by kernel_rfl) (fun h => ?_) (fun h => ?_)
    · replace h := Option.some.inj h; subst h
      exact x_end 5 [] [] onil onil (by kernel_rfl)
    · replace h := Option.some.inj h; subst h
      exact x_end 11 [] [] onil onil (by kernel_rfl)
  · refine x_frk 7 [] onil h (by kernel_rfl) (fun h => ?_) (fun h => ?_)
    · replace h := Option.some.inj h; subst h
      exact x_end 5 [] [] onil onil (by kernel_rfl)
    · replace h := Option.some.inj h; subst h
      exact x_end 8 [] [] onil onil (by kernel_rfl)
def Dspec_Small_1 (n : Nat) (t4 : List Int) (b1_0 : Bool) (b1_1 : List Int) (rec0 : (Int × Int) → Option (Int × Bool)) (a : (Int × Int)) : Option (Int × Bool) :=
  match a with
  | (t5, t6) => frk (decide (t6 ≥ 0)) (frk (decide (t5 > 922337203685477)) (some (0, false)) ((lget t4 t6).bind fun v1 => rec0 (IntKind.u64.wrap ((IntKind.u64.wrap (t5 * 10000)) + (IntKind.u64.wrap v1)), w64 (t6 - 1)))) (Dspec_Small_0 n t5 b1_0 b1_1)
theorem Tspec_Small_1 {Y} (n : Nat) (t4 : List Int) (b1_0 : Bool) (b1_1 : List Int) : ∀ (m : Nat) (a : (Int × Int)) (r : (Int × Bool)), loopN (Dspec_Small_1 n t4 b1_0 b1_1) m a = some r → Wk Tryz.prog H Y 164 [.code (cp [1, 1, 1, 1, 0, 1, 0] (bodyOf Tryz.f164)), .blk 0, .code (cp [1, 1, 1, 1, 1] (bodyOf Tryz.f164))] (FinX Tryz.prog Tryz.f164 [] (.tup [i64 r.1, bl r.2]) []) ⟨[(1, .ptr 1 0), (4, .sl false 1 t4.length ((eInt).f t4)), (5, .lit (.int .u64 a.1)), (6, i64 a.2)], [(1, ⟨true, 0, [bl b1_0, .sl false 1 b1_1.length ((eInt).f b1_1)]⟩)]⟩ := by
  refine loopN_ind (fun _rec0 hrec0 a r h => ?_)
  obtain ⟨t5, t6⟩ := a
  unfold Dspec_Small_1 at h
  refine x_frk 7 [] onil h (by kernel_rfl) (fun h => ?_) (fun h => ?_)
  · refine x_frk 9 [] onil h (by kernel_rfl) (fun h => ?_) (fun h => ?_)
    · replace h := Option.some.inj h; subst h
      exact x_end 5 [] [] onil onil (by kernel_rfl)
    · obtain ⟨v1, hv1, h⟩ := bind_some h
      exact x_to 19 [(4, .val (.cptr (eInt.c v1 ++ (eInt).f ((t4).drop (Int.toNat t6 + 1)))))] (ocons (ix eInt hv1) onil) (hrec0 (IntKind.u64.wrap ((IntKind.u64.wrap (t5 * 10000)) + (IntKind.u64.wrap v1)), w64 (t6 - 1)) r h) (by kernel_rfl)
  · exact x_to 3 [] onil (Tspec_Small_0 n t5 b1_0 b1_1 r h) (by kernel_rfl)
def Dspec_Small (n : Nat) (a0 : Num) : Option (Int × Bool) :=
  (Dspec_l1Mag n a0).bind fun v0 => frk (decide ((v0.length : Int) > 5)) (some (0, false)) (loopN (Dspec_Small_1 n v0 a0.Neg a0.D) n (0, w64 ((v0.length : Int) - 1)))
theorem Tspec_Small {Y} (n : Nat) (a0 : Num) (r : (Int × Bool)) (h : Dspec_Small n a0 = some r) : Big Tryz.prog H Y (.call 164 [.agg [bl a0.Neg, .sl false 1 a0.D.length ((eInt).f a0.D)]] (lk []) (.tup [i64 r.1, bl r.2]) (lk [])) := by
  unfold Dspec_Small at h
  refine x_call (fn := Tryz.f164) (c := bodyOf Tryz.f164) (bs0 := []) Tryz.func164 (by kernel_rfl) (by kernel_rfl) ?_
  obtain ⟨v0, hv0, h⟩ := bind_some h
  refine x_frk 19 [(4, .call [] [] (.sl false 1 v0.length ((eInt).f v0)) [])] (ocons (Tspec_l1Mag (Y := Y) n a0 _ hv0) onil) h (by kernel_rfl) (fun h => ?_) (fun h => ?_)
  · replace h := Option.some.inj h; subst h
    exact x_end 5 [] [] onil onil (by kernel_rfl)
  · exact x_to 14 [] onil (Tspec_Small_1 n v0 a0.Neg a0.D n (0, w64 ((v0.length : Int) - 1)) r h) (by kernel_rfl)
/-! spec.Primitive -/
def Dspec_Primitive_4 (_n : Nat) (t16 : Int) (t73 : Bool) (_b8_0 _b8_1 _b8_2 _b8_3 : Int) (_b11_0 : Bool) (_b11_1 : List Int) (_l37 : List Num) (l78 : List Int) : Option (Pl × Int) :=
  frk t73 (some ((Pl.mk 0 0 0 0), 2)) (chk (apB 8 (l78.length + 1)) ((lget (l78 ++ [t16]) 0).bind fun v31 => (lget (l78 ++ [t16]) 1).bind fun v32 => (lget (l78 ++ [t16]) 2).bind fun v33 => (lget (l78 ++ [t16]) 3).bind fun v34 => some ((Pl.mk v31 v32 v33 v34), 0)))
theorem Tspec_Primitive_4 {Y} (n : Nat) (t16 : Int) (t73 : Bool) (b8_0 b8_1 b8_2 b8_3 : Int) (b11_0 : Bool) (b11_1 : List Int) (l37 : List Num) (l78 : List Int) (r : (Pl × Int)) (h : Dspec_Primitive_4 n t16 t73 b8_0 b8_1 b8_2 b8_3 b11_0 b11_1 l37 l78 = some r) : Wk Tryz.prog H Y 139 [.code (cp [1, 1, 1, 1, 1, 0, 1, 0, 0, 1, 0, 0, 1, 1, 0, 1] (bodyOf Tryz.f139)), .code (cp [1, 1, 1, 1, 1, 0, 1, 0, 0, 1, 0, 0, 1, 1, 1] (bodyOf Tryz.f139)), .blk 1, .code (cp [1, 1, 1, 1, 1, 0, 1, 0, 0, 1, 1] (bodyOf Tryz.f139)), .lp (cp [1, 1, 1, 1, 1, 0, 1, 0] (bodyOf Tryz.f139)), .blk 0, .code (cp [1, 1, 1, 1, 1, 1] (bodyOf Tryz.f139))] (FinX Tryz.prog Tryz.f139 [] (.tup [.agg [i64 r.1.A, i64 r.1.B, i64 r.1.C, i64 r.1.D], i64 r.2]) []) ⟨[(8, .ptr 8 0), (10, .msl 37 l37.length), (11, .ptr 11 0), (12, .msl 78 l78.length), (13, i64 3), (16, i64 t16), (73, bl t73)], [(8, ⟨true, 0, [i64 b8_0, i64 b8_1, i64 b8_2, i64 b8_3]⟩), (11, ⟨true, 0, [bl b11_0, .sl true 1 b11_1.length ((eInt).f b11_1)]⟩), (37, ⟨true, 2, (eNum true).f l37⟩), (78, ⟨true, 1, (eInt).f l78⟩)]⟩ := by
  unfold Dspec_Primitive_4 at h
  refine x_frk 0 [] onil h (by kernel_rfl) (fun h => ?_) (fun h => ?_)
  · replace h := Option.some.inj h; subst h
    exact x_end 6 [] [] onil onil (by kernel_rfl)
  · obtain ⟨c30, h⟩ := chk_some h
    obtain ⟨v31, hv31, h⟩ := bind_some h
    obtain ⟨v32, hv32, h⟩ := bind_some h
    obtain ⟨v33, hv33, h⟩ := bind_some h
    obtain ⟨v34, hv34, h⟩ := bind_some h
    replace h := Option.some.inj h; subst h
    exact x_end 42 [(3, .app false (List.length (l78 ++ [t16])) ((eInt).f (l78 ++ [t16]))), (7, .unit), (0, .val (i64 v31)), (1, .unit), (0, .val (i64 v32)), (1, .unit), (0, .val (i64 v33)), (1, .unit), (0, .val (i64 v34))] [] (ocons (len_row' (L := l78) eInt) (ocons (app_one (L := l78) (M := [t16]) eInt c30) (ocons (app_new (L := l78) (M := [t16]) eInt) (ocons (app_m (L := l78) (M := [t16]) eInt rfl) (ocons (len_row' (L := [t16]) eInt) (ocons (Enc.noOwn eInt (fun _ => rfl) [t16]) (ocons (inr hv31) (ocons (ld1 eInt hv31 0 rfl) (ocons (inr hv32) (ocons (ld1 eInt hv32 0 rfl) (ocons (inr hv33) (ocons (ld1 eInt hv33 0 rfl) (ocons (inr hv34) (ocons (ld1 eInt hv34 0 rfl) onil)))))))))))))) onil (by kernel_rfl)
def Dspec_Primitive_3 (n : Nat) (t16 : Int) (t73 : Bool) (b8_0 b8_1 b8_2 b8_3 : Int) (b11_0 : Bool) (b11_1 : List Int) (l37 : List Num) (l78 : List Int) : Option (Pl × Int) :=
  frk t73 (some ((Pl.mk 0 0 0 0), 2)) (chk (apB 8 (l78.length + 1)) ((lget l37 3).bind fun v24 => (Dspec_l1DivMag n v24.D b11_1).bind fun v25 => (lget l37 3).bind fun v26 => (Dspec_l1Num n v26.Neg v25.1).bind fun v27 => (Dspec_Small n v27).bind fun v28 => frk (!v28.2) (some ((Pl.mk 0 0 0 0), 2)) ((Dspec_l1In v28.1 (-500) 500).bind fun v29 => Dspec_Primitive_4 n v28.1 (!v29) b8_0 b8_1 b8_2 b8_3 b11_0 b11_1 l37 (l78 ++ [t16]))))
theorem Tspec_Primitive_3 {Y} (n : Nat) (t16 : Int) (t73 : Bool) (b8_0 b8_1 b8_2 b8_3 : Int) (b11_0 : Bool) (b11_1 : List Int) (l37 : List Num) (l78 : List Int) (r : (Pl × Int)) (h : Dspec_Primitive_3 n t16 t73 b8_0 b8_1 b8_2 b8_3 b11_0 b11_1 l37 l78 = some r) : Wk Tryz.prog H Y 139 [.code (cp [1, 1, 1, 1, 1, 0, 1, 0, 0, 1, 0, 0, 1, 1, 0, 1] (bodyOf Tryz.f139)), .code (cp [1, 1, 1, 1, 1, 0, 1, 0, 0, 1, 0, 0, 1, 1, 1] (bodyOf Tryz.f139)), .blk 1, .code (cp [1, 1, 1, 1, 1, 0, 1, 0, 0, 1, 1] (bodyOf Tryz.f139)), .lp (cp [1, 1, 1, 1, 1, 0, 1, 0] (bodyOf Tryz.f139)), .blk 0, .code (cp [1, 1, 1, 1, 1, 1] (bodyOf Tryz.f139))] (FinX Tryz.prog Tryz.f139 [] (.tup [.agg [i64 r.1.A, i64 r.1.B, i64 r.1.C, i64 r.1.D], i64 r.2]) []) ⟨[(8, .ptr 8 0), (10, .msl 37 l37.length), (11, .ptr 11 0), (12, .msl 78 l78.length), (13, i64 2), (16, i64 t16), (73, bl t73)], [(8, ⟨true, 0, [i64 b8_0, i64 b8_1, i64 b8_2, i64 b8_3]⟩), (11, ⟨true, 0, [bl b11_0, .sl true 1 b11_1.length ((eInt).f b11_1)]⟩), (37, ⟨true, 2, (eNum true).f l37⟩), (78, ⟨true, 1, (eInt).f l78⟩)]⟩ := by
  unfold Dspec_Primitive_3 at h
  refine x_frk 0 [] onil h (by kernel_rfl) (fun h => ?_) (fun h => ?_)
  · replace h := Option.some.inj h; subst h
    exact x_end 6 [] [] onil onil (by kernel_rfl)
  · obtain ⟨c23, h⟩ := chk_some h
    obtain ⟨v24, hv24, h⟩ := bind_some h
    obtain ⟨v25, hv25, h⟩ := bind_some h
    obtain ⟨v26, hv26, h⟩ := bind_some h
    obtain ⟨v27, hv27, h⟩ := bind_some h
    obtain ⟨v28, hv28, h⟩ := bind_some h
    refine x_frk 65 [(3, .app false (List.length (l78 ++ [t16])) ((eInt).f (l78 ++ [t16]))), (8, .unit), (1, .val (.sl true 1 v24.D.length ((eInt).f v24.D))), (0, .fix 50 (.sl false 1 v24.D.length ((eInt).f v24.D))), (1, .rows [(eInt).f b11_1]), (0, .call [] [] (.tup [.sl false 1 v25.1.length ((eInt).f v25.1), .sl false 1 v25.2.length ((eInt).f v25.2)]) []), (7, .unit), (1, .val (bl v26.Neg)), (1, .call [] [] (.agg [bl v27.Neg, .sl true 1 v27.D.length ((eInt).f v27.D)]) []), (0, .call [] [(eInt).f v27.D] (.tup [i64 v28.1, bl v28.2]) [])] (ocons (len_row' (L := l78) eInt) (ocons (app_one (L := l78) (M := [t16]) eInt c23) (ocons (app_new (L := l78) (M := [t16]) eInt) (ocons (app_m (L := l78) (M := [t16]) eInt rfl) (ocons (len_row' (L := [t16]) eInt) (ocons (Enc.noOwn eInt (fun _ => rfl) [t16]) (ocons (inr hv24) (ocons (ld1 (eNum true) hv24 1 rfl) (ocons (congrArg (AV.sl false 1 v24.D.length) (Enc.share eInt eInt sInt v24.D)) (ocons (Enc.share eInt eInt sInt b11_1) (ocons (Big.wkr (Tspec_l1DivMag (Y := Y) n v24.D b11_1 _ hv25) (show WkV (.tup [.sl true 1 v25.1.length ((eInt).f v25.1), .sl true 1 v25.2.length ((eInt).f v25.2)]) (.tup [.sl false 1 v25.1.length ((eInt).f v25.1), .sl false 1 v25.2.length ((eInt).f v25.2)]) from .inr ⟨_, _, rfl, rfl, ⟨wkShareU (L := v25.1) eInt eInt sInt, wkShareU (L := v25.2) eInt eInt sInt, trivial⟩⟩)) (ocons (inr hv26) (ocons (ld1 (eNum true) hv26 0 rfl) (ocons (Tspec_l1Num (Y := Y) n v26.Neg v25.1 _ hv27) (ocons (Tspec_Small (Y := Y) n v27 _ hv28) (ocons (Enc.share eInt eInt sInt v27.D) onil)))))))))))))))) h (by kernel_rfl) (fun h => ?_) (fun h => ?_)
    · replace h := Option.some.inj h; subst h
      exact x_end 12 [] [] onil onil (by kernel_rfl)
    · obtain ⟨v29, hv29, h⟩ := bind_some h
      exact x_to 5 [(1, .call [] [] (bl v29) [])] (ocons (Tspec_l1In (Y := Y) v28.1 (-500) 500 _ hv29) onil) (Tspec_Primitive_4 n v28.1 (!v29) b8_0 b8_1 b8_2 b8_3 b11_0 b11_1 l37 (l78 ++ [t16]) r h) (by kernel_rfl)
def Dspec_Primitive_2 (n : Nat) (t16 : Int) (t73 : Bool) (b8_0 b8_1 b8_2 b8_3 : Int) (b11_0 : Bool) (b11_1 : List Int) (l37 : List Num) (l78 : List Int) : Option (Pl × Int) :=
  frk t73 (some ((Pl.mk 0 0 0 0), 2)) (chk (apB 8 (l78.length + 1)) ((lget l37 2).bind fun v17 => (Dspec_l1DivMag n v17.D b11_1).bind fun v18 => (lget l37 2).bind fun v19 => (Dspec_l1Num n v19.Neg v18.1).bind fun v20 => (Dspec_Small n v20).bind fun v21 => frk (!v21.2) (some ((Pl.mk 0 0 0 0), 2)) ((Dspec_l1In v21.1 (-500) 500).bind fun v22 => Dspec_Primitive_3 n v21.1 (!v22) b8_0 b8_1 b8_2 b8_3 b11_0 b11_1 l37 (l78 ++ [t16]))))
theorem Tspec_Primitive_2 {Y} (n : Nat) (t16 : Int) (t73 : Bool) (b8_0 b8_1 b8_2 b8_3 : Int) (b11_0 : Bool) (b11_1 : List Int) (l37 : List Num) (l78 : List Int) (r : (Pl × Int)) (h : Dspec_Primitive_2 n t16 t73 b8_0 b8_1 b8_2 b8_3 b11_0 b11_1 l37 l78 = some r) : Wk Tryz.prog H Y 139 [.code (cp [1, 1, 1, 1, 1, 0, 1, 0, 0, 1, 0, 0, 1, 1, 0, 1] (bodyOf Tryz.f139)), .code (cp [1, 1, 1, 1, 1, 0, 1, 0, 0, 1, 0, 0, 1, 1, 1] (bodyOf Tryz.f139)), .blk 1, .code (cp [1, 1, 1, 1, 1, 0, 1, 0, 0, 1, 1] (bodyOf Tryz.f139)), .lp (cp [1, 1, 1, 1, 1, 0, 1, 0] (bodyOf Tryz.f139)), .blk 0, .code (cp [1, 1, 1, 1, 1, 1] (bodyOf Tryz.f139))] (FinX Tryz.prog Tryz.f139 [] (.tup [.agg [i64 r.1.A, i64 r.1.B, i64 r.1.C, i64 r.1.D], i64 r.2]) []) ⟨[(8, .ptr 8 0), (10, .msl 37 l37.length), (11, .ptr 11 0), (12, .msl 78 l78.length), (13, i64 1), (16, i64 t16), (73, bl t73)], [(8, ⟨true, 0, [i64 b8_0, i64 b8_1, i64 b8_2, i64 b8_3]⟩), (11, ⟨true, 0, [bl b11_0, .sl true 1 b11_1.length ((eInt).f b11_1)]⟩), (37, ⟨true, 2, (eNum true).f l37⟩), (78, ⟨true, 1, (eInt).f l78⟩)]⟩ := by
  unfold Dspec_Primitive_2 at h
  refine x_frk 0 [] onil h (by kernel_rfl) (fun h => ?_) (fun h => ?_)
  · replace h := Option.some.inj h; subst h
    exact x_end 6 [] [] onil onil (by kernel_rfl)
  · obtain ⟨c16, h⟩ := chk_some h
    obtain ⟨v17, hv17, h⟩ := bind_some h
    obtain ⟨v18, hv18, h⟩ := bind_some h
    obtain ⟨v19, hv19, h⟩ := bind_some h
    obtain ⟨v20, hv20, h⟩ := bind_some h
    obtain ⟨v21, hv21, h⟩ := bind_some h
    refine x_frk 65 [(3, .app false (List.length (l78 ++ [t16])) ((eInt).f (l78 ++ [t16]))), (8, .unit), (1, .val (.sl true 1 v17.D.length ((eInt).f v17.D))), (0, .fix 50 (.sl false 1 v17.D.length ((eInt).f v17.D))), (1, .rows [(eInt).f b11_1]), (0, .call [] [] (.tup [.sl false 1 v18.1.length ((eInt).f v18.1), .sl false 1 v18.2.length ((eInt).f v18.2)]) []), (7, .unit), (1, .val (bl v19.Neg)), (1, .call [] [] (.agg [bl v20.Neg, .sl true 1 v20.D.length ((eInt).f v20.D)]) []), (0, .call [] [(eInt).f v20.D] (.tup [i64 v21.1, bl v21.2]) [])] (ocons (len_row' (L := l78) eInt) (ocons (app_one (L := l78) (M := [t16]) eInt c16) (ocons (app_new (L := l78) (M := [t16]) eInt) (ocons (app_m (L := l78) (M := [t16]) eInt rfl) (ocons (len_row' (L := [t16]) eInt) (ocons (Enc.noOwn eInt (fun _ => rfl) [t16]) (ocons (inr hv17) (ocons (ld1 (eNum true) hv17 1 rfl) (ocons (congrArg (AV.sl false 1 v17.D.length) (Enc.share eInt eInt sInt v17.D)) (ocons (Enc.share eInt eInt sInt b11_1) (ocons (Big.wkr (Tspec_l1DivMag (Y := Y) n v17.D b11_1 _ hv18) (show WkV (.tup [.sl true 1 v18.1.length ((eInt).f v18.1), .sl true 1 v18.2.length ((eInt).f v18.2)]) (.tup [.sl false 1 v18.1.length ((eInt).f v18.1), .sl false 1 v18.2.length ((eInt).f v18.2)]) from .inr ⟨_, _, rfl, rfl, ⟨wkShareU (L := v18.1) eInt eInt sInt, wkShareU (L := v18.2) eInt eInt sInt, trivial⟩⟩)) (ocons (inr hv19) (ocons (ld1 (eNum true) hv19 0 rfl) (ocons (Tspec_l1Num (Y := Y) n v19.Neg v18.1 _ hv20) (ocons (Tspec_Small (Y := Y) n v20 _ hv21) (ocons (Enc.share eInt eInt sInt v20.D) onil)))))))))))))))) h (by kernel_rfl) (fun h => ?_) (fun h => ?_)
    · replace h := Option.some.inj h; subst h
      exact x_end 12 [] [] onil onil (by kernel_rfl)
    · obtain ⟨v22, hv22, h⟩ := bind_some h
      exact x_to 5 [(1, .call [] [] (bl v22) [])] (ocons (Tspec_l1In (Y := Y) v21.1 (-500) 500 _ hv22) onil) (Tspec_Primitive_3 n v21.1 (!v22) b8_0 b8_1 b8_2 b8_3 b11_0 b11_1 l37 (l78 ++ [t16]) r h) (by kernel_rfl)
def Dspec_Primitive_1 (n : Nat) (t16 : Int) (t73 : Bool) (b8_0 b8_1 b8_2 b8_3 : Int) (b11_0 : Bool) (b11_1 : List Int) (l37 : List Num) (l40 : List Int) : Option (Pl × Int) :=
  frk t73 (some ((Pl.mk 0 0 0 0), 2)) (chk (apB 8 (l40.length + 1)) ((lget l37 1).bind fun v10 => (Dspec_l1DivMag n v10.D b11_1).bind fun v11 => (lget l37 1).bind fun v12 => (Dspec_l1Num n v12.Neg v11.1).bind fun v13 => (Dspec_Small n v13).bind fun v14 => frk (!v14.2) (some ((Pl.mk 0 0 0 0), 2)) ((Dspec_l1In v14.1 (-500) 500).bind fun v15 => Dspec_Primitive_2 n v14.1 (!v15) b8_0 b8_1 b8_2 b8_3 b11_0 b11_1 l37 (l40 ++ [t16]))))
theorem Tspec_Primitive_1 {Y} (n : Nat) (t16 : Int) (t73 : Bool) (b8_0 b8_1 b8_2 b8_3 : Int) (b11_0 : Bool) (b11_1 : List Int) (l37 : List Num) (l40 : List Int) (r : (Pl × Int)) (h : Dspec_Primitive_1 n t16 t73 b8_0 b8_1 b8_2 b8_3 b11_0 b11_1 l37 l40 = some r) : Wk Tryz.prog H Y 139 [.code (cp [1, 1, 1, 1, 1, 0, 1, 0, 0, 1, 0, 0, 1, 1, 0, 1] (bodyOf Tryz.f139)), .code (cp [1, 1, 1, 1, 1, 0, 1, 0, 0, 1, 0, 0, 1, 1, 1] (bodyOf Tryz.f139)), .blk 1, .code (cp [1, 1, 1, 1, 1, 0, 1, 0, 0, 1, 1] (bodyOf Tryz.f139)), .lp (cp [1, 1, 1, 1, 1, 0, 1, 0] (bodyOf Tryz.f139)), .blk 0, .code (cp [1, 1, 1, 1, 1, 1] (bodyOf Tryz.f139))] (FinX Tryz.prog Tryz.f139 [] (.tup [.agg [i64 r.1.A, i64 r.1.B, i64 r.1.C, i64 r.1.D], i64 r.2]) []) ⟨[(8, .ptr 8 0), (10, .msl 37 l37.length), (11, .ptr 11 0), (12, .msl 40 l40.length), (13, i64 0), (16, i64 t16), (73, bl t73)], [(8, ⟨true, 0, [i64 b8_0, i64 b8_1, i64 b8_2, i64 b8_3]⟩), (11, ⟨true, 0, [bl b11_0, .sl true 1 b11_1.length ((eInt).f b11_1)]⟩), (37, ⟨true, 2, (eNum true).f l37⟩), (40, ⟨true, 1, (eInt).f l40⟩)]⟩ := by
  unfold Dspec_Primitive_1 at h
  refine x_frk 0 [] onil h (by kernel_rfl) (fun h => ?_) (fun h => ?_)
  · replace h := Option.some.inj h; subst h
    exact x_end 6 [] [] onil onil (by kernel_rfl)
  · obtain ⟨c9, h⟩ := chk_some h
    obtain ⟨v10, hv10, h⟩ := bind_some h
    obtain ⟨v11, hv11, h⟩ := bind_some h
    obtain ⟨v12, hv12, h⟩ := bind_some h
    obtain ⟨v13, hv13, h⟩ := bind_some h
    obtain ⟨v14, hv14, h⟩ := bind_some h
    refine x_frk 65 [(3, .app false (List.length (l40 ++ [t16])) ((eInt).f (l40 ++ [t16]))), (8, .unit), (1, .val (.sl true 1 v10.D.length ((eInt).f v10.D))), (0, .fix 50 (.sl false 1 v10.D.length ((eInt).f v10.D))), (1, .rows [(eInt).f b11_1]), (0, .call [] [] (.tup [.sl false 1 v11.1.length ((eInt).f v11.1), .sl false 1 v11.2.length ((eInt).f v11.2)]) []), (7, .unit), (1, .val (bl v12.Neg)), (1, .call [] [] (.agg [bl v13.Neg, .sl true 1 v13.D.length ((eInt).f v13.D)]) []), (0, .call [] [(eInt).f v13.D] (.tup [i64 v14.1, bl v14.2]) [])] (ocons (len_row' (L := l40) eInt) (ocons (app_one (L := l40) (M := [t16]) eInt c9) (ocons (app_new (L := l40) (M := [t16]) eInt) (ocons (app_m (L := l40) (M := [t16]) eInt rfl) (ocons (len_row' (L := [t16]) eInt) (ocons (Enc.noOwn eInt (fun _ => rfl) [t16]) (ocons (inr hv10) (ocons (ld1 (eNum true) hv10 1 rfl) (ocons (congrArg (AV.sl false 1 v10.D.length) (Enc.share eInt eInt sInt v10.D)) (ocons (Enc.share eInt eInt sInt b11_1) (ocons (Big.wkr (Tspec_l1DivMag (Y := Y) n v10.D b11_1 _ hv11) (show WkV (.tup [.sl true 1 v11.1.length ((eInt).f v11.1), .sl true 1 v11.2.length ((eInt).f v11.2)]) (.tup [.sl false 1 v11.1.length ((eInt).f v11.1), .sl false 1 v11.2.length ((eInt).f v11.2)]) from .inr ⟨_, _, rfl, rfl, ⟨wkShareU (L := v11.1) eInt eInt sInt, wkShareU (L := v11.2) eInt eInt sInt, trivial⟩⟩)) (ocons (inr hv12) (ocons (ld1 (eNum true) hv12 0 rfl) (ocons (Tspec_l1Num (Y := Y) n v12.Neg v11.1 _ hv13) (ocons (Tspec_Small (Y := Y) n v13 _ hv14) (ocons (Enc.share eInt eInt sInt v13.D) onil)))))))))))))))) h (by kernel_rfl) (fun h => ?_) (fun h => ?_)
    · replace h := Option.some.inj h; subst h
      exact x_end 12 [] [] onil onil (by kernel_rfl)
    · obtain ⟨v15, hv15, h⟩ := bind_some h
      exact x_to 5 [(1, .call [] [] (bl v15) [])] (ocons (Tspec_l1In (Y := Y) v14.1 (-500) 500 _ hv15) onil) (Tspec_Primitive_2 n v14.1 (!v15) b8_0 b8_1 b8_2 b8_3 b11_0 b11_1 l37 (l40 ++ [t16]) r h) (by kernel_rfl)
def Dspec_Primitive_0 (n : Nat) (t0 t1 t2 t3 : Int) (t27 : Bool) (b8_0 b8_1 b8_2 b8_3 : Int) : Option (Pl × Int) :=
  frk t27 (some ((Pl.mk 0 0 0 0), 1)) ((Dspec_Of n t0).bind fun v0 => (Dspec_Of n t1).bind fun v1 => (Dspec_Of n t2).bind fun v2 => (Dspec_Of n t3).bind fun v3 => (Dspec_l3NumGcd n [v0, v1, v2, v3]).bind fun v4 => (Dspec_l1DivMag n v0.D v4.D).bind fun v5 => (Dspec_l1Num n v0.Neg v5.1).bind fun v6 => (Dspec_Small n v6).bind fun v7 => frk (!v7.2) (some ((Pl.mk 0 0 0 0), 2)) ((Dspec_l1In v7.1 (-500) 500).bind fun v8 => Dspec_Primitive_1 n v7.1 (!v8) b8_0 b8_1 b8_2 b8_3 v4.Neg v4.D [v0, v1, v2, v3] []))
theorem Tspec_Primitive_0 {Y} (n : Nat) (t0 t1 t2 t3 : Int) (t27 : Bool) (b8_0 b8_1 b8_2 b8_3 : Int) (r : (Pl × Int)) (h : Dspec_Primitive_0 n t0 t1 t2 t3 t27 b8_0 b8_1 b8_2 b8_3 = some r) : Wk Tryz.prog H Y 139 [.code (cp [1, 0, 1] (bodyOf Tryz.f139)), .code (cp [1, 1] (bodyOf Tryz.f139))] (FinX Tryz.prog Tryz.f139 [] (.tup [.agg [i64 r.1.A, i64 r.1.B, i64 r.1.C, i64 r.1.D], i64 r.2]) []) ⟨[(0, i64 t0), (1, i64 t1), (2, i64 t2), (3, i64 t3), (8, .ptr 8 0), (27, bl t27)], [(8, ⟨true, 0, [i64 b8_0, i64 b8_1, i64 b8_2, i64 b8_3]⟩)]⟩ := by
  unfold Dspec_Primitive_0 at h
  refine x_frk 0 [] onil h (by kernel_rfl) (fun h => ?_) (fun h => ?_)
  · replace h := Option.some.inj h; subst h
    exact x_end 6 [] [] onil onil (by kernel_rfl)
  · obtain ⟨v0, hv0, h⟩ := bind_some h
    obtain ⟨v1, hv1, h⟩ := bind_some h
    obtain ⟨v2, hv2, h⟩ := bind_some h
    obtain ⟨v3, hv3, h⟩ := bind_some h
    obtain ⟨v4, hv4, h⟩ := bind_some h
    obtain ⟨v5, hv5, h⟩ := bind_some h
    obtain ⟨v6, hv6, h⟩ := bind_some h
    obtain ⟨v7, hv7, h⟩ := bind_some h
    refine x_frk 81 [(1, .call [] [] (.agg [bl v0.Neg, .sl true 1 v0.D.length ((eInt).f v0.D)]) []), (1, .call [] [] (.agg [bl v1.Neg, .sl true 1 v1.D.length ((eInt).f v1.D)]) []), (1, .call [] [] (.agg [bl v2.Neg, .sl true 1 v2.D.length ((eInt).f v2.D)]) []), (1, .call [] [] (.agg [bl v3.Neg, .sl true 1 v3.D.length ((eInt).f v3.D)]) []), (3, .call [] [(eNum false).f [v0, v1, v2, v3]] (.agg [bl v4.Neg, .sl true 1 v4.D.length ((eInt).f v4.D)]) []), (11, .rows [(eInt).f v0.D]), (1, .rows [(eInt).f v4.D]), (0, .call [] [] (.tup [.sl false 1 v5.1.length ((eInt).f v5.1), .sl false 1 v5.2.length ((eInt).f v5.2)]) []), (11, .call [] [] (.agg [bl v6.Neg, .sl true 1 v6.D.length ((eInt).f v6.D)]) []), (0, .call [] [(eInt).f v6.D] (.tup [i64 v7.1, bl v7.2]) [])] (ocons (Tspec_Of (Y := Y) n t0 _ hv0) (ocons (Tspec_Of (Y := Y) n t1 _ hv1) (ocons (Tspec_Of (Y := Y) n t2 _ hv2) (ocons (Tspec_Of (Y := Y) n t3 _ hv3) (ocons (Tspec_l3NumGcd (Y := Y) n [v0, v1, v2, v3] _ hv4) (ocons (len_row (L := [v0, v1, v2, v3]) (eNum true)) (ocons (Enc.share (eNum true) (eNum false) (sNum true) [v0, v1, v2, v3]) (ocons (show hasSh (.agg [bl v4.Neg, .sl true 1 v4.D.length ((eInt).f v4.D)]) = false by simp [hasSh, hasShL, nSh, nShI, nShB, nShP, nShT, nShN, nShPs]) (ocons (Enc.share eInt eInt sInt v0.D) (ocons (Enc.share eInt eInt sInt v4.D) (ocons (Big.wkr (Tspec_l1DivMag (Y := Y) n v0.D v4.D _ hv5) (show WkV (.tup [.sl true 1 v5.1.length ((eInt).f v5.1), .sl true 1 v5.2.length ((eInt).f v5.2)]) (.tup [.sl false 1 v5.1.length ((eInt).f v5.1), .sl false 1 v5.2.length ((eInt).f v5.2)]) from .inr ⟨_, _, rfl, rfl, ⟨wkShareU (L := v5.1) eInt eInt sInt, wkShareU (L := v5.2) eInt eInt sInt, trivial⟩⟩)) (ocons (Tspec_l1Num (Y := Y) n v0.Neg v5.1 _ hv6) (ocons (Tspec_Small (Y := Y) n v6 _ hv7) (ocons (Enc.share eInt eInt sInt v6.D) onil)))))))))))))) h (by kernel_rfl) (fun h => ?_) (fun h => ?_)
    · replace h := Option.some.inj h; subst h
      exact x_end 12 [] [] onil onil (by kernel_rfl)
    · obtain ⟨v8, hv8, h⟩ := bind_some h
      exact x_to 5 [(1, .call [] [] (bl v8) [])] (ocons (Tspec_l1In (Y := Y) v7.1 (-500) 500 _ hv8) onil) (Tspec_Primitive_1 n v7.1 (!v8) b8_0 b8_1 b8_2 b8_3 v4.Neg v4.D [v0, v1, v2, v3] [] r h) (by kernel_rfl)
def Dspec_Primitive_5 (n : Nat) (t0 t1 t2 t3 b8_0 b8_1 b8_2 b8_3 : Int) : Option (Pl × Int) :=
  (Dspec_Of n t0).bind fun v35 => (Dspec_Of n t1).bind fun v36 => (Dspec_Of n t2).bind fun v37 => (Dspec_Of n t3).bind fun v38 => (Dspec_l3NumGcd n [v35, v36, v37, v38]).bind fun v39 => (Dspec_l1DivMag n v35.D v39.D).bind fun v40 => (Dspec_l1Num n v35.Neg v40.1).bind fun v41 => (Dspec_Small n v41).bind fun v42 => frk (!v42.2) (some ((Pl.mk 0 0 0 0), 2)) ((Dspec_l1In v42.1 (-500) 500).bind fun v43 => Dspec_Primitive_1 n v42.1 (!v43) b8_0 b8_1 b8_2 b8_3 v39.Neg v39.D [v35, v36, v37, v38] [])
theorem Tspec_Primitive_5 {Y} (n : Nat) (t0 t1 t2 t3 b8_0 b8_1 b8_2 b8_3 : Int) (r : (Pl × Int)) (h : Dspec_Primitive_5 n t0 t1 t2 t3 b8_0 b8_1 b8_2 b8_3 = some r) : Wk Tryz.prog H Y 139 [.code (cp [1, 1, 0] (bodyOf Tryz.f139)), .code (cp [1, 1, 1] (bodyOf Tryz.f139))] (FinX Tryz.prog Tryz.f139 [] (.tup [.agg [i64 r.1.A, i64 r.1.B, i64 r.1.C, i64 r.1.D], i64 r.2]) []) ⟨[(0, i64 t0), (1, i64 t1), (2, i64 t2), (3, i64 t3), (8, .ptr 8 0)], [(8, ⟨true, 0, [i64 b8_0, i64 b8_1, i64 b8_2, i64 b8_3]⟩)]⟩ := by
  unfold Dspec_Primitive_5 at h
  obtain ⟨v35, hv35, h⟩ := bind_some h
  obtain ⟨v36, hv36, h⟩ := bind_some h
  obtain ⟨v37, hv37, h⟩ := bind_some h
  obtain ⟨v38, hv38, h⟩ := bind_some h
  obtain ⟨v39, hv39, h⟩ := bind_some h
  obtain ⟨v40, hv40, h⟩ := bind_some h
  obtain ⟨v41, hv41, h⟩ := bind_some h
  obtain ⟨v42, hv42, h⟩ := bind_some h
  refine x_frk 79 [(1, .call [] [] (.agg [bl v35.Neg, .sl true 1 v35.D.length ((eInt).f v35.D)]) []), (1, .call [] [] (.agg [bl v36.Neg, .sl true 1 v36.D.length ((eInt).f v36.D)]) []), (1, .call [] [] (.agg [bl v37.Neg, .sl true 1 v37.D.length ((eInt).f v37.D)]) []), (1, .call [] [] (.agg [bl v38.Neg, .sl true 1 v38.D.length ((eInt).f v38.D)]) []), (3, .call [] [(eNum false).f [v35, v36, v37, v38]] (.agg [bl v39.Neg, .sl true 1 v39.D.length ((eInt).f v39.D)]) []), (11, .rows [(eInt).f v35.D]), (1, .rows [(eInt).f v39.D]), (0, .call [] [] (.tup [.sl false 1 v40.1.length ((eInt).f v40.1), .sl false 1 v40.2.length ((eInt).f v40.2)]) []), (11, .call [] [] (.agg [bl v41.Neg, .sl true 1 v41.D.length ((eInt).f v41.D)]) []), (0, .call [] [(eInt).f v41.D] (.tup [i64 v42.1, bl v42.2]) [])] (ocons (Tspec_Of (Y := Y) n t0 _ hv35) (ocons (Tspec_Of (Y := Y) n t1 _ hv36) (ocons (Tspec_Of (Y := Y) n t2 _ hv37) (ocons (Tspec_Of (Y := Y) n t3 _ hv38) (ocons (Tspec_l3NumGcd (Y := Y) n [v35, v36, v37, v38] _ hv39) (ocons (len_row (L := [v35, v36, v37, v38]) (eNum true)) (ocons (Enc.share (eNum true) (eNum false) (sNum true) [v35, v36, v37, v38]) (ocons (show hasSh (.agg [bl v39.Neg, .sl true 1 v39.D.length ((eInt).f v39.D)]) = false by simp [hasSh, hasShL, nSh, nShI, nShB, nShP, nShT, nShN, nShPs]) (ocons (Enc.share eInt eInt sInt v35.D) (ocons (Enc.share eInt eInt sInt v39.D) (ocons (Big.wkr (Tspec_l1DivMag (Y := Y) n v35.D v39.D _ hv40) (show WkV (.tup [.sl true 1 v40.1.length ((eInt).f v40.1), .sl true 1 v40.2.length ((eInt).f v40.2)]) (.tup [.sl false 1 v40.1.length ((eInt).f v40.1), .sl false 1 v40.2.length ((eInt).f v40.2)]) from .inr ⟨_, _, rfl, rfl, ⟨wkShareU (L := v40.1) eInt eInt sInt, wkShareU (L := v40.2) eInt eInt sInt, trivial⟩⟩)) (ocons (Tspec_l1Num (Y := Y) n v35.Neg v40.1 _ hv41) (ocons (Tspec_Small (Y := Y) n v41 _ hv42) (ocons (Enc.share eInt eInt sInt v41.D) onil)))))))))))))) h (by kernel_rfl) (fun h => ?_) (fun h => ?_)
  · replace h := Option.some.inj h; subst h
    exact x_end 12 [] [] onil onil (by kernel_rfl)
  · obtain ⟨v43, hv43, h⟩ := bind_some h
    exact x_to 5 [(1, .call [] [] (bl v43) [])] (ocons (Tspec_l1In (Y := Y) v42.1 (-500) 500 _ hv43) onil) (Tspec_Primitive_1 n v42.1 (!v43) b8_0 b8_1 b8_2 b8_3 v39.Neg v39.D [v35, v36, v37, v38] [] r h) (by kernel_rfl)
def Dspec_Primitive (n : Nat) (a0 a1 a2 a3 : Int) : Option (Pl × Int) :=
  frk (a0 == 0) (frk (a1 == 0) (Dspec_Primitive_0 n a0 a1 a2 a3 (a2 == 0) 0 0 0 0) (Dspec_Primitive_5 n a0 a1 a2 a3 0 0 0 0)) (Dspec_Primitive_5 n a0 a1 a2 a3 0 0 0 0)
theorem Tspec_Primitive {Y} (n : Nat) (a0 a1 a2 a3 : Int) (r : (Pl × Int)) (h : Dspec_Primitive n a0 a1 a2 a3 = some r) : Big Tryz.prog H Y (.call 139 [i64 a0, i64 a1, i64 a2, i64 a3] (lk []) (.tup [.agg [i64 r.1.A, i64 r.1.B, i64 r.1.C, i64 r.1.D], i64 r.2]) (lk [])) := by
  unfold Dspec_Primitive at h
  refine x_call (fn := Tryz.f139) (c := bodyOf Tryz.f139) (bs0 := []) Tryz.func139 (by kernel_rfl) (by kernel_rfl) ?_
  refine x_frk 11 [] onil h (by kernel_rfl) (fun h => ?_) (fun h => ?_)
  · refine x_frk 4 [] onil h (by kernel_rfl) (fun h => ?_) (fun h => ?_)
    · exact x_to 4 [] onil (Tspec_Primitive_0 n a0 a1 a2 a3 (a2 == 0) 0 0 0 0 r h) (by kernel_rfl)
    · exact x_to 7 [] onil (Tspec_Primitive_5 n a0 a1 a2 a3 0 0 0 0 r h) (by kernel_rfl)
  · exact x_to 11 [] onil (Tspec_Primitive_5 n a0 a1 a2 a3 0 0 0 0 r h) (by kernel_rfl)
/-! spec.l3Draw -/
def Dspec_l3Draw_0 (n : Nat) (t3 t4 t5 _b2_0 _b2_1 _b2_2 _b2_3 : Int) (b1000_0 : List Int) (b1000_1 b1000_2 : Int) : Option (Pl × ((List Int) × Int × Int)) :=
  (Dspec_l1Below (b1000_0, b1000_1, b1000_2) 25).bind fun v6 => (Dspec_l1Int v6.2 [0, 1, (-1), 2, (-4), w64 (v6.1 - 12), 500, (-500)]).bind fun v7 => (Dspec_Primitive n t3 t4 t5 v7.1).bind fun v8 => frk (v8.2 != 0) (some ((Pl.mk 0 0 1 (-1)), v7.2)) (some (v8.1, v7.2))
theorem Tspec_l3Draw_0 {Y} (n : Nat) (t3 t4 t5 b2_0 b2_1 b2_2 b2_3 : Int) (b1000_0 : List Int) (b1000_1 b1000_2 : Int) (r : (Pl × ((List Int) × Int × Int))) (h : Dspec_l3Draw_0 n t3 t4 t5 b2_0 b2_1 b2_2 b2_3 b1000_0 b1000_1 b1000_2 = some r) : Wk Tryz.prog H Y 94 [.code (cp [1, 1, 1, 1, 1, 0] (bodyOf Tryz.f94)), .code (cp [1, 1, 1, 1, 1, 1] (bodyOf Tryz.f94))] (FinX Tryz.prog Tryz.f94 [(1000, ⟨true, 0, [.bad, .bad, .bad]⟩)] (.agg [i64 r.1.A, i64 r.1.B, i64 r.1.C, i64 r.1.D]) [(1000, ⟨true, 0, [.sl false 1 r.2.1.length ((eU8).f r.2.1), i64 r.2.2.1, i64 r.2.2.2]⟩)]) ⟨[(0, .ptr 1000 0), (2, .ptr 2 0), (3, i64 t3), (4, i64 t4), (5, i64 t5)], [(2, ⟨true, 0, [i64 b2_0, i64 b2_1, i64 b2_2, i64 b2_3]⟩), (1000, ⟨true, 0, [.sl false 1 b1000_0.length ((eU8).f b1000_0), i64 b1000_1, i64 b1000_2]⟩)]⟩ := by
  unfold Dspec_l3Draw_0 at h
  obtain ⟨v6, hv6, h⟩ := bind_some h
  obtain ⟨v7, hv7, h⟩ := bind_some h
  obtain ⟨v8, hv8, h⟩ := bind_some h
  refine x_frk 24 [(5, .call [] [] (i64 v6.1) [(1000, ⟨true, 0, [.sl false 1 v6.2.1.length ((eU8).f v6.2.1), i64 v6.2.2.1, i64 v6.2.2.2]⟩)]), (2, .call [] [] (i64 v7.1) [(1000, ⟨true, 0, [.sl false 1 v7.2.1.length ((eU8).f v7.2.1), i64 v7.2.2.1, i64 v7.2.2.2]⟩)]), (0, .call [] [] (.tup [.agg [i64 v8.1.A, i64 v8.1.B, i64 v8.1.C, i64 v8.1.D], i64 v8.2]) [])] (ocons (Tspec_l1Below (Y := Y) (b1000_0, b1000_1, b1000_2) 25 _ hv6) (ocons (Big.wka (show WkT [.ptr 1000 0, .sl true 1 8 ((eInt).f [0, 1, (-1), 2, (-4), w64 (v6.1 - 12), 500, (-500)])] [.ptr 1000 0, .sl false 1 8 ((eInt).f [0, 1, (-1), 2, (-4), w64 (v6.1 - 12), 500, (-500)])] from ⟨wkSameU _, wkShareU (L := [0, 1, (-1), 2, (-4), w64 (v6.1 - 12), 500, (-500)]) eInt eInt sInt, trivial⟩) (Tspec_l1Int (Y := Y) v6.2 [0, 1, (-1), 2, (-4), w64 (v6.1 - 12), 500, (-500)] _ hv7)) (ocons (len_row (L := [0, 1, (-1), 2, (-4), w64 (v6.1 - 12), 500, (-500)]) eInt) (ocons (Tspec_Primitive (Y := Y) n t3 t4 t5 v7.1 _ hv8) onil)))) h (by kernel_rfl) (fun h => ?_) (fun h => ?_)
  · replace h := Option.some.inj h; subst h
    exact x_end 5 [] [] onil onil (by kernel_rfl)
  · replace h := Option.some.inj h; subst h
    exact x_end 6 [] [] onil onil (by kernel_rfl)
def Dspec_l3Draw (n : Nat) (a0 : ((List Int) × Int × Int)) : Option (Pl × ((List Int) × Int × Int)) :=
  (Dspec_l3Coef a0).bind fun v0 => (Dspec_l3Coef v0.2).bind fun v1 => (Dspec_l3Coef v1.2).bind fun v2 => (Dspec_l1Once v2.2 2).bind fun v3 => frk v3.1 ((Dspec_l1Int v3.2 [1, (-1)]).bind fun v4 => (Dspec_l1Once v4.2 2).bind fun v5 => frk v5.1 (Dspec_l3Draw_0 n 0 v4.1 0 0 0 0 0 v5.2.1 v5.2.2.1 v5.2.2.2) ((Dspec_l1Once v5.2 2).bind fun v9 => frk v9.1 (Dspec_l3Draw_0 n 0 0 v4.1 0 0 0 0 v9.2.1 v9.2.2.1 v9.2.2.2) (Dspec_l3Draw_0 n v4.1 0 0 0 0 0 0 v9.2.1 v9.2.2.1 v9.2.2.2))) (Dspec_l3Draw_0 n v0.1 v1.1 v2.1 0 0 0 0 v3.2.1 v3.2.2.1 v3.2.2.2)
theorem Tspec_l3Draw {Y} (n : Nat) (a0 : ((List Int) × Int × Int)) (r : (Pl × ((List Int) × Int × Int))) (h : Dspec_l3Draw n a0 = some r) : Big Tryz.prog H Y (.call 94 [.ptr 1000 0] (lk [(1000, ⟨true, 0, [.sl false 1 a0.1.length ((eU8).f a0.1), i64 a0.2.1, i64 a0.2.2]⟩)]) (.agg [i64 r.1.A, i64 r.1.B, i64 r.1.C, i64 r.1.D]) (lk [(1000, ⟨true, 0, [.sl false 1 r.2.1.length ((eU8).f r.2.1), i64 r.2.2.1, i64 r.2.2.2]⟩)])) := by
  unfold Dspec_l3Draw at h
  refine x_call (fn := Tryz.f94) (c := bodyOf Tryz.f94) (bs0 := [(1000, ⟨true, 0, [.bad, .bad, .bad]⟩)]) Tryz.func94 (by kernel_rfl) (by kernel_rfl) ?_
  obtain ⟨v0, hv0, h⟩ := bind_some h
  obtain ⟨v1, hv1, h⟩ := bind_some h
  obtain ⟨v2, hv2, h⟩ := bind_some h
  obtain ⟨v3, hv3, h⟩ := bind_some h
  refine x_frk 28 [(2, .call [] [] (i64 v0.1) [(1000, ⟨true, 0, [.sl false 1 v0.2.1.length ((eU8).f v0.2.1), i64 v0.2.2.1, i64 v0.2.2.2]⟩)]), (2, .call [] [] (i64 v1.1) [(1000, ⟨true, 0, [.sl false 1 v1.2.1.length ((eU8).f v1.2.1), i64 v1.2.2.1, i64 v1.2.2.2]⟩)]), (2, .call [] [] (i64 v2.1) [(1000, ⟨true, 0, [.sl false 1 v2.2.1.length ((eU8).f v2.2.1), i64 v2.2.2.1, i64 v2.2.2.2]⟩)]), (2, .call [] [] (bl v3.1) [(1000, ⟨true, 0, [.sl false 1 v3.2.1.length ((eU8).f v3.2.1), i64 v3.2.2.1, i64 v3.2.2.2]⟩)])] (ocons (Tspec_l3Coef (Y := Y) a0 _ hv0) (ocons (Tspec_l3Coef (Y := Y) v0.2 _ hv1) (ocons (Tspec_l3Coef (Y := Y) v1.2 _ hv2) (ocons (Tspec_l1Once (Y := Y) v2.2 2 _ hv3) onil)))) h (by kernel_rfl) (fun h => ?_) (fun h => ?_)
  · obtain ⟨v4, hv4, h⟩ := bind_some h
    obtain ⟨v5, hv5, h⟩ := bind_some h
    refine x_frk 20 [(2, .call [] [] (i64 v4.1) [(1000, ⟨true, 0, [.sl false 1 v4.2.1.length ((eU8).f v4.2.1), i64 v4.2.2.1, i64 v4.2.2.2]⟩)]), (4, .call [] [] (bl v5.1) [(1000, ⟨true, 0, [.sl false 1 v5.2.1.length ((eU8).f v5.2.1), i64 v5.2.2.1, i64 v5.2.2.2]⟩)])] (ocons (Big.wka (show WkT [.ptr 1000 0, .sl true 1 2 ((eInt).f [1, (-1)])] [.ptr 1000 0, .sl false 1 2 ((eInt).f [1, (-1)])] from ⟨wkSameU _, wkShareU (L := [1, (-1)]) eInt eInt sInt, trivial⟩) (Tspec_l1Int (Y := Y) v3.2 [1, (-1)] _ hv4)) (ocons (len_row (L := [1, (-1)]) eInt) (ocons (Tspec_l1Once (Y := Y) v4.2 2 _ hv5) onil))) h (by kernel_rfl) (fun h => ?_) (fun h => ?_)
    · exact x_to 9 [] onil (Tspec_l3Draw_0 n 0 v4.1 0 0 0 0 0 v5.2.1 v5.2.2.1 v5.2.2.2 r h) (by kernel_rfl)
    · obtain ⟨v9, hv9, h⟩ := bind_some h
      refine x_frk 5 [(1, .call [] [] (bl v9.1) [(1000, ⟨true, 0, [.sl false 1 v9.2.1.length ((eU8).f v9.2.1), i64 v9.2.2.1, i64 v9.2.2.2]⟩)])] (ocons (Tspec_l1Once (Y := Y) v5.2 2 _ hv9) onil) h (by kernel_rfl) (fun h => ?_) (fun h => ?_)
      · exact x_to 9 [] onil (Tspec_l3Draw_0 n 0 0 v4.1 0 0 0 0 v9.2.1 v9.2.2.1 v9.2.2.2 r h) (by kernel_rfl)
      · exact x_to 2 [] onil (Tspec_l3Draw_0 n v4.1 0 0 0 0 0 0 v9.2.1 v9.2.2.1 v9.2.2.2 r h) (by kernel_rfl)
  · exact x_to 2 [] onil (Tspec_l3Draw_0 n v0.1 v1.1 v2.1 0 0 0 0 v3.2.1 v3.2.2.1 v3.2.2.2 r h) (by kernel_rfl)
/-! spec.l4Cross -/
def Dspec_l4Cross (a0 : Pl) (a1 : Pl) : Option (Int × Int × Int) :=
  some (w64 ((w64 (a0.B * a1.C)) - (w64 (a0.C * a1.B))), w64 ((w64 (a0.C * a1.A)) - (w64 (a0.A * a1.C))), w64 ((w64 (a0.A * a1.B)) - (w64 (a0.B * a1.A))))
theorem Tspec_l4Cross {Y} (a0 : Pl) (a1 : Pl) (r : (Int × Int × Int)) (h : Dspec_l4Cross a0 a1 = some r) : Big Tryz.prog H Y (.call 159 [.agg [i64 a0.A, i64 a0.B, i64 a0.C, i64 a0.D], .agg [i64 a1.A, i64 a1.B, i64 a1.C, i64 a1.D]] (lk []) (.agg [i64 r.1, i64 r.2.1, i64 r.2.2]) (lk [])) := by
  unfold Dspec_l4Cross at h
  refine x_call (fn := Tryz.f159) (c := bodyOf Tryz.f159) (bs0 := []) Tryz.func159 (by kernel_rfl) (by kernel_rfl) ?_
  replace h := Option.some.inj h; subst h
  exact x_end 44 [] [] onil onil (by kernel_rfl)
/-! spec.l3Sign -/
def Dspec_l3Sign (a0 : Int) : Option Int :=
  frk (decide (a0 > 0)) (some 1) (frk (decide (a0 < 0)) (some (-1)) (some 0))
theorem Tspec_l3Sign {Y} (a0 r : Int) (h : Dspec_l3Sign a0 = some r) : Big Tryz.prog H Y (.call 156 [i64 a0] (lk []) (i64 r) (lk [])) := by
  unfold Dspec_l3Sign at h
  refine x_call (fn := Tryz.f156) (c := bodyOf Tryz.f156) (bs0 := []) Tryz.func156 (by kernel_rfl) (by kernel_rfl) ?_
  refine x_frk 12 [] onil h (by kernel_rfl) (fun h => ?_) (fun h => ?_)
  · replace h := Option.some.inj h; subst h
    exact x_end 4 [] [] onil onil (by kernel_rfl)
  · refine x_frk 6 [] onil h (by kernel_rfl) (fun h => ?_) (fun h => ?_)
    · replace h := Option.some.inj h; subst h
      exact x_end 4 [] [] onil onil (by kernel_rfl)
    · replace h := Option.some.inj h; subst h
      exact x_end 6 [] [] onil onil (by kernel_rfl)
/-! spec.l4Parallel -/
def Dspec_l4Parallel (a0 : Pl) (a1 : Pl) : Option Int :=
  (Dspec_l4Cross a0 a1).bind fun v0 => frk (!(v0.1 == 0 && (v0.2.1 == 0 && (v0.2.2 == 0 && true)))) (some 0) ((Dspec_l3Sign (w64 ((w64 ((w64 (a0.A * a1.A)) + (w64 (a0.B * a1.B)))) + (w64 (a0.C * a1.C))))).bind fun v1 => some v1)
theorem Tspec_l4Parallel {Y} (a0 : Pl) (a1 : Pl) (r : Int) (h : Dspec_l4Parallel a0 a1 = some r) : Big Tryz.prog H Y (.call 158 [.agg [i64 a0.A, i64 a0.B, i64 a0.C, i64 a0.D], .agg [i64 a1.A, i64 a1.B, i64 a1.C, i64 a1.D]] (lk []) (i64 r) (lk [])) := by
  unfold Dspec_l4Parallel at h
  refine x_call (fn := Tryz.f158) (c := bodyOf Tryz.f158) (bs0 := []) Tryz.func158 (by kernel_rfl) (by kernel_rfl) ?_
  obtain ⟨v0, hv0, h⟩ := bind_some h
  refine x_frk 15 [(5, .call [] [] (.agg [i64 v0.1, i64 v0.2.1, i64 v0.2.2]) [])] (ocons (Tspec_l4Cross (Y := Y) a0 a1 _ hv0) onil) h (by kernel_rfl) (fun h => ?_) (fun h => ?_)
  · replace h := Option.some.inj h; subst h
    exact x_end 4 [] [] onil onil (by kernel_rfl)
  · obtain ⟨v1, hv1, h⟩ := bind_some h
    replace h := Option.some.inj h; subst h
    exact x_end 23 [(17, .call [] [] (i64 v1) [])] [] (ocons (Tspec_l3Sign (Y := Y) (w64 ((w64 ((w64 (a0.A * a1.A)) + (w64 (a0.B * a1.B)))) + (w64 (a0.C * a1.C)))) _ hv1) onil) onil (by kernel_rfl)
/-! spec.l3Abs -/
def Dspec_l3Abs (a0 : Int) : Option Int :=
  frk (decide (a0 < 0)) (some (w64 (0 - a0))) (some a0)
theorem Tspec_l3Abs {Y} (a0 r : Int) (h : Dspec_l3Abs a0 = some r) : Big Tryz.prog H Y (.call 157 [i64 a0] (lk []) (i64 r) (lk [])) := by
  unfold Dspec_l3Abs at h
  refine x_call (fn := Tryz.f157) (c := bodyOf Tryz.f157) (bs0 := []) Tryz.func157 (by kernel_rfl) (by kernel_rfl) ?_
  refine x_frk 10 [] onil h (by kernel_rfl) (fun h => ?_) (fun h => ?_)
  · replace h := Option.some.inj h; subst h
    exact x_end 6 [] [] onil onil (by kernel_rfl)
  · replace h := Option.some.inj h; subst h
    exact x_end 6 [] [] onil onil (by kernel_rfl)
/-! spec.l6Clash2 -/
def Dspec_l6Clash2 (a0 : Pl) (a1 : Pl) : Option Bool :=
  (Dspec_l4Parallel a0 a1).bind fun v0 => frk (decide (v0 ≥ 0)) (some false) ((Dspec_l3Abs a1.A).bind fun v1 => (Dspec_l3Abs a1.B).bind fun v2 => (Dspec_l3Abs a1.C).bind fun v3 => (Dspec_l3Abs a0.A).bind fun v4 => (Dspec_l3Abs a0.B).bind fun v5 => (Dspec_l3Abs a0.C).bind fun v6 => some (decide ((w64 ((w64 ((w64 ((w64 (v1 + v2)) + v3)) * a0.D)) + (w64 ((w64 ((w64 (v4 + v5)) + v6)) * a1.D)))) ≤ 0)))
theorem Tspec_l6Clash2 {Y} (a0 : Pl) (a1 : Pl) (r : Bool) (h : Dspec_l6Clash2 a0 a1 = some r) : Big Tryz.prog H Y (.call 134 [.agg [i64 a0.A, i64 a0.B, i64 a0.C, i64 a0.D], .agg [i64 a1.A, i64 a1.B, i64 a1.C, i64 a1.D]] (lk []) (bl r) (lk [])) := by
  unfold Dspec_l6Clash2 at h
  refine x_call (fn := Tryz.f134) (c := bodyOf Tryz.f134) (bs0 := []) Tryz.func134 (by kernel_rfl) (by kernel_rfl) ?_
  obtain ⟨v0, hv0, h⟩ := bind_some h
  refine x_frk 14 [(5, .call [] [] (i64 v0) [])] (ocons (Tspec_l4Parallel (Y := Y) a0 a1 _ hv0) onil) h (by kernel_rfl) (fun h => ?_) (fun h => ?_)
  · replace h := Option.some.inj h; subst h
    exact x_end 4 [] [] onil onil (by kernel_rfl)
  · obtain ⟨v1, hv1, h⟩ := bind_some h
    obtain ⟨v2, hv2, h⟩ := bind_some h
    obtain ⟨v3, hv3, h⟩ := bind_some h
    obtain ⟨v4, hv4, h⟩ := bind_some h
    obtain ⟨v5, hv5, h⟩ := bind_some h
    obtain ⟨v6, hv6, h⟩ := bind_some h
    replace h := Option.some.inj h; subst h
    exact x_end 45 [(2, .call [] [] (i64 v1) []), (2, .call [] [] (i64 v2) []), (3, .call [] [] (i64 v3) []), (4, .call [] [] (i64 v4) []), (2, .call [] [] (i64 v5) []), (3, .call [] [] (i64 v6) [])] [] (ocons (Tspec_l3Abs (Y := Y) a1.A _ hv1) (ocons (Tspec_l3Abs (Y := Y) a1.B _ hv2) (ocons (Tspec_l3Abs (Y := Y) a1.C _ hv3) (ocons (Tspec_l3Abs (Y := Y) a0.A _ hv4) (ocons (Tspec_l3Abs (Y := Y) a0.B _ hv5) (ocons (Tspec_l3Abs (Y := Y) a0.C _ hv6) onil)))))) onil (by kernel_rfl)
/-! spec.l4Det3 -/
def Dspec_l4Det3 (a0 : Pl) (a1 : Pl) (a2 : Pl) : Option Int :=
  (Dspec_l4Cross a1 a2).bind fun v0 => some (w64 ((w64 ((w64 (a0.A * v0.1)) + (w64 (a0.B * v0.2.1)))) + (w64 (a0.C * v0.2.2))))
theorem Tspec_l4Det3 {Y} (a0 : Pl) (a1 : Pl) (a2 : Pl) (r : Int) (h : Dspec_l4Det3 a0 a1 a2 = some r) : Big Tryz.prog H Y (.call 140 [.agg [i64 a0.A, i64 a0.B, i64 a0.C, i64 a0.D], .agg [i64 a1.A, i64 a1.B, i64 a1.C, i64 a1.D], .agg [i64 a2.A, i64 a2.B, i64 a2.C, i64 a2.D]] (lk []) (i64 r) (lk [])) := by
  unfold Dspec_l4Det3 at h
  refine x_call (fn := Tryz.f140) (c := bodyOf Tryz.f140) (bs0 := []) Tryz.func140 (by kernel_rfl) (by kernel_rfl) ?_
  obtain ⟨v0, hv0, h⟩ := bind_some h
  replace h := Option.some.inj h; subst h
  exact x_end 36 [(6, .call [] [] (.agg [i64 v0.1, i64 v0.2.1, i64 v0.2.2]) [])] [] (ocons (Tspec_l4Cross (Y := Y) a1 a2 _ hv0) onil) onil (by kernel_rfl)
/-! spec.l6Sum -/
def Dspec_l6Sum_1 (_n : Nat) (rec0 : (Bool × Bool × Int × Int) → Option Bool) (t0 : List Int) (t1 : List Int) (t5 t6 : Bool) (t7 t8 : Int) : Option Bool :=
  (lget t0 t8).bind fun v2 => (Dspec_l3Abs v2).bind fun v3 => (lget t1 t8).bind fun v4 => rec0 (t5, t6, w64 (t7 + (w64 (v3 * v4))), w64 (t8 + 1))
theorem Tspec_l6Sum_1 {Y} (n : Nat) (rec0 : (Bool × Bool × Int × Int) → Option Bool) (t0 : List Int) (t1 : List Int) (hrec0 : ∀ (a : (Bool × Bool × Int × Int)) (r : Bool), rec0 a = some r → Wk Tryz.prog H Y 160 [.code (cp [1, 1, 1, 1, 0, 1, 0] (bodyOf Tryz.f160)), .blk 0, .code (cp [1, 1, 1, 1, 1] (bodyOf Tryz.f160))] (FinX Tryz.prog Tryz.f160 [] (bl r) []) ⟨[(0, .sl false 1 t0.length ((eInt).f t0)), (1, .sl false 1 t1.length ((eInt).f t1)), (5, bl a.1), (6, bl a.2.1), (7, i64 a.2.2.1), (8, i64 a.2.2.2)], []⟩) (t5 t6 : Bool) (t7 t8 : Int) (r : Bool) (h : Dspec_l6Sum_1 n rec0 t0 t1 t5 t6 t7 t8 = some r) : Wk Tryz.prog H Y 160 [.code (cp [1, 1, 1, 1, 0, 1, 0, 0, 1, 0, 0, 1, 1] (bodyOf Tryz.f160)), .blk 1, .code (cp [1, 1, 1, 1, 0, 1, 0, 0, 1, 1] (bodyOf Tryz.f160)), .lp (cp [1, 1, 1, 1, 0, 1, 0] (bodyOf Tryz.f160)), .blk 0, .code (cp [1, 1, 1, 1, 1] (bodyOf Tryz.f160))] (FinX Tryz.prog Tryz.f160 [] (bl r) []) ⟨[(0, .sl false 1 t0.length ((eInt).f t0)), (1, .sl false 1 t1.length ((eInt).f t1)), (5, bl t5), (6, bl t6), (7, i64 t7), (8, i64 t8)], []⟩ := by
  unfold Dspec_l6Sum_1 at h
  obtain ⟨v2, hv2, h⟩ := bind_some h
  obtain ⟨v3, hv3, h⟩ := bind_some h
  obtain ⟨v4, hv4, h⟩ := bind_some h
  exact x_to 22 [(3, .val (.cptr (eInt.c v2 ++ (eInt).f ((t0).drop (Int.toNat t8 + 1))))), (1, .call [] [] (i64 v3) []), (2, .val (.cptr (eInt.c v4 ++ (eInt).f ((t1).drop (Int.toNat t8 + 1)))))] (ocons (ix eInt hv2) (ocons (Tspec_l3Abs (Y := Y) v2 _ hv3) (ocons (ix eInt hv4) onil))) (hrec0 (t5, t6, w64 (t7 + (w64 (v3 * v4))), w64 (t8 + 1)) r h) (by kernel_rfl)
def Dspec_l6Sum_0 (n : Nat) (rec0 : (Bool × Bool × Int × Int) → Option Bool) (t0 : List Int) (t1 : List Int) (t5 t6 : Bool) (t7 t8 : Int) : Option Bool :=
  frk t6 ((lget t0 t8).bind fun v1 => Dspec_l6Sum_1 n rec0 t0 t1 t5 (decide (v1 < 0)) t7 t8) (Dspec_l6Sum_1 n rec0 t0 t1 t5 false t7 t8)
theorem Tspec_l6Sum_0 {Y} (n : Nat) (rec0 : (Bool × Bool × Int × Int) → Option Bool) (t0 : List Int) (t1 : List Int) (hrec0 : ∀ (a : (Bool × Bool × Int × Int)) (r : Bool), rec0 a = some r → Wk Tryz.prog H Y 160 [.code (cp [1, 1, 1, 1, 0, 1, 0] (bodyOf Tryz.f160)), .blk 0, .code (cp [1, 1, 1, 1, 1] (bodyOf Tryz.f160))] (FinX Tryz.prog Tryz.f160 [] (bl r) []) ⟨[(0, .sl false 1 t0.length ((eInt).f t0)), (1, .sl false 1 t1.length ((eInt).f t1)), (5, bl a.1), (6, bl a.2.1), (7, i64 a.2.2.1), (8, i64 a.2.2.2)], []⟩) (t5 t6 : Bool) (t7 t8 : Int) (r : Bool) (h : Dspec_l6Sum_0 n rec0 t0 t1 t5 t6 t7 t8 = some r) : Wk Tryz.prog H Y 160 [.code (cp [1, 1, 1, 1, 0, 1, 0, 0, 1, 0, 0, 1, 0] (bodyOf Tryz.f160)), .code (cp [1, 1, 1, 1, 0, 1, 0, 0, 1, 0, 0, 1, 1] (bodyOf Tryz.f160)), .blk 1, .code (cp [1, 1, 1, 1, 0, 1, 0, 0, 1, 1] (bodyOf Tryz.f160)), .lp (cp [1, 1, 1, 1, 0, 1, 0] (bodyOf Tryz.f160)), .blk 0, .code (cp [1, 1, 1, 1, 1] (bodyOf Tryz.f160))] (FinX Tryz.prog Tryz.f160 [] (bl r) []) ⟨[(0, .sl false 1 t0.length ((eInt).f t0)), (1, .sl false 1 t1.length ((eInt).f t1)), (5, bl t5), (6, bl t6), (7, i64 t7), (8, i64 t8)], []⟩ := by
  unfold Dspec_l6Sum_0 at h
  refine x_frk 3 [] onil h (by kernel_rfl) (fun h => ?_) (fun h => ?_)
  · obtain ⟨v1, hv1, h⟩ := bind_some h
    exact x_to 8 [(2, .val (.cptr (eInt.c v1 ++ (eInt).f ((t0).drop (Int.toNat t8 + 1)))))] (ocons (ix eInt hv1) onil) (Tspec_l6Sum_1 n rec0 t0 t1 hrec0 t5 (decide (v1 < 0)) t7 t8 r h) (by kernel_rfl)
  · exact x_to 8 [] onil (Tspec_l6Sum_1 n rec0 t0 t1 hrec0 t5 false t7 t8 r h) (by kernel_rfl)
def Dspec_l6Sum_2 (_n : Nat) (t5 t6 : Bool) (t7 : Int) : Option Bool :=
  frk t5 (some (decide (t7 ≤ 0))) (frk t6 (some (decide (t7 ≤ 0))) (some false))
theorem Tspec_l6Sum_2 {Y} (n : Nat) (t5 t6 : Bool) (t7 : Int) (r : Bool) (h : Dspec_l6Sum_2 n t5 t6 t7 = some r) : Wk Tryz.prog H Y 160 [.code (cp [1, 1, 1, 1, 1, 0] (bodyOf Tryz.f160)), .code (cp [1, 1, 1, 1, 1, 1] (bodyOf Tryz.f160))] (FinX Tryz.prog Tryz.f160 [] (bl r) []) ⟨[(5, bl t5), (6, bl t6), (7, i64 t7)], []⟩ := by
  unfold Dspec_l6Sum_2 at h
  refine x_frk 3 [] onil h (by kernel_rfl) (fun h => ?_) (fun h => ?_)
  · replace h := Option.some.inj h; subst h
    exact x_end 8 [] [] onil onil (by kernel_rfl)
  · refine x_frk 3 [] onil h (by kernel_rfl) (fun h => ?_) (fun h => ?_)
    · replace h := Option.some.inj h; subst h
      exact x_end 5 [] [] onil onil (by kernel_rfl)
    · replace h := Option.some.inj h; subst h
      exact x_end 5 [] [] onil onil (by kernel_rfl)
def Dspec_l6Sum_3 (n : Nat) (t0 : List Int) (t1 : List Int) (rec0 : (Bool × Bool × Int × Int) → Option Bool) (a : (Bool × Bool × Int × Int)) : Option Bool :=
  match a with
  | (t5, t6, t7, t8) => frk (decide (t8 < (t0.length : Int))) (frk t5 ((lget t0 t8).bind fun v0 => Dspec_l6Sum_0 n rec0 t0 t1 (decide (v0 > 0)) t6 t7 t8) (Dspec_l6Sum_0 n rec0 t0 t1 false t6 t7 t8)) (Dspec_l6Sum_2 n t5 t6 t7)
theorem Tspec_l6Sum_3 {Y} (n : Nat) (t0 : List Int) (t1 : List Int) : ∀ (m : Nat) (a : (Bool × Bool × Int × Int)) (r : Bool), loopN (Dspec_l6Sum_3 n t0 t1) m a = some r → Wk Tryz.prog H Y 160 [.code (cp [1, 1, 1, 1, 0, 1, 0] (bodyOf Tryz.f160)), .blk 0, .code (cp [1, 1, 1, 1, 1] (bodyOf Tryz.f160))] (FinX Tryz.prog Tryz.f160 [] (bl r) []) ⟨[(0, .sl false 1 t0.length ((eInt).f t0)), (1, .sl false 1 t1.length ((eInt).f t1)), (5, bl a.1), (6, bl a.2.1), (7, i64 a.2.2.1), (8, i64 a.2.2.2)], []⟩ := by
  refine loopN_ind (fun rec0 hrec0 a r h => ?_)
  obtain ⟨t5, t6, t7, t8⟩ := a
  unfold Dspec_l6Sum_3 at h
  refine x_frk 9 [] onil h (by kernel_rfl) (fun h => ?_) (fun h => ?_)
  · refine x_frk 7 [] onil h (by kernel_rfl) (fun h => ?_) (fun h => ?_)
    · obtain ⟨v0, hv0, h⟩ := bind_some h
      exact x_to 9 [(2, .val (.cptr (eInt.c v0 ++ (eInt).f ((t0).drop (Int.toNat t8 + 1)))))] (ocons (ix eInt hv0) onil) (Tspec_l6Sum_0 n rec0 t0 t1 hrec0 (decide (v0 > 0)) t6 t7 t8 r h) (by kernel_rfl)
    · exact x_to 9 [] onil (Tspec_l6Sum_0 n rec0 t0 t1 hrec0 false t6 t7 t8 r h) (by kernel_rfl)
  · exact x_to 2 [] onil (Tspec_l6Sum_2 n t5 t6 t7 r h) (by kernel_rfl)
def Dspec_l6Sum (n : Nat) (a0 : (List Int)) (a1 : (List Int)) : Option Bool :=
  loopN (Dspec_l6Sum_3 n a0 a1) n (true, true, 0, 0)
theorem Tspec_l6Sum {Y} (n : Nat) (a0 : (List Int)) (a1 : (List Int)) (r : Bool) (h : Dspec_l6Sum n a0 a1 = some r) : Big Tryz.prog H Y (.call 160 [.sl false 1 a0.length ((eInt).f a0), .sl false 1 a1.length ((eInt).f a1)] (lk []) (bl r) (lk [])) := by
  unfold Dspec_l6Sum at h
  refine x_call (fn := Tryz.f160) (c := bodyOf Tryz.f160) (bs0 := []) Tryz.func160 (by kernel_rfl) (by kernel_rfl) ?_
  exact x_to 22 [] onil (Tspec_l6Sum_3 n a0 a1 n (true, true, 0, 0) r h) (by kernel_rfl)
/-! spec.l6Clash3 -/
def Dspec_l6Clash3_0 (n : Nat) (_b3_0 _b3_1 _b3_2 b3_3 _b4_0 _b4_1 _b4_2 b4_3 _b5_0 _b5_1 _b5_2 b5_3 b7_0 _b7_1 _b7_2 b8_0 _b8_1 _b8_2 b9_0 _b9_1 _b9_2 : Int) : Option Bool :=
  (Dspec_l6Sum n [b7_0, b8_0, b9_0] [b3_3, b4_3, b5_3]).bind fun v4 => some v4
theorem Tspec_l6Clash3_0 {Y} (n : Nat) (b3_0 b3_1 b3_2 b3_3 b4_0 b4_1 b4_2 b4_3 b5_0 b5_1 b5_2 b5_3 b7_0 b7_1 b7_2 b8_0 b8_1 b8_2 b9_0 b9_1 b9_2 : Int) (r : Bool) (h : Dspec_l6Clash3_0 n b3_0 b3_1 b3_2 b3_3 b4_0 b4_1 b4_2 b4_3 b5_0 b5_1 b5_2 b5_3 b7_0 b7_1 b7_2 b8_0 b8_1 b8_2 b9_0 b9_1 b9_2 = some r) : Wk Tryz.prog H Y 135 [.code (cp [1, 1, 1, 1, 1, 0, 1, 0, 0, 1, 0, 0, 1, 0, 0] (bodyOf Tryz.f135)), .code (cp [1, 1, 1, 1, 1, 0, 1, 0, 0, 1, 0, 0, 1, 0, 1] (bodyOf Tryz.f135)), .blk 1, .code (cp [1, 1, 1, 1, 1, 0, 1, 0, 0, 1, 1] (bodyOf Tryz.f135)), .lp (cp [1, 1, 1, 1, 1, 0, 1, 0] (bodyOf Tryz.f135)), .blk 0, .code (cp [1, 1, 1, 1, 1, 1] (bodyOf Tryz.f135))] (FinX Tryz.prog Tryz.f135 [] (bl r) []) ⟨[(3, .ptr 3 0), (4, .ptr 4 0), (5, .ptr 5 0), (7, .ptr 7 0), (8, .ptr 8 0), (9, .ptr 9 0), (10, i64 0)], [(3, ⟨true, 0, [i64 b3_0, i64 b3_1, i64 b3_2, i64 b3_3]⟩), (4, ⟨true, 0, [i64 b4_0, i64 b4_1, i64 b4_2, i64 b4_3]⟩), (5, ⟨true, 0, [i64 b5_0, i64 b5_1, i64 b5_2, i64 b5_3]⟩), (7, ⟨true, 0, [i64 b7_0, i64 b7_1, i64 b7_2]⟩), (8, ⟨true, 0, [i64 b8_0, i64 b8_1, i64 b8_2]⟩), (9, ⟨true, 0, [i64 b9_0, i64 b9_1, i64 b9_2]⟩)]⟩ := by
  unfold Dspec_l6Clash3_0 at h
  obtain ⟨v4, hv4, h⟩ := bind_some h
  replace h := Option.some.inj h; subst h
  exact x_end 21 [(17, .call [] [(eInt).f [b3_3, b4_3, b5_3], (eInt).f [b7_0, b8_0, b9_0]] (bl v4) [])] [] (ocons (Tspec_l6Sum (Y := Y) n [b7_0, b8_0, b9_0] [b3_3, b4_3, b5_3] _ hv4) (ocons (len_row (L := [b7_0, b8_0, b9_0]) eInt) (ocons (Enc.share eInt eInt sInt [b7_0, b8_0, b9_0]) (ocons (len_row (L := [b3_3, b4_3, b5_3]) eInt) (ocons (Enc.share eInt eInt sInt [b3_3, b4_3, b5_3]) onil))))) onil (by kernel_rfl)
def Dspec_l6Clash3_2 (n : Nat) (_b3_0 _b3_1 _b3_2 b3_3 _b4_0 _b4_1 _b4_2 b4_3 _b5_0 _b5_1 _b5_2 b5_3 _b7_0 b7_1 _b7_2 _b8_0 b8_1 _b8_2 _b9_0 b9_1 _b9_2 : Int) : Option Bool :=
  (Dspec_l6Sum n [b7_1, b8_1, b9_1] [b3_3, b4_3, b5_3]).bind fun v6 => some v6
theorem Tspec_l6Clash3_2 {Y} (n : Nat) (b3_0 b3_1 b3_2 b3_3 b4_0 b4_1 b4_2 b4_3 b5_0 b5_1 b5_2 b5_3 b7_0 b7_1 b7_2 b8_0 b8_1 b8_2 b9_0 b9_1 b9_2 : Int) (r : Bool) (h : Dspec_l6Clash3_2 n b3_0 b3_1 b3_2 b3_3 b4_0 b4_1 b4_2 b4_3 b5_0 b5_1 b5_2 b5_3 b7_0 b7_1 b7_2 b8_0 b8_1 b8_2 b9_0 b9_1 b9_2 = some r) : Wk Tryz.prog H Y 135 [.code (cp [1, 1, 1, 1, 1, 0, 1, 0, 0, 1, 0, 0, 1, 0, 0] (bodyOf Tryz.f135)), .code (cp [1, 1, 1, 1, 1, 0, 1, 0, 0, 1, 0, 0, 1, 0, 1] (bodyOf Tryz.f135)), .blk 1, .code (cp [1, 1, 1, 1, 1, 0, 1, 0, 0, 1, 1] (bodyOf Tryz.f135)), .lp (cp [1, 1, 1, 1, 1, 0, 1, 0] (bodyOf Tryz.f135)), .blk 0, .code (cp [1, 1, 1, 1, 1, 1] (bodyOf Tryz.f135))] (FinX Tryz.prog Tryz.f135 [] (bl r) []) ⟨[(3, .ptr 3 0), (4, .ptr 4 0), (5, .ptr 5 0), (7, .ptr 7 0), (8, .ptr 8 0), (9, .ptr 9 0), (10, i64 1)], [(3, ⟨true, 0, [i64 b3_0, i64 b3_1, i64 b3_2, i64 b3_3]⟩), (4, ⟨true, 0, [i64 b4_0, i64 b4_1, i64 b4_2, i64 b4_3]⟩), (5, ⟨true, 0, [i64 b5_0, i64 b5_1, i64 b5_2, i64 b5_3]⟩), (7, ⟨true, 0, [i64 b7_0, i64 b7_1, i64 b7_2]⟩), (8, ⟨true, 0, [i64 b8_0, i64 b8_1, i64 b8_2]⟩), (9, ⟨true, 0, [i64 b9_0, i64 b9_1, i64 b9_2]⟩)]⟩ := by
  unfold Dspec_l6Clash3_2 at h
  obtain ⟨v6, hv6, h⟩ := bind_some h
  replace h := Option.some.inj h; subst h
  exact x_end 21 [(17, .call [] [(eInt).f [b3_3, b4_3, b5_3], (eInt).f [b7_1, b8_1, b9_1]] (bl v6) [])] [] (ocons (Tspec_l6Sum (Y := Y) n [b7_1, b8_1, b9_1] [b3_3, b4_3, b5_3] _ hv6) (ocons (len_row (L := [b7_1, b8_1, b9_1]) eInt) (ocons (Enc.share eInt eInt sInt [b7_1, b8_1, b9_1]) (ocons (len_row (L := [b3_3, b4_3, b5_3]) eInt) (ocons (Enc.share eInt eInt sInt [b3_3, b4_3, b5_3]) onil))))) onil (by kernel_rfl)
def Dspec_l6Clash3_4 (n : Nat) (_b3_0 _b3_1 _b3_2 b3_3 _b4_0 _b4_1 _b4_2 b4_3 _b5_0 _b5_1 _b5_2 b5_3 _b7_0 _b7_1 b7_2 _b8_0 _b8_1 b8_2 _b9_0 _b9_1 b9_2 : Int) : Option Bool :=
  (Dspec_l6Sum n [b7_2, b8_2, b9_2] [b3_3, b4_3, b5_3]).bind fun v8 => some v8
theorem Tspec_l6Clash3_4 {Y} (n : Nat) (b3_0 b3_1 b3_2 b3_3 b4_0 b4_1 b4_2 b4_3 b5_0 b5_1 b5_2 b5_3 b7_0 b7_1 b7_2 b8_0 b8_1 b8_2 b9_0 b9_1 b9_2 : Int) (r : Bool) (h : Dspec_l6Clash3_4 n b3_0 b3_1 b3_2 b3_3 b4_0 b4_1 b4_2 b4_3 b5_0 b5_1 b5_2 b5_3 b7_0 b7_1 b7_2 b8_0 b8_1 b8_2 b9_0 b9_1 b9_2 = some r) : Wk Tryz.prog H Y 135 [.code (cp [1, 1, 1, 1, 1, 0, 1, 0, 0, 1, 0, 0, 1, 0, 0] (bodyOf Tryz.f135)), .code (cp [1, 1, 1, 1, 1, 0, 1, 0, 0, 1, 0, 0, 1, 0, 1] (bodyOf Tryz.f135)), .blk 1, .code (cp [1, 1, 1, 1, 1, 0, 1, 0, 0, 1, 1] (bodyOf Tryz.f135)), .lp (cp [1, 1, 1, 1, 1, 0, 1, 0] (bodyOf Tryz.f135)), .blk 0, .code (cp [1, 1, 1, 1, 1, 1] (bodyOf Tryz.f135))] (FinX Tryz.prog Tryz.f135 [] (bl r) []) ⟨[(3, .ptr 3 0), (4, .ptr 4 0), (5, .ptr 5 0), (7, .ptr 7 0), (8, .ptr 8 0), (9, .ptr 9 0), (10, i64 2)], [(3, ⟨true, 0, [i64 b3_0, i64 b3_1, i64 b3_2, i64 b3_3]⟩), (4, ⟨true, 0, [i64 b4_0, i64 b4_1, i64 b4_2, i64 b4_3]⟩), (5, ⟨true, 0, [i64 b5_0, i64 b5_1, i64 b5_2, i64 b5_3]⟩), (7, ⟨true, 0, [i64 b7_0, i64 b7_1, i64 b7_2]⟩), (8, ⟨true, 0, [i64 b8_0, i64 b8_1, i64 b8_2]⟩), (9, ⟨true, 0, [i64 b9_0, i64 b9_1, i64 b9_2]⟩)]⟩ := by
  unfold Dspec_l6Clash3_4 at h
  obtain ⟨v8, hv8, h⟩ := bind_some h
  replace h := Option.some.inj h; subst h
  exact x_end 21 [(17, .call [] [(eInt).f [b3_3, b4_3, b5_3], (eInt).f [b7_2, b8_2, b9_2]] (bl v8) [])] [] (ocons (Tspec_l6Sum (Y := Y) n [b7_2, b8_2, b9_2] [b3_3, b4_3, b5_3] _ hv8) (ocons (len_row (L := [b7_2, b8_2, b9_2]) eInt) (ocons (Enc.share eInt eInt sInt [b7_2, b8_2, b9_2]) (ocons (len_row (L := [b3_3, b4_3, b5_3]) eInt) (ocons (Enc.share eInt eInt sInt [b3_3, b4_3, b5_3]) onil))))) onil (by kernel_rfl)
def Dspec_l6Clash3_5 (n : Nat) (t44 : Bool) (_b3_0 _b3_1 _b3_2 b3_3 _b4_0 _b4_1 _b4_2 b4_3 _b5_0 _b5_1 _b5_2 b5_3 _b7_0 _b7_1 b7_2 _b8_0 _b8_1 b8_2 _b9_0 _b9_1 b9_2 : Int) : Option Bool :=
  frk t44 ((Dspec_l6Sum n [b7_2, b8_2, b9_2] [b3_3, b4_3, b5_3]).bind fun v9 => some v9) (some false)
theorem Tspec_l6Clash3_5 {Y} (n : Nat) (t44 : Bool) (b3_0 b3_1 b3_2 b3_3 b4_0 b4_1 b4_2 b4_3 b5_0 b5_1 b5_2 b5_3 b7_0 b7_1 b7_2 b8_0 b8_1 b8_2 b9_0 b9_1 b9_2 : Int) (r : Bool) (h : Dspec_l6Clash3_5 n t44 b3_0 b3_1 b3_2 b3_3 b4_0 b4_1 b4_2 b4_3 b5_0 b5_1 b5_2 b5_3 b7_0 b7_1 b7_2 b8_0 b8_1 b8_2 b9_0 b9_1 b9_2 = some r) : Wk Tryz.prog H Y 135 [.code (cp [1, 1, 1, 1, 1, 0, 1, 0, 0, 1, 0, 0, 1] (bodyOf Tryz.f135)), .blk 1, .code (cp [1, 1, 1, 1, 1, 0, 1, 0, 0, 1, 1] (bodyOf Tryz.f135)), .lp (cp [1, 1, 1, 1, 1, 0, 1, 0] (bodyOf Tryz.f135)), .blk 0, .code (cp [1, 1, 1, 1, 1, 1] (bodyOf Tryz.f135))] (FinX Tryz.prog Tryz.f135 [] (bl r) []) ⟨[(3, .ptr 3 0), (4, .ptr 4 0), (5, .ptr 5 0), (7, .ptr 7 0), (8, .ptr 8 0), (9, .ptr 9 0), (10, i64 2), (44, bl t44)], [(3, ⟨true, 0, [i64 b3_0, i64 b3_1, i64 b3_2, i64 b3_3]⟩), (4, ⟨true, 0, [i64 b4_0, i64 b4_1, i64 b4_2, i64 b4_3]⟩), (5, ⟨true, 0, [i64 b5_0, i64 b5_1, i64 b5_2, i64 b5_3]⟩), (7, ⟨true, 0, [i64 b7_0, i64 b7_1, i64 b7_2]⟩), (8, ⟨true, 0, [i64 b8_0, i64 b8_1, i64 b8_2]⟩), (9, ⟨true, 0, [i64 b9_0, i64 b9_1, i64 b9_2]⟩)]⟩ := by
  unfold Dspec_l6Clash3_5 at h
  refine x_frk 0 [] onil h (by kernel_rfl) (fun h => ?_) (fun h => ?_)
  · obtain ⟨v9, hv9, h⟩ := bind_some h
    replace h := Option.some.inj h; subst h
    exact x_end 22 [(17, .call [] [(eInt).f [b3_3, b4_3, b5_3], (eInt).f [b7_2, b8_2, b9_2]] (bl v9) [])] [] (ocons (Tspec_l6Sum (Y := Y) n [b7_2, b8_2, b9_2] [b3_3, b4_3, b5_3] _ hv9) (ocons (len_row (L := [b7_2, b8_2, b9_2]) eInt) (ocons (Enc.share eInt eInt sInt [b7_2, b8_2, b9_2]) (ocons (len_row (L := [b3_3, b4_3, b5_3]) eInt) (ocons (Enc.share eInt eInt sInt [b3_3, b4_3, b5_3]) onil))))) onil (by kernel_rfl)
  · replace h := Option.some.inj h; subst h
    exact x_end 21 [] [] onil onil (by kernel_rfl)
def Dspec_l6Clash3_3 (n : Nat) (t44 : Bool) (b3_0 b3_1 b3_2 b3_3 b4_0 b4_1 b4_2 b4_3 b5_0 b5_1 b5_2 b5_3 b7_0 b7_1 b7_2 b8_0 b8_1 b8_2 b9_0 b9_1 b9_2 : Int) : Option Bool :=
  frk t44 ((Dspec_l6Sum n [b7_1, b8_1, b9_1] [b3_3, b4_3, b5_3]).bind fun v7 => some v7) (frk (b7_2 != 0) (Dspec_l6Clash3_4 n b3_0 b3_1 b3_2 b3_3 b4_0 b4_1 b4_2 b4_3 b5_0 b5_1 b5_2 b5_3 b7_0 b7_1 b7_2 b8_0 b8_1 b8_2 b9_0 b9_1 b9_2) (frk (b8_2 != 0) (Dspec_l6Clash3_4 n b3_0 b3_1 b3_2 b3_3 b4_0 b4_1 b4_2 b4_3 b5_0 b5_1 b5_2 b5_3 b7_0 b7_1 b7_2 b8_0 b8_1 b8_2 b9_0 b9_1 b9_2) (Dspec_l6Clash3_5 n (b9_2 != 0) b3_0 b3_1 b3_2 b3_3 b4_0 b4_1 b4_2 b4_3 b5_0 b5_1 b5_2 b5_3 b7_0 b7_1 b7_2 b8_0 b8_1 b8_2 b9_0 b9_1 b9_2)))
theorem Tspec_l6Clash3_3 {Y} (n : Nat) (t44 : Bool) (b3_0 b3_1 b3_2 b3_3 b4_0 b4_1 b4_2 b4_3 b5_0 b5_1 b5_2 b5_3 b7_0 b7_1 b7_2 b8_0 b8_1 b8_2 b9_0 b9_1 b9_2 : Int) (r : Bool) (h : Dspec_l6Clash3_3 n t44 b3_0 b3_1 b3_2 b3_3 b4_0 b4_1 b4_2 b4_3 b5_0 b5_1 b5_2 b5_3 b7_0 b7_1 b7_2 b8_0 b8_1 b8_2 b9_0 b9_1 b9_2 = some r) : Wk Tryz.prog H Y 135 [.code (cp [1, 1, 1, 1, 1, 0, 1, 0, 0, 1, 0, 0, 1] (bodyOf Tryz.f135)), .blk 1, .code (cp [1, 1, 1, 1, 1, 0, 1, 0, 0, 1, 1] (bodyOf Tryz.f135)), .lp (cp [1, 1, 1, 1, 1, 0, 1, 0] (bodyOf Tryz.f135)), .blk 0, .code (cp [1, 1, 1, 1, 1, 1] (bodyOf Tryz.f135))] (FinX Tryz.prog Tryz.f135 [] (bl r) []) ⟨[(3, .ptr 3 0), (4, .ptr 4 0), (5, .ptr 5 0), (7, .ptr 7 0), (8, .ptr 8 0), (9, .ptr 9 0), (10, i64 1), (44, bl t44)], [(3, ⟨true, 0, [i64 b3_0, i64 b3_1, i64 b3_2, i64 b3_3]⟩), (4, ⟨true, 0, [i64 b4_0, i64 b4_1, i64 b4_2, i64 b4_3]⟩), (5, ⟨true, 0, [i64 b5_0, i64 b5_1, i64 b5_2, i64 b5_3]⟩), (7, ⟨true, 0, [i64 b7_0, i64 b7_1, i64 b7_2]⟩), (8, ⟨true, 0, [i64 b8_0, i64 b8_1, i64 b8_2]⟩), (9, ⟨true, 0, [i64 b9_0, i64 b9_1, i64 b9_2]⟩)]⟩ := by
  unfold Dspec_l6Clash3_3 at h
  refine x_frk 0 [] onil h (by kernel_rfl) (fun h => ?_) (fun h => ?_)
  · obtain ⟨v7, hv7, h⟩ := bind_some h
    replace h := Option.some.inj h; subst h
    exact x_end 22 [(17, .call [] [(eInt).f [b3_3, b4_3, b5_3], (eInt).f [b7_1, b8_1, b9_1]] (bl v7) [])] [] (ocons (Tspec_l6Sum (Y := Y) n [b7_1, b8_1, b9_1] [b3_3, b4_3, b5_3] _ hv7) (ocons (len_row (L := [b7_1, b8_1, b9_1]) eInt) (ocons (Enc.share eInt eInt sInt [b7_1, b8_1, b9_1]) (ocons (len_row (L := [b3_3, b4_3, b5_3]) eInt) (ocons (Enc.share eInt eInt sInt [b3_3, b4_3, b5_3]) onil))))) onil (by kernel_rfl)
  · refine x_frk 26 [] onil h (by kernel_rfl) (fun h => ?_) (fun h => ?_)
    · exact x_to 14 [] onil (Tspec_l6Clash3_4 n b3_0 b3_1 b3_2 b3_3 b4_0 b4_1 b4_2 b4_3 b5_0 b5_1 b5_2 b5_3 b7_0 b7_1 b7_2 b8_0 b8_1 b8_2 b9_0 b9_1 b9_2 r h) (by kernel_rfl)
    · refine x_frk 6 [] onil h (by kernel_rfl) (fun h => ?_) (fun h => ?_)
      · exact x_to 8 [] onil (Tspec_l6Clash3_4 n b3_0 b3_1 b3_2 b3_3 b4_0 b4_1 b4_2 b4_3 b5_0 b5_1 b5_2 b5_3 b7_0 b7_1 b7_2 b8_0 b8_1 b8_2 b9_0 b9_1 b9_2 r h) (by kernel_rfl)
      · exact x_to 6 [] onil (Tspec_l6Clash3_5 n (b9_2 != 0) b3_0 b3_1 b3_2 b3_3 b4_0 b4_1 b4_2 b4_3 b5_0 b5_1 b5_2 b5_3 b7_0 b7_1 b7_2 b8_0 b8_1 b8_2 b9_0 b9_1 b9_2 r h) (by kernel_rfl)
def Dspec_l6Clash3_1 (n : Nat) (t44 : Bool) (b3_0 b3_1 b3_2 b3_3 b4_0 b4_1 b4_2 b4_3 b5_0 b5_1 b5_2 b5_3 b7_0 b7_1 b7_2 b8_0 b8_1 b8_2 b9_0 b9_1 b9_2 : Int) : Option Bool :=
  frk t44 ((Dspec_l6Sum n [b7_0, b8_0, b9_0] [b3_3, b4_3, b5_3]).bind fun v5 => some v5) (frk (b7_1 != 0) (Dspec_l6Clash3_2 n b3_0 b3_1 b3_2 b3_3 b4_0 b4_1 b4_2 b4_3 b5_0 b5_1 b5_2 b5_3 b7_0 b7_1 b7_2 b8_0 b8_1 b8_2 b9_0 b9_1 b9_2) (frk (b8_1 != 0) (Dspec_l6Clash3_2 n b3_0 b3_1 b3_2 b3_3 b4_0 b4_1 b4_2 b4_3 b5_0 b5_1 b5_2 b5_3 b7_0 b7_1 b7_2 b8_0 b8_1 b8_2 b9_0 b9_1 b9_2) (Dspec_l6Clash3_3 n (b9_1 != 0) b3_0 b3_1 b3_2 b3_3 b4_0 b4_1 b4_2 b4_3 b5_0 b5_1 b5_2 b5_3 b7_0 b7_1 b7_2 b8_0 b8_1 b8_2 b9_0 b9_1 b9_2)))
theorem Tspec_l6Clash3_1 {Y} (n : Nat) (t44 : Bool) (b3_0 b3_1 b3_2 b3_3 b4_0 b4_1 b4_2 b4_3 b5_0 b5_1 b5_2 b5_3 b7_0 b7_1 b7_2 b8_0 b8_1 b8_2 b9_0 b9_1 b9_2 : Int) (r : Bool) (h : Dspec_l6Clash3_1 n t44 b3_0 b3_1 b3_2 b3_3 b4_0 b4_1 b4_2 b4_3 b5_0 b5_1 b5_2 b5_3 b7_0 b7_1 b7_2 b8_0 b8_1 b8_2 b9_0 b9_1 b9_2 = some r) : Wk Tryz.prog H Y 135 [.code (cp [1, 1, 1, 1, 1, 0, 1, 0, 0, 1, 0, 0, 1] (bodyOf Tryz.f135)), .blk 1, .code (cp [1, 1, 1, 1, 1, 0, 1, 0, 0, 1, 1] (bodyOf Tryz.f135)), .lp (cp [1, 1, 1, 1, 1, 0, 1, 0] (bodyOf Tryz.f135)), .blk 0, .code (cp [1, 1, 1, 1, 1, 1] (bodyOf Tryz.f135))] (FinX Tryz.prog Tryz.f135 [] (bl r) []) ⟨[(3, .ptr 3 0), (4, .ptr 4 0), (5, .ptr 5 0), (7, .ptr 7 0), (8, .ptr 8 0), (9, .ptr 9 0), (10, i64 0), (44, bl t44)], [(3, ⟨true, 0, [i64 b3_0, i64 b3_1, i64 b3_2, i64 b3_3]⟩), (4, ⟨true, 0, [i64 b4_0, i64 b4_1, i64 b4_2, i64 b4_3]⟩), (5, ⟨true, 0, [i64 b5_0, i64 b5_1, i64 b5_2, i64 b5_3]⟩), (7, ⟨true, 0, [i64 b7_0, i64 b7_1, i64 b7_2]⟩), (8, ⟨true, 0, [i64 b8_0, i64 b8_1, i64 b8_2]⟩), (9, ⟨true, 0, [i64 b9_0, i64 b9_1, i64 b9_2]⟩)]⟩ := by
  unfold Dspec_l6Clash3_1 at h
  refine x_frk 0 [] onil h (by kernel_rfl) (fun h => ?_) (fun h => ?_)
  · obtain ⟨v5, hv5, h⟩ := bind_some h
    replace h := Option.some.inj h; subst h
    exact x_end 22 [(17, .call [] [(eInt).f [b3_3, b4_3, b5_3], (eInt).f [b7_0, b8_0, b9_0]] (bl v5) [])] [] (ocons (Tspec_l6Sum (Y := Y) n [b7_0, b8_0, b9_0] [b3_3, b4_3, b5_3] _ hv5) (ocons (len_row (L := [b7_0, b8_0, b9_0]) eInt) (ocons (Enc.share eInt eInt sInt [b7_0, b8_0, b9_0]) (ocons (len_row (L := [b3_3, b4_3, b5_3]) eInt) (ocons (Enc.share eInt eInt sInt [b3_3, b4_3, b5_3]) onil))))) onil (by kernel_rfl)
  · refine x_frk 26 [] onil h (by kernel_rfl) (fun h => ?_) (fun h => ?_)
    · exact x_to 14 [] onil (Tspec_l6Clash3_2 n b3_0 b3_1 b3_2 b3_3 b4_0 b4_1 b4_2 b4_3 b5_0 b5_1 b5_2 b5_3 b7_0 b7_1 b7_2 b8_0 b8_1 b8_2 b9_0 b9_1 b9_2 r h) (by kernel_rfl)
    · refine x_frk 6 [] onil h (by kernel_rfl) (fun h => ?_) (fun h => ?_)
      · exact x_to 8 [] onil (Tspec_l6Clash3_2 n b3_0 b3_1 b3_2 b3_3 b4_0 b4_1 b4_2 b4_3 b5_0 b5_1 b5_2 b5_3 b7_0 b7_1 b7_2 b8_0 b8_1 b8_2 b9_0 b9_1 b9_2 r h) (by kernel_rfl)
      · exact x_to 6 [] onil (Tspec_l6Clash3_3 n (b9_1 != 0) b3_0 b3_1 b3_2 b3_3 b4_0 b4_1 b4_2 b4_3 b5_0 b5_1 b5_2 b5_3 b7_0 b7_1 b7_2 b8_0 b8_1 b8_2 b9_0 b9_1 b9_2 r h) (by kernel_rfl)
def Dspec_l6Clash3 (n : Nat) (a0 : Pl) (a1 : Pl) (a2 : Pl) : Option Bool :=
  (Dspec_l4Det3 a0 a1 a2).bind fun v0 => frk (v0 != 0) (some false) ((Dspec_l4Cross a1 a2).bind fun v1 => (Dspec_l4Cross a2 a0).bind fun v2 => (Dspec_l4Cross a0 a1).bind fun v3 => frk (v1.1 != 0) (Dspec_l6Clash3_0 n a0.A a0.B a0.C a0.D a1.A a1.B a1.C a1.D a2.A a2.B a2.C a2.D v1.1 v1.2.1 v1.2.2 v2.1 v2.2.1 v2.2.2 v3.1 v3.2.1 v3.2.2) (frk (v2.1 != 0) (Dspec_l6Clash3_0 n a0.A a0.B a0.C a0.D a1.A a1.B a1.C a1.D a2.A a2.B a2.C a2.D v1.1 v1.2.1 v1.2.2 v2.1 v2.2.1 v2.2.2 v3.1 v3.2.1 v3.2.2) (Dspec_l6Clash3_1 n (v3.1 != 0) a0.A a0.B a0.C a0.D a1.A a1.B a1.C a1.D a2.A a2.B a2.C a2.D v1.1 v1.2.1 v1.2.2 v2.1 v2.2.1 v2.2.2 v3.1 v3.2.1 v3.2.2)))
theorem Tspec_l6Clash3 {Y} (n : Nat) (a0 : Pl) (a1 : Pl) (a2 : Pl) (r : Bool) (h : Dspec_l6Clash3 n a0 a1 a2 = some r) : Big Tryz.prog H Y (.call 135 [.agg [i64 a0.A, i64 a0.B, i64 a0.C, i64 a0.D], .agg [i64 a1.A, i64 a1.B, i64 a1.C, i64 a1.D], .agg [i64 a2.A, i64 a2.B, i64 a2.C, i64 a2.D]] (lk []) (bl r) (lk [])) := by
  unfold Dspec_l6Clash3 at h
  refine x_call (fn := Tryz.f135) (c := bodyOf Tryz.f135) (bs0 := []) Tryz.func135 (by kernel_rfl) (by kernel_rfl) ?_
  obtain ⟨v0, hv0, h⟩ := bind_some h
  refine x_frk 16 [(7, .call [] [] (i64 v0) [])] (ocons (Tspec_l4Det3 (Y := Y) a0 a1 a2 _ hv0) onil) h (by kernel_rfl) (fun h => ?_) (fun h => ?_)
  · replace h := Option.some.inj h; subst h
    exact x_end 4 [] [] onil onil (by kernel_rfl)
  · obtain ⟨v1, hv1, h⟩ := bind_some h
    obtain ⟨v2, hv2, h⟩ := bind_some h
    obtain ⟨v3, hv3, h⟩ := bind_some h
    refine x_frk 49 [(2, .call [] [] (.agg [i64 v1.1, i64 v1.2.1, i64 v1.2.2]) []), (4, .call [] [] (.agg [i64 v2.1, i64 v2.2.1, i64 v2.2.2]) []), (4, .call [] [] (.agg [i64 v3.1, i64 v3.2.1, i64 v3.2.2]) [])] (ocons (Tspec_l4Cross (Y := Y) a1 a2 _ hv1) (ocons (Tspec_l4Cross (Y := Y) a2 a0 _ hv2) (ocons (Tspec_l4Cross (Y := Y) a0 a1 _ hv3) onil))) h (by kernel_rfl) (fun h => ?_) (fun h => ?_)
    · exact x_to 14 [] onil (Tspec_l6Clash3_0 n a0.A a0.B a0.C a0.D a1.A a1.B a1.C a1.D a2.A a2.B a2.C a2.D v1.1 v1.2.1 v1.2.2 v2.1 v2.2.1 v2.2.2 v3.1 v3.2.1 v3.2.2 r h) (by kernel_rfl)
    · refine x_frk 6 [] onil h (by kernel_rfl) (fun h => ?_) (fun h => ?_)
      · exact x_to 8 [] onil (Tspec_l6Clash3_0 n a0.A a0.B a0.C a0.D a1.A a1.B a1.C a1.D a2.A a2.B a2.C a2.D v1.1 v1.2.1 v1.2.2 v2.1 v2.2.1 v2.2.2 v3.1 v3.2.1 v3.2.2 r h) (by kernel_rfl)
      · exact x_to 6 [] onil (Tspec_l6Clash3_1 n (v3.1 != 0) a0.A a0.B a0.C a0.D a1.A a1.B a1.C a1.D a2.A a2.B a2.C a2.D v1.1 v1.2.1 v1.2.2 v2.1 v2.2.1 v2.2.2 v3.1 v3.2.1 v3.2.2 r h) (by kernel_rfl)
/-! spec.l6Clash4 -/
def Dspec_l6Clash4 (n : Nat) (a0 : Pl) (a1 : Pl) (a2 : Pl) (a3 : Pl) : Option Bool :=
  (Dspec_l4Det3 a1 a2 a3).bind fun v0 => (Dspec_l4Det3 a0 a2 a3).bind fun v1 => (Dspec_l4Det3 a0 a1 a3).bind fun v2 => (Dspec_l4Det3 a0 a1 a2).bind fun v3 => (Dspec_l6Sum n [v0, w64 (0 - v1), v2, w64 (0 - v3)] [a0.D, a1.D, a2.D, a3.D]).bind fun v4 => some v4
theorem Tspec_l6Clash4 {Y} (n : Nat) (a0 : Pl) (a1 : Pl) (a2 : Pl) (a3 : Pl) (r : Bool) (h : Dspec_l6Clash4 n a0 a1 a2 a3 = some r) : Big Tryz.prog H Y (.call 136 [.agg [i64 a0.A, i64 a0.B, i64 a0.C, i64 a0.D], .agg [i64 a1.A, i64 a1.B, i64 a1.C, i64 a1.D], .agg [i64 a2.A, i64 a2.B, i64 a2.C, i64 a2.D], .agg [i64 a3.A, i64 a3.B, i64 a3.C, i64 a3.D]] (lk []) (bl r) (lk [])) := by
  unfold Dspec_l6Clash4 at h
  refine x_call (fn := Tryz.f136) (c := bodyOf Tryz.f136) (bs0 := []) Tryz.func136 (by kernel_rfl) (by kernel_rfl) ?_
  obtain ⟨v0, hv0, h⟩ := bind_some h
  obtain ⟨v1, hv1, h⟩ := bind_some h
  obtain ⟨v2, hv2, h⟩ := bind_some h
  obtain ⟨v3, hv3, h⟩ := bind_some h
  obtain ⟨v4, hv4, h⟩ := bind_some h
  replace h := Option.some.inj h; subst h
  exact x_end 46 [(8, .call [] [] (i64 v0) []), (3, .call [] [] (i64 v1) []), (4, .call [] [] (i64 v2) []), (3, .call [] [] (i64 v3) []), (13, .call [] [(eInt).f [a0.D, a1.D, a2.D, a3.D], (eInt).f [v0, w64 (0 - v1), v2, w64 (0 - v3)]] (bl v4) [])] [] (ocons (Tspec_l4Det3 (Y := Y) a1 a2 a3 _ hv0) (ocons (Tspec_l4Det3 (Y := Y) a0 a2 a3 _ hv1) (ocons (Tspec_l4Det3 (Y := Y) a0 a1 a3 _ hv2) (ocons (Tspec_l4Det3 (Y := Y) a0 a1 a2 _ hv3) (ocons (Tspec_l6Sum (Y := Y) n [v0, w64 (0 - v1), v2, w64 (0 - v3)] [a0.D, a1.D, a2.D, a3.D] _ hv4) (ocons (len_row (L := [v0, w64 (0 - v1), v2, w64 (0 - v3)]) eInt) (ocons (Enc.share eInt eInt sInt [v0, w64 (0 - v1), v2, w64 (0 - v3)]) (ocons (len_row (L := [a0.D, a1.D, a2.D, a3.D]) eInt) (ocons (Enc.share eInt eInt sInt [a0.D, a1.D, a2.D, a3.D]) onil))))))))) onil (by kernel_rfl)
/-! spec.l6With -/
def Dspec_l6With_0 (n : Nat) (rec1 : Int → Option Bool) (_rec0 : Int → Option Bool) (t6 : Int) (t0 : List Pl) (t5 b3_0 b3_1 b3_2 b3_3 t7 : Int) (rec2 : Int → Option Bool) (a : Int) : Option Bool :=
  match a with
  | t8 => frk (decide (t8 < t5)) ((lget t0 t6).bind fun v5 => (lget t0 t7).bind fun v6 => (lget t0 t8).bind fun v7 => (Dspec_l6Clash4 n v5 v6 v7 (Pl.mk b3_0 b3_1 b3_2 b3_3)).bind fun v8 => frk v8 (some true) (rec2 (w64 (t8 + 1)))) (rec1 (w64 (t7 + 1)))
theorem Tspec_l6With_0 {Y} (n : Nat) (rec1 : Int → Option Bool) (rec0 : Int → Option Bool) (t6 : Int) (t0 : List Pl) (t5 b3_0 b3_1 b3_2 b3_3 : Int) (hrec1 : ∀ (a : Int) (r : Bool), rec1 a = some r → Wk Tryz.prog H Y 90 [.code (cp [1, 1, 0, 1, 0, 0, 1, 0, 0, 1, 1, 0] (bodyOf Tryz.f90)), .blk 2, .blk 1, .code (cp [1, 1, 0, 1, 0, 0, 1, 1] (bodyOf Tryz.f90)), .lp (cp [1, 1, 0, 1, 0] (bodyOf Tryz.f90)), .blk 0, .code (cp [1, 1, 1] (bodyOf Tryz.f90))] (FinX Tryz.prog Tryz.f90 [] (bl r) []) ⟨[(0, .sl false 4 t0.length ((ePl).f t0)), (3, .ptr 3 0), (5, i64 t5), (6, i64 t6), (7, i64 a)], [(3, ⟨true, 0, [i64 b3_0, i64 b3_1, i64 b3_2, i64 b3_3]⟩)]⟩) (_hrec0 : ∀ (a : Int) (r : Bool), rec0 a = some r → Wk Tryz.prog H Y 90 [.code (cp [1, 1, 0, 1, 0] (bodyOf Tryz.f90)), .blk 0, .code (cp [1, 1, 1] (bodyOf Tryz.f90))] (FinX Tryz.prog Tryz.f90 [] (bl r) []) ⟨[(0, .sl false 4 t0.length ((ePl).f t0)), (3, .ptr 3 0), (5, i64 t5), (6, i64 a)], [(3, ⟨true, 0, [i64 b3_0, i64 b3_1, i64 b3_2, i64 b3_3]⟩)]⟩) (t7 : Int) : ∀ (m : Nat) (a : Int) (r : Bool), loopN (Dspec_l6With_0 n rec1 rec0 t6 t0 t5 b3_0 b3_1 b3_2 b3_3 t7) m a = some r → Wk Tryz.prog H Y 90 [.code (cp [1, 1, 0, 1, 0, 0, 1, 0, 0, 1, 1, 0, 0, 1, 0, 0, 1, 1, 0] (bodyOf Tryz.f90)), .blk 4, .blk 3, .code (cp [1, 1, 0, 1, 0, 0, 1, 0, 0, 1, 1, 0, 0, 1, 1] (bodyOf Tryz.f90)), .lp (cp [1, 1, 0, 1, 0, 0, 1, 0, 0, 1, 1, 0] (bodyOf Tryz.f90)), .blk 2, .blk 1, .code (cp [1, 1, 0, 1, 0, 0, 1, 1] (bodyOf Tryz.f90)), .lp (cp [1, 1, 0, 1, 0] (bodyOf Tryz.f90)), .blk 0, .code (cp [1, 1, 1] (bodyOf Tryz.f90))] (FinX Tryz.prog Tryz.f90 [] (bl r) []) ⟨[(0, .sl false 4 t0.length ((ePl).f t0)), (3, .ptr 3 0), (5, i64 t5), (6, i64 t6), (7, i64 t7), (8, i64 a)], [(3, ⟨true, 0, [i64 b3_0, i64 b3_1, i64 b3_2, i64 b3_3]⟩)]⟩ := by
  refine loopN_ind (fun _rec2 hrec2 a r h => ?_)
  obtain ⟨t8, rfl⟩ : ∃ x, x = a := ⟨a, rfl⟩
  unfold Dspec_l6With_0 at h
  refine x_frk 8 [] onil h (by kernel_rfl) (fun h => ?_) (fun h => ?_)
  · obtain ⟨v5, hv5, h⟩ := bind_some h
    obtain ⟨v6, hv6, h⟩ := bind_some h
    obtain ⟨v7, hv7, h⟩ := bind_some h
    obtain ⟨v8, hv8, h⟩ := bind_some h
    refine x_frk 20 [(2, .val (.cptr (ePl.c v5 ++ (ePl).f ((t0).drop (Int.toNat t6 + 1))))), (3, .val (.cptr (ePl.c v6 ++ (ePl).f ((t0).drop (Int.toNat t7 + 1))))), (3, .val (.cptr (ePl.c v7 ++ (ePl).f ((t0).drop (Int.toNat t8 + 1))))), (2, .call [] [] (bl v8) [])] (ocons (ix ePl hv5) (ocons (ix ePl hv6) (ocons (ix ePl hv7) (ocons (Tspec_l6Clash4 (Y := Y) n v5 v6 v7 (Pl.mk b3_0 b3_1 b3_2 b3_3) _ hv8) onil)))) h (by kernel_rfl) (fun h => ?_) (fun h => ?_)
    · replace h := Option.some.inj h; subst h
      exact x_end 4 [] [] onil onil (by kernel_rfl)
    · exact x_to 8 [] onil (hrec2 (w64 (t8 + 1)) r h) (by kernel_rfl)
  · exact x_to 8 [] onil (hrec1 (w64 (t7 + 1)) r h) (by kernel_rfl)
def Dspec_l6With_1 (n : Nat) (rec0 : Int → Option Bool) (t0 : List Pl) (t5 b3_0 b3_1 b3_2 b3_3 t6 : Int) (rec1 : Int → Option Bool) (a : Int) : Option Bool :=
  match a with
  | t7 => frk (decide (t7 < t5)) ((lget t0 t6).bind fun v2 => (lget t0 t7).bind fun v3 => (Dspec_l6Clash3 n v2 v3 (Pl.mk b3_0 b3_1 b3_2 b3_3)).bind fun v4 => frk v4 (some true) (loopN (Dspec_l6With_0 n rec1 rec0 t6 t0 t5 b3_0 b3_1 b3_2 b3_3 t7) n (w64 (t7 + 1)))) (rec0 (w64 (t6 + 1)))
theorem Tspec_l6With_1 {Y} (n : Nat) (rec0 : Int → Option Bool) (t0 : List Pl) (t5 b3_0 b3_1 b3_2 b3_3 : Int) (hrec0 : ∀ (a : Int) (r : Bool), rec0 a = some r → Wk Tryz.prog H Y 90 [.code (cp [1, 1, 0, 1, 0] (bodyOf Tryz.f90)), .blk 0, .code (cp [1, 1, 1] (bodyOf Tryz.f90))] (FinX Tryz.prog Tryz.f90 [] (bl r) []) ⟨[(0, .sl false 4 t0.length ((ePl).f t0)), (3, .ptr 3 0), (5, i64 t5), (6, i64 a)], [(3, ⟨true, 0, [i64 b3_0, i64 b3_1, i64 b3_2, i64 b3_3]⟩)]⟩) (t6 : Int) : ∀ (m : Nat) (a : Int) (r : Bool), loopN (Dspec_l6With_1 n rec0 t0 t5 b3_0 b3_1 b3_2 b3_3 t6) m a = some r → Wk Tryz.prog H Y 90 [.code (cp [1, 1, 0, 1, 0, 0, 1, 0, 0, 1, 1, 0] (bodyOf Tryz.f90)), .blk 2, .blk 1, .code (cp [1, 1, 0, 1, 0, 0, 1, 1] (bodyOf Tryz.f90)), .lp (cp [1, 1, 0, 1, 0] (bodyOf Tryz.f90)), .blk 0, .code (cp [1, 1, 1] (bodyOf Tryz.f90))] (FinX Tryz.prog Tryz.f90 [] (bl r) []) ⟨[(0, .sl false 4 t0.length ((ePl).f t0)), (3, .ptr 3 0), (5, i64 t5), (6, i64 t6), (7, i64 a)], [(3, ⟨true, 0, [i64 b3_0, i64 b3_1, i64 b3_2, i64 b3_3]⟩)]⟩ := by
  refine loopN_ind (fun rec1 hrec1 a r h => ?_)
  obtain ⟨t7, rfl⟩ : ∃ x, x = a := ⟨a, rfl⟩
  unfold Dspec_l6With_1 at h
  refine x_frk 8 [] onil h (by kernel_rfl) (fun h => ?_) (fun h => ?_)
  · obtain ⟨v2, hv2, h⟩ := bind_some h
    obtain ⟨v3, hv3, h⟩ := bind_some h
    obtain ⟨v4, hv4, h⟩ := bind_some h
    refine x_frk 17 [(2, .val (.cptr (ePl.c v2 ++ (ePl).f ((t0).drop (Int.toNat t6 + 1))))), (3, .val (.cptr (ePl.c v3 ++ (ePl).f ((t0).drop (Int.toNat t7 + 1))))), (2, .call [] [] (bl v4) [])] (ocons (ix ePl hv2) (ocons (ix ePl hv3) (ocons (Tspec_l6Clash3 (Y := Y) n v2 v3 (Pl.mk b3_0 b3_1 b3_2 b3_3) _ hv4) onil))) h (by kernel_rfl) (fun h => ?_) (fun h => ?_)
    · replace h := Option.some.inj h; subst h
      exact x_end 4 [] [] onil onil (by kernel_rfl)
    · exact x_to 8 [] onil (Tspec_l6With_0 n rec1 rec0 t6 t0 t5 b3_0 b3_1 b3_2 b3_3 hrec1 hrec0 t7 n (w64 (t7 + 1)) r h) (by kernel_rfl)
  · exact x_to 8 [] onil (hrec0 (w64 (t6 + 1)) r h) (by kernel_rfl)
def Dspec_l6With_2 (n : Nat) (t0 : List Pl) (t5 b3_0 b3_1 b3_2 b3_3 : Int) (rec0 : Int → Option Bool) (a : Int) : Option Bool :=
  match a with
  | t6 => frk (decide (t6 < t5)) ((lget t0 t6).bind fun v0 => (Dspec_l6Clash2 v0 (Pl.mk b3_0 b3_1 b3_2 b3_3)).bind fun v1 => frk v1 (some true) (loopN (Dspec_l6With_1 n rec0 t0 t5 b3_0 b3_1 b3_2 b3_3 t6) n (w64 (t6 + 1)))) (some false)
theorem Tspec_l6With_2 {Y} (n : Nat) (t0 : List Pl) (t5 b3_0 b3_1 b3_2 b3_3 : Int) : ∀ (m : Nat) (a : Int) (r : Bool), loopN (Dspec_l6With_2 n t0 t5 b3_0 b3_1 b3_2 b3_3) m a = some r → Wk Tryz.prog H Y 90 [.code (cp [1, 1, 0, 1, 0] (bodyOf Tryz.f90)), .blk 0, .code (cp [1, 1, 1] (bodyOf Tryz.f90))] (FinX Tryz.prog Tryz.f90 [] (bl r) []) ⟨[(0, .sl false 4 t0.length ((ePl).f t0)), (3, .ptr 3 0), (5, i64 t5), (6, i64 a)], [(3, ⟨true, 0, [i64 b3_0, i64 b3_1, i64 b3_2, i64 b3_3]⟩)]⟩ := by
  refine loopN_ind (fun rec0 hrec0 a r h => ?_)
  obtain ⟨t6, rfl⟩ : ∃ x, x = a := ⟨a, rfl⟩
  unfold Dspec_l6With_2 at h
  refine x_frk 8 [] onil h (by kernel_rfl) (fun h => ?_) (fun h => ?_)
  · obtain ⟨v0, hv0, h⟩ := bind_some h
    obtain ⟨v1, hv1, h⟩ := bind_some h
    refine x_frk 13 [(2, .val (.cptr (ePl.c v0 ++ (ePl).f ((t0).drop (Int.toNat t6 + 1))))), (2, .call [] [] (bl v1) [])] (ocons (ix ePl hv0) (ocons (Tspec_l6Clash2 (Y := Y) v0 (Pl.mk b3_0 b3_1 b3_2 b3_3) _ hv1) onil)) h (by kernel_rfl) (fun h => ?_) (fun h => ?_)
    · replace h := Option.some.inj h; subst h
      exact x_end 4 [] [] onil onil (by kernel_rfl)
    · exact x_to 8 [] onil (Tspec_l6With_1 n rec0 t0 t5 b3_0 b3_1 b3_2 b3_3 hrec0 t6 n (w64 (t6 + 1)) r h) (by kernel_rfl)
  · replace h := Option.some.inj h; subst h
    exact x_end 5 [] [] onil onil (by kernel_rfl)
def Dspec_l6With (n : Nat) (a0 : (List Pl)) (a1 : Pl) : Option Bool :=
  loopN (Dspec_l6With_2 n a0 (a0.length : Int) a1.A a1.B a1.C a1.D) n 0
theorem Tspec_l6With {Y} (n : Nat) (a0 : (List Pl)) (a1 : Pl) (r : Bool) (h : Dspec_l6With n a0 a1 = some r) : Big Tryz.prog H Y (.call 90 [.sl false 4 a0.length ((ePl).f a0), .agg [i64 a1.A, i64 a1.B, i64 a1.C, i64 a1.D]] (lk []) (bl r) (lk [])) := by
  unfold Dspec_l6With at h
  refine x_call (fn := Tryz.f90) (c := bodyOf Tryz.f90) (bs0 := []) Tryz.func90 (by kernel_rfl) (by kernel_rfl) ?_
  exact x_to 17 [] onil (Tspec_l6With_2 n a0 (a0.length : Int) a1.A a1.B a1.C a1.D n 0 r h) (by kernel_rfl)
/-! spec.l3Flip -/
def Dspec_l3Flip (a0 : Pl) : Option Pl :=
  some (Pl.mk (w64 (0 - a0.A)) (w64 (0 - a0.B)) (w64 (0 - a0.C)) (w64 (0 - a0.D)))
theorem Tspec_l3Flip {Y} (a0 : Pl) (r : Pl) (h : Dspec_l3Flip a0 = some r) : Big Tryz.prog H Y (.call 91 [.agg [i64 a0.A, i64 a0.B, i64 a0.C, i64 a0.D]] (lk []) (.agg [i64 r.A, i64 r.B, i64 r.C, i64 r.D]) (lk [])) := by
  unfold Dspec_l3Flip at h
  refine x_call (fn := Tryz.f91) (c := bodyOf Tryz.f91) (bs0 := []) Tryz.func91 (by kernel_rfl) (by kernel_rfl) ?_
  replace h := Option.some.inj h; subst h
  exact x_end 22 [] [] onil onil (by kernel_rfl)
/-! spec.l8Path -/
def Dspec_l8Path (a0 : (List Pl)) (a1 : Pl) : Option (List Pl) :=
  chk (apB 32 (0 + a0.length)) (chk (apB 32 (([] ++ a0).length + 1)) (some (([] ++ a0) ++ [a1])))
theorem Tspec_l8Path {Y} (a0 : (List Pl)) (a1 : Pl) (r : (List Pl)) (h : Dspec_l8Path a0 a1 = some r) : Big Tryz.prog H Y (.call 92 [.sl false 4 a0.length ((ePl).f a0), .agg [i64 a1.A, i64 a1.B, i64 a1.C, i64 a1.D]] (lk []) (.sl true 4 r.length ((ePl).f r)) (lk [])) := by
  unfold Dspec_l8Path at h
  refine x_call (fn := Tryz.f92) (c := bodyOf Tryz.f92) (bs0 := []) Tryz.func92 (by kernel_rfl) (by kernel_rfl) ?_
  obtain ⟨c0, h⟩ := chk_some h
  obtain ⟨c1, h⟩ := chk_some h
  replace h := Option.some.inj h; subst h
  exact x_end 15 [(4, .app false (List.length ([] ++ a0)) ((ePl).f ([] ++ a0))), (2, .app false (List.length (([] ++ a0) ++ [a1])) ((ePl).f (([] ++ a0) ++ [a1])))] [] (ocons (len_row' (L := []) ePl) (ocons (app_one (L := []) (M := a0) ePl c0) (ocons (app_new (L := []) (M := a0) ePl) (ocons (app_m (L := []) (M := a0) ePl rfl) (ocons (len_row' (L := a0) ePl) (ocons (len_row' (L := ([] ++ a0)) ePl) (ocons (app_one (L := ([] ++ a0)) (M := [a1]) ePl c1) (ocons (app_new (L := ([] ++ a0)) (M := [a1]) ePl) (ocons (app_m (L := ([] ++ a0)) (M := [a1]) ePl rfl) (ocons (len_row' (L := [a1]) ePl) (ocons (Enc.noOwn ePl (fun _ => rfl) [a1]) onil))))))))))) (ocons (len_row (L := (([] ++ a0) ++ [a1])) ePl) onil) (by kernel_rfl)
/-! spec.l8Node -/
def Dspec_l8Nodeo1o2 (a0 : Pl) (a1 : Sol) (a2 : Sol) : Option Sol :=
  some (Sol.mk false a0 [a1, a2])
theorem Tspec_l8Nodeo1o2 {Y} (a0 : Pl) (a1 : Sol) (a2 : Sol) (r : Sol) (h : Dspec_l8Nodeo1o2 a0 a1 a2 = some r) : Big Tryz.prog H Y (.call 95 [.agg [i64 a0.A, i64 a0.B, i64 a0.C, i64 a0.D], .agg [bl a1.inn, i64 a1.pl.A, i64 a1.pl.B, i64 a1.pl.C, i64 a1.pl.D, .sl true 6 a1.kids.length ((eSol true).f a1.kids)], .agg [bl a2.inn, i64 a2.pl.A, i64 a2.pl.B, i64 a2.pl.C, i64 a2.pl.D, .sl true 6 a2.kids.length ((eSol true).f a2.kids)]] (lk []) (.agg [bl r.inn, i64 r.pl.A, i64 r.pl.B, i64 r.pl.C, i64 r.pl.D, .sl true 6 r.kids.length ((eSol true).f r.kids)]) (lk [])) := by
  unfold Dspec_l8Nodeo1o2 at h
  refine x_call (fn := Tryz.f95) (c := bodyOf Tryz.f95) (bs0 := []) Tryz.func95 (by kernel_rfl) (by kernel_rfl) ?_
  replace h := Option.some.inj h; subst h
  exact x_end 17 [(8, .fixb 10 ⟨true, 6, (eSol true).f [a1, a2]⟩)] [] (ocons (boxSol true true [a1, a2]) onil) (ocons (len_row (L := [a1, a2]) (eSol true)) onil) (by kernel_rfl)
/-! spec.Leaf -/
def Dspec_Leaf (a0 : Bool) : Option Sol :=
  some (Sol.mk a0 (Pl.mk 0 0 0 0) [])
theorem Tspec_Leaf {Y} (a0 : Bool) (r : Sol) (h : Dspec_Leaf a0 = some r) : Big Tryz.prog H Y (.call 96 [bl a0] (lk []) (.agg [bl r.inn, i64 r.pl.A, i64 r.pl.B, i64 r.pl.C, i64 r.pl.D, .sl true 6 r.kids.length ((eSol true).f r.kids)]) (lk [])) := by
  unfold Dspec_Leaf at h
  refine x_call (fn := Tryz.f96) (c := bodyOf Tryz.f96) (bs0 := []) Tryz.func96 (by kernel_rfl) (by kernel_rfl) ?_
  replace h := Option.some.inj h; subst h
  exact x_end 10 [] [(true, 6)] onil onil (by kernel_rfl)
/-! spec.l8Grow -/
def Dspec_l8Grow_1 (_n : Nat) (self : (((List Int) × Int × Int) × (List Pl) × Int) → Option (Sol × ((List Int) × Int × Int))) (rec0 : (Int × List Int × Int × Int) → Option (Sol × ((List Int) × Int × Int))) (t1 : List Pl) (t2 : Int) (_b6_0 : Bool) (_b6_1 _b6_2 _b6_3 _b6_4 t7 : Int) (t30 : Bool) (b8_0 b8_1 b8_2 b8_3 : Int) (b1000_0 : List Int) (b1000_1 b1000_2 : Int) : Option (Sol × ((List Int) × Int × Int)) :=
  frk t30 ((Dspec_l8Path t1 (Pl.mk b8_0 b8_1 b8_2 b8_3)).bind fun v4 => (Dspec_l1Below (b1000_0, b1000_1, b1000_2) 2).bind fun v5 => (self (v5.2, v4, w64 ((w64 (t2 - 1)) - v5.1))).bind fun v6 => (Dspec_l3Flip (Pl.mk b8_0 b8_1 b8_2 b8_3)).bind fun v7 => (Dspec_l8Path t1 v7).bind fun v8 => (Dspec_l1Below v6.2 2).bind fun v9 => (self (v9.2, v8, w64 ((w64 (t2 - 1)) - v9.1))).bind fun v10 => (Dspec_l8Nodeo1o2 (Pl.mk b8_0 b8_1 b8_2 b8_3) v6.1 v10.1).bind fun v11 => some (v11, v10.2)) (rec0 (w64 (t7 + 1), b1000_0, b1000_1, b1000_2))
theorem Tspec_l8Grow_1 {Y} (n : Nat) (self : (((List Int) × Int × Int) × (List Pl) × Int) → Option (Sol × ((List Int) × Int × Int))) (rec0 : (Int × List Int × Int × Int) → Option (Sol × ((List Int) × Int × Int))) (t1 : List Pl) (t2 : Int) (b6_0 : Bool) (b6_1 b6_2 b6_3 b6_4 : Int) (hself : ∀ (a : (((List Int) × Int × Int) × (List Pl) × Int)) (r : (Sol × ((List Int) × Int × Int))), self a = some r → Big Tryz.prog H Y (.call 45 [.ptr 1000 0, .sl false 4 a.2.1.length ((ePl).f a.2.1), i64 a.2.2] (lk [(1000, ⟨true, 0, [.sl false 1 a.1.1.length ((eU8).f a.1.1), i64 a.1.2.1, i64 a.1.2.2]⟩)]) (.agg [bl r.1.inn, i64 r.1.pl.A, i64 r.1.pl.B, i64 r.1.pl.C, i64 r.1.pl.D, .sl true 6 r.1.kids.length ((eSol true).f r.1.kids)]) (lk [(1000, ⟨true, 0, [.sl false 1 r.2.1.length ((eU8).f r.2.1), i64 r.2.2.1, i64 r.2.2.2]⟩)]))) (hrec0 : ∀ (a : (Int × List Int × Int × Int)) (r : (Sol × ((List Int) × Int × Int))), rec0 a = some r → Wk Tryz.prog H Y 45 [.code (cp [1, 0, 1, 0] (bodyOf Tryz.f45)), .blk 0, .code (cp [1, 1] (bodyOf Tryz.f45))] (FinX Tryz.prog Tryz.f45 [(1000, ⟨true, 0, [.bad, .bad, .bad]⟩)] (.agg [bl r.1.inn, i64 r.1.pl.A, i64 r.1.pl.B, i64 r.1.pl.C, i64 r.1.pl.D, .sl true 6 r.1.kids.length ((eSol true).f r.1.kids)]) [(1000, ⟨true, 0, [.sl false 1 r.2.1.length ((eU8).f r.2.1), i64 r.2.2.1, i64 r.2.2.2]⟩)]) ⟨[(0, .ptr 1000 0), (1, .sl false 4 t1.length ((ePl).f t1)), (2, i64 t2), (6, .ptr 6 0), (7, i64 a.1)], [(6, ⟨true, 0, [bl b6_0, i64 b6_1, i64 b6_2, i64 b6_3, i64 b6_4, .nil]⟩), (1000, ⟨true, 0, [.sl false 1 a.2.1.length ((eU8).f a.2.1), i64 a.2.2.1, i64 a.2.2.2]⟩)]⟩) (t7 : Int) (t30 : Bool) (b8_0 b8_1 b8_2 b8_3 : Int) (b1000_0 : List Int) (b1000_1 b1000_2 : Int) (r : (Sol × ((List Int) × Int × Int))) (h : Dspec_l8Grow_1 n self rec0 t1 t2 b6_0 b6_1 b6_2 b6_3 b6_4 t7 t30 b8_0 b8_1 b8_2 b8_3 b1000_0 b1000_1 b1000_2 = some r) : Wk Tryz.prog H Y 45 [.code (cp [1, 0, 1, 0, 0, 1, 0, 0, 1, 1] (bodyOf Tryz.f45)), .blk 1, .code (cp [1, 0, 1, 0, 0, 1, 1] (bodyOf Tryz.f45)), .lp (cp [1, 0, 1, 0] (bodyOf Tryz.f45)), .blk 0, .code (cp [1, 1] (bodyOf Tryz.f45))] (FinX Tryz.prog Tryz.f45 [(1000, ⟨true, 0, [.bad, .bad, .bad]⟩)] (.agg [bl r.1.inn, i64 r.1.pl.A, i64 r.1.pl.B, i64 r.1.pl.C, i64 r.1.pl.D, .sl true 6 r.1.kids.length ((eSol true).f r.1.kids)]) [(1000, ⟨true, 0, [.sl false 1 r.2.1.length ((eU8).f r.2.1), i64 r.2.2.1, i64 r.2.2.2]⟩)]) ⟨[(0, .ptr 1000 0), (1, .sl false 4 t1.length ((ePl).f t1)), (2, i64 t2), (6, .ptr 6 0), (7, i64 t7), (8, .ptr 8 0), (30, bl t30)], [(6, ⟨true, 0, [bl b6_0, i64 b6_1, i64 b6_2, i64 b6_3, i64 b6_4, .nil]⟩), (8, ⟨true, 0, [i64 b8_0, i64 b8_1, i64 b8_2, i64 b8_3]⟩), (1000, ⟨true, 0, [.sl false 1 b1000_0.length ((eU8).f b1000_0), i64 b1000_1, i64 b1000_2]⟩)]⟩ := by
  unfold Dspec_l8Grow_1 at h
  refine x_frk 0 [] onil h (by kernel_rfl) (fun h => ?_) (fun h => ?_)
  · obtain ⟨v4, hv4, h⟩ := bind_some h
    obtain ⟨v5, hv5, h⟩ := bind_some h
    obtain ⟨v6, hv6, h⟩ := bind_some h
    obtain ⟨v7, hv7, h⟩ := bind_some h
    obtain ⟨v8, hv8, h⟩ := bind_some h
    obtain ⟨v9, hv9, h⟩ := bind_some h
    obtain ⟨v10, hv10, h⟩ := bind_some h
    obtain ⟨v11, hv11, h⟩ := bind_some h
    replace h := Option.some.inj h; subst h
    exact x_end 33 [(3, .call [] [] (.sl true 4 v4.length ((ePl).f v4)) []), (3, .call [] [] (i64 v5.1) [(1000, ⟨true, 0, [.sl false 1 v5.2.1.length ((eU8).f v5.2.1), i64 v5.2.2.1, i64 v5.2.2.2]⟩)]), (1, .call [] [] (.agg [bl v6.1.inn, i64 v6.1.pl.A, i64 v6.1.pl.B, i64 v6.1.pl.C, i64 v6.1.pl.D, .sl true 6 v6.1.kids.length ((eSol true).f v6.1.kids)]) [(1000, ⟨true, 0, [.sl false 1 v6.2.1.length ((eU8).f v6.2.1), i64 v6.2.2.1, i64 v6.2.2.2]⟩)]), (7, .call [] [] (.agg [i64 v7.A, i64 v7.B, i64 v7.C, i64 v7.D]) []), (0, .call [] [] (.sl true 4 v8.length ((ePl).f v8)) []), (3, .call [] [] (i64 v9.1) [(1000, ⟨true, 0, [.sl false 1 v9.2.1.length ((eU8).f v9.2.1), i64 v9.2.2.1, i64 v9.2.2.2]⟩)]), (1, .call [] [] (.agg [bl v10.1.inn, i64 v10.1.pl.A, i64 v10.1.pl.B, i64 v10.1.pl.C, i64 v10.1.pl.D, .sl true 6 v10.1.kids.length ((eSol true).f v10.1.kids)]) [(1000, ⟨true, 0, [.sl false 1 v10.2.1.length ((eU8).f v10.2.1), i64 v10.2.2.1, i64 v10.2.2.2]⟩)]), (0, .call [] [] (.agg [bl v11.inn, i64 v11.pl.A, i64 v11.pl.B, i64 v11.pl.C, i64 v11.pl.D, .sl true 6 v11.kids.length ((eSol true).f v11.kids)]) [])] [] (ocons (Tspec_l8Path (Y := Y) t1 (Pl.mk b8_0 b8_1 b8_2 b8_3) _ hv4) (ocons (Tspec_l1Below (Y := Y) (b1000_0, b1000_1, b1000_2) 2 _ hv5) (ocons (Big.wka (show WkT [.ptr 1000 0, .sl true 4 v4.length ((ePl).f v4), i64 (w64 ((w64 (t2 - 1)) - v5.1))] [.ptr 1000 0, .sl false 4 v4.length ((ePl).f v4), i64 (w64 ((w64 (t2 - 1)) - v5.1))] from ⟨wkSameU _, wkShareU (L := v4) ePl ePl sPl, wkSameU _, trivial⟩) (hself (v5.2, v4, w64 ((w64 (t2 - 1)) - v5.1)) _ hv6)) (ocons (len_row (L := v4) ePl) (ocons (Tspec_l3Flip (Y := Y) (Pl.mk b8_0 b8_1 b8_2 b8_3) _ hv7) (ocons (Tspec_l8Path (Y := Y) t1 v7 _ hv8) (ocons (Tspec_l1Below (Y := Y) v6.2 2 _ hv9) (ocons (Big.wka (show WkT [.ptr 1000 0, .sl true 4 v8.length ((ePl).f v8), i64 (w64 ((w64 (t2 - 1)) - v9.1))] [.ptr 1000 0, .sl false 4 v8.length ((ePl).f v8), i64 (w64 ((w64 (t2 - 1)) - v9.1))] from ⟨wkSameU _, wkShareU (L := v8) ePl ePl sPl, wkSameU _, trivial⟩) (hself (v9.2, v8, w64 ((w64 (t2 - 1)) - v9.1)) _ hv10)) (ocons (len_row (L := v8) ePl) (ocons (Tspec_l8Nodeo1o2 (Y := Y) (Pl.mk b8_0 b8_1 b8_2 b8_3) v6.1 v10.1 _ hv11) onil)))))))))) onil (by kernel_rfl)
  · exact x_to 8 [] onil (hrec0 (w64 (t7 + 1), b1000_0, b1000_1, b1000_2) r h) (by kernel_rfl)
def Dspec_l8Grow_2 (_n : Nat) (_self : (((List Int) × Int × Int) × (List Pl) × Int) → Option (Sol × ((List Int) × Int × Int))) (_b6_0 : Bool) (_b6_1 _b6_2 _b6_3 _b6_4 : Int) (b1000_0 : List Int) (b1000_1 b1000_2 : Int) : Option (Sol × ((List Int) × Int × Int)) :=
  (Dspec_l1Once (b1000_0, b1000_1, b1000_2) 2).bind fun v12 => (Dspec_Leaf v12.1).bind fun v13 => some (v13, v12.2)
theorem Tspec_l8Grow_2 {Y} (n : Nat) (self : (((List Int) × Int × Int) × (List Pl) × Int) → Option (Sol × ((List Int) × Int × Int))) (_hself : ∀ (a : (((List Int) × Int × Int) × (List Pl) × Int)) (r : (Sol × ((List Int) × Int × Int))), self a = some r → Big Tryz.prog H Y (.call 45 [.ptr 1000 0, .sl false 4 a.2.1.length ((ePl).f a.2.1), i64 a.2.2] (lk [(1000, ⟨true, 0, [.sl false 1 a.1.1.length ((eU8).f a.1.1), i64 a.1.2.1, i64 a.1.2.2]⟩)]) (.agg [bl r.1.inn, i64 r.1.pl.A, i64 r.1.pl.B, i64 r.1.pl.C, i64 r.1.pl.D, .sl true 6 r.1.kids.length ((eSol true).f r.1.kids)]) (lk [(1000, ⟨true, 0, [.sl false 1 r.2.1.length ((eU8).f r.2.1), i64 r.2.2.1, i64 r.2.2.2]⟩)]))) (b6_0 : Bool) (b6_1 b6_2 b6_3 b6_4 : Int) (b1000_0 : List Int) (b1000_1 b1000_2 : Int) (r : (Sol × ((List Int) × Int × Int))) (h : Dspec_l8Grow_2 n self b6_0 b6_1 b6_2 b6_3 b6_4 b1000_0 b1000_1 b1000_2 = some r) : Wk Tryz.prog H Y 45 [.code (cp [1, 1, 0] (bodyOf Tryz.f45)), .code (cp [1, 1, 1] (bodyOf Tryz.f45))] (FinX Tryz.prog Tryz.f45 [(1000, ⟨true, 0, [.bad, .bad, .bad]⟩)] (.agg [bl r.1.inn, i64 r.1.pl.A, i64 r.1.pl.B, i64 r.1.pl.C, i64 r.1.pl.D, .sl true 6 r.1.kids.length ((eSol true).f r.1.kids)]) [(1000, ⟨true, 0, [.sl false 1 r.2.1.length ((eU8).f r.2.1), i64 r.2.2.1, i64 r.2.2.2]⟩)]) ⟨[(0, .ptr 1000 0), (6, .ptr 6 0)], [(6, ⟨true, 0, [bl b6_0, i64 b6_1, i64 b6_2, i64 b6_3, i64 b6_4, .nil]⟩), (1000, ⟨true, 0, [.sl false 1 b1000_0.length ((eU8).f b1000_0), i64 b1000_1, i64 b1000_2]⟩)]⟩ := by
  unfold Dspec_l8Grow_2 at h
  obtain ⟨v12, hv12, h⟩ := bind_some h
  obtain ⟨v13, hv13, h⟩ := bind_some h
  replace h := Option.some.inj h; subst h
  exact x_end 6 [(1, .call [] [] (bl v12.1) [(1000, ⟨true, 0, [.sl false 1 v12.2.1.length ((eU8).f v12.2.1), i64 v12.2.2.1, i64 v12.2.2.2]⟩)]), (0, .call [] [] (.agg [bl v13.inn, i64 v13.pl.A, i64 v13.pl.B, i64 v13.pl.C, i64 v13.pl.D, .sl true 6 v13.kids.length ((eSol true).f v13.kids)]) [])] [] (ocons (Tspec_l1Once (Y := Y) (b1000_0, b1000_1, b1000_2) 2 _ hv12) (ocons (Tspec_Leaf (Y := Y) v12.1 _ hv13) onil)) onil (by kernel_rfl)
def Dspec_l8Grow_0 (n : Nat) (self : (((List Int) × Int × Int) × (List Pl) × Int) → Option (Sol × ((List Int) × Int × Int))) (rec0 : (Int × List Int × Int × Int) → Option (Sol × ((List Int) × Int × Int))) (t1 : List Pl) (t2 : Int) (b6_0 : Bool) (b6_1 b6_2 b6_3 b6_4 t7 : Int) (t15 : Bool) (b1000_0 : List Int) (b1000_1 b1000_2 : Int) : Option (Sol × ((List Int) × Int × Int)) :=
  frk t15 ((Dspec_l3Draw n (b1000_0, b1000_1, b1000_2)).bind fun v0 => (Dspec_l6With n t1 v0.1).bind fun v1 => frk (!v1) ((Dspec_l3Flip v0.1).bind fun v2 => (Dspec_l6With n t1 v2).bind fun v3 => Dspec_l8Grow_1 n self rec0 t1 t2 b6_0 b6_1 b6_2 b6_3 b6_4 t7 (!v3) v0.1.A v0.1.B v0.1.C v0.1.D v0.2.1 v0.2.2.1 v0.2.2.2) (rec0 (w64 (t7 + 1), v0.2.1, v0.2.2.1, v0.2.2.2))) (Dspec_l8Grow_2 n self b6_0 b6_1 b6_2 b6_3 b6_4 b1000_0 b1000_1 b1000_2)
theorem Tspec_l8Grow_0 {Y} (n : Nat) (self : (((List Int) × Int × Int) × (List Pl) × Int) → Option (Sol × ((List Int) × Int × Int))) (rec0 : (Int × List Int × Int × Int) → Option (Sol × ((List Int) × Int × Int))) (t1 : List Pl) (t2 : Int) (b6_0 : Bool) (b6_1 b6_2 b6_3 b6_4 : Int) (hself : ∀ (a : (((List Int) × Int × Int) × (List Pl) × Int)) (r : (Sol × ((List Int) × Int × Int))), self a = some r → Big Tryz.prog H Y (.call 45 [.ptr 1000 0, .sl false 4 a.2.1.length ((ePl).f a.2.1), i64 a.2.2] (lk [(1000, ⟨true, 0, [.sl false 1 a.1.1.length ((eU8).f a.1.1), i64 a.1.2.1, i64 a.1.2.2]⟩)]) (.agg [bl r.1.inn, i64 r.1.pl.A, i64 r.1.pl.B, i64 r.1.pl.C, i64 r.1.pl.D, .sl true 6 r.1.kids.length ((eSol true).f r.1.kids)]) (lk [(1000, ⟨true, 0, [.sl false 1 r.2.1.length ((eU8).f r.2.1), i64 r.2.2.1, i64 r.2.2.2]⟩)]))) (hrec0 : ∀ (a : (Int × List Int × Int × Int)) (r : (Sol × ((List Int) × Int × Int))), rec0 a = some r → Wk Tryz.prog H Y 45 [.code (cp [1, 0, 1, 0] (bodyOf Tryz.f45)), .blk 0, .code (cp [1, 1] (bodyOf Tryz.f45))] (FinX Tryz.prog Tryz.f45 [(1000, ⟨true, 0, [.bad, .bad, .bad]⟩)] (.agg [bl r.1.inn, i64 r.1.pl.A, i64 r.1.pl.B, i64 r.1.pl.C, i64 r.1.pl.D, .sl true 6 r.1.kids.length ((eSol true).f r.1.kids)]) [(1000, ⟨true, 0, [.sl false 1 r.2.1.length ((eU8).f r.2.1), i64 r.2.2.1, i64 r.2.2.2]⟩)]) ⟨[(0, .ptr 1000 0), (1, .sl false 4 t1.length ((ePl).f t1)), (2, i64 t2), (6, .ptr 6 0), (7, i64 a.1)], [(6, ⟨true, 0, [bl b6_0, i64 b6_1, i64 b6_2, i64 b6_3, i64 b6_4, .nil]⟩), (1000, ⟨true, 0, [.sl false 1 a.2.1.length ((eU8).f a.2.1), i64 a.2.2.1, i64 a.2.2.2]⟩)]⟩) (t7 : Int) (t15 : Bool) (b1000_0 : List Int) (b1000_1 b1000_2 : Int) (r : (Sol × ((List Int) × Int × Int))) (h : Dspec_l8Grow_0 n self rec0 t1 t2 b6_0 b6_1 b6_2 b6_3 b6_4 t7 t15 b1000_0 b1000_1 b1000_2 = some r) : Wk Tryz.prog H Y 45 [.code (cp [1, 0, 1, 0, 0, 0, 1] (bodyOf Tryz.f45)), .code (cp [1, 0, 1, 0, 0, 1] (bodyOf Tryz.f45)), .lp (cp [1, 0, 1, 0] (bodyOf Tryz.f45)), .blk 0, .code (cp [1, 1] (bodyOf Tryz.f45))] (FinX Tryz.prog Tryz.f45 [(1000, ⟨true, 0, [.bad, .bad, .bad]⟩)] (.agg [bl r.1.inn, i64 r.1.pl.A, i64 r.1.pl.B, i64 r.1.pl.C, i64 r.1.pl.D, .sl true 6 r.1.kids.length ((eSol true).f r.1.kids)]) [(1000, ⟨true, 0, [.sl false 1 r.2.1.length ((eU8).f r.2.1), i64 r.2.2.1, i64 r.2.2.2]⟩)]) ⟨[(0, .ptr 1000 0), (1, .sl false 4 t1.length ((ePl).f t1)), (2, i64 t2), (6, .ptr 6 0), (7, i64 t7), (15, bl t15)], [(6, ⟨true, 0, [bl b6_0, i64 b6_1, i64 b6_2, i64 b6_3, i64 b6_4, .nil]⟩), (1000, ⟨true, 0, [.sl false 1 b1000_0.length ((eU8).f b1000_0), i64 b1000_1, i64 b1000_2]⟩)]⟩ := by
  unfold Dspec_l8Grow_0 at h
  refine x_frk 0 [] onil h (by kernel_rfl) (fun h => ?_) (fun h => ?_)
  · obtain ⟨v0, hv0, h⟩ := bind_some h
    obtain ⟨v1, hv1, h⟩ := bind_some h
    refine x_frk 17 [(1, .call [] [] (.agg [i64 v0.1.A, i64 v0.1.B, i64 v0.1.C, i64 v0.1.D]) [(1000, ⟨true, 0, [.sl false 1 v0.2.1.length ((eU8).f v0.2.1), i64 v0.2.2.1, i64 v0.2.2.2]⟩)]), (4, .call [] [] (bl v1) [])] (ocons (Tspec_l3Draw (Y := Y) n (b1000_0, b1000_1, b1000_2) _ hv0) (ocons (Tspec_l6With (Y := Y) n t1 v0.1 _ hv1) onil)) h (by kernel_rfl) (fun h => ?_) (fun h => ?_)
    · obtain ⟨v2, hv2, h⟩ := bind_some h
      obtain ⟨v3, hv3, h⟩ := bind_some h
      exact x_to 7 [(2, .call [] [] (.agg [i64 v2.A, i64 v2.B, i64 v2.C, i64 v2.D]) []), (0, .call [] [] (bl v3) [])] (ocons (Tspec_l3Flip (Y := Y) v0.1 _ hv2) (ocons (Tspec_l6With (Y := Y) n t1 v2 _ hv3) onil)) (Tspec_l8Grow_1 n self rec0 t1 t2 b6_0 b6_1 b6_2 b6_3 b6_4 hself hrec0 t7 (!v3) v0.1.A v0.1.B v0.1.C v0.1.D v0.2.1 v0.2.2.1 v0.2.2.2 r h) (by kernel_rfl)
    · exact x_to 16 [] onil (hrec0 (w64 (t7 + 1), v0.2.1, v0.2.2.1, v0.2.2.2) r h) (by kernel_rfl)
  · exact x_to 2 [] onil (Tspec_l8Grow_2 n self hself b6_0 b6_1 b6_2 b6_3 b6_4 b1000_0 b1000_1 b1000_2 r h) (by kernel_rfl)
def Dspec_l8Grow_3 (n : Nat) (self : (((List Int) × Int × Int) × (List Pl) × Int) → Option (Sol × ((List Int) × Int × Int))) (t1 : List Pl) (t2 : Int) (b6_0 : Bool) (b6_1 b6_2 b6_3 b6_4 : Int) (rec0 : (Int × List Int × Int × Int) → Option (Sol × ((List Int) × Int × Int))) (a : (Int × List Int × Int × Int)) : Option (Sol × ((List Int) × Int × Int)) :=
  match a with
  | (t7, b1000_0, b1000_1, b1000_2) => frk (decide (t7 < 3)) (Dspec_l8Grow_0 n self rec0 t1 t2 b6_0 b6_1 b6_2 b6_3 b6_4 t7 (decide (t2 > 0)) b1000_0 b1000_1 b1000_2) (Dspec_l8Grow_2 n self b6_0 b6_1 b6_2 b6_3 b6_4 b1000_0 b1000_1 b1000_2)
theorem Tspec_l8Grow_3 {Y} (n : Nat) (self : (((List Int) × Int × Int) × (List Pl) × Int) → Option (Sol × ((List Int) × Int × Int))) (hself : ∀ (a : (((List Int) × Int × Int) × (List Pl) × Int)) (r : (Sol × ((List Int) × Int × Int))), self a = some r → Big Tryz.prog H Y (.call 45 [.ptr 1000 0, .sl false 4 a.2.1.length ((ePl).f a.2.1), i64 a.2.2] (lk [(1000, ⟨true, 0, [.sl false 1 a.1.1.length ((eU8).f a.1.1), i64 a.1.2.1, i64 a.1.2.2]⟩)]) (.agg [bl r.1.inn, i64 r.1.pl.A, i64 r.1.pl.B, i64 r.1.pl.C, i64 r.1.pl.D, .sl true 6 r.1.kids.length ((eSol true).f r.1.kids)]) (lk [(1000, ⟨true, 0, [.sl false 1 r.2.1.length ((eU8).f r.2.1), i64 r.2.2.1, i64 r.2.2.2]⟩)]))) (t1 : List Pl) (t2 : Int) (b6_0 : Bool) (b6_1 b6_2 b6_3 b6_4 : Int) : ∀ (m : Nat) (a : (Int × List Int × Int × Int)) (r : (Sol × ((List Int) × Int × Int))), loopN (Dspec_l8Grow_3 n self t1 t2 b6_0 b6_1 b6_2 b6_3 b6_4) m a = some r → Wk Tryz.prog H Y 45 [.code (cp [1, 0, 1, 0] (bodyOf Tryz.f45)), .blk 0, .code (cp [1, 1] (bodyOf Tryz.f45))] (FinX Tryz.prog Tryz.f45 [(1000, ⟨true, 0, [.bad, .bad, .bad]⟩)] (.agg [bl r.1.inn, i64 r.1.pl.A, i64 r.1.pl.B, i64 r.1.pl.C, i64 r.1.pl.D, .sl true 6 r.1.kids.length ((eSol true).f r.1.kids)]) [(1000, ⟨true, 0, [.sl false 1 r.2.1.length ((eU8).f r.2.1), i64 r.2.2.1, i64 r.2.2.2]⟩)]) ⟨[(0, .ptr 1000 0), (1, .sl false 4 t1.length ((ePl).f t1)), (2, i64 t2), (6, .ptr 6 0), (7, i64 a.1)], [(6, ⟨true, 0, [bl b6_0, i64 b6_1, i64 b6_2, i64 b6_3, i64 b6_4, .nil]⟩), (1000, ⟨true, 0, [.sl false 1 a.2.1.length ((eU8).f a.2.1), i64 a.2.2.1, i64 a.2.2.2]⟩)]⟩ := by
  refine loopN_ind (fun rec0 hrec0 a r h => ?_)
  obtain ⟨t7, b1000_0, b1000_1, b1000_2⟩ := a
  unfold Dspec_l8Grow_3 at h
  refine x_frk 7 [] onil h (by kernel_rfl) (fun h => ?_) (fun h => ?_)
  · exact x_to 4 [] onil (Tspec_l8Grow_0 n self rec0 t1 t2 b6_0 b6_1 b6_2 b6_3 b6_4 hself hrec0 t7 (decide (t2 > 0)) b1000_0 b1000_1 b1000_2 r h) (by kernel_rfl)
  · exact x_to 7 [] onil (Tspec_l8Grow_2 n self hself b6_0 b6_1 b6_2 b6_3 b6_4 b1000_0 b1000_1 b1000_2 r h) (by kernel_rfl)
def Dspec_l8Grow_b (n : Nat) (self : (((List Int) × Int × Int) × (List Pl) × Int) → Option (Sol × ((List Int) × Int × Int))) (a : (((List Int) × Int × Int) × (List Pl) × Int)) : Option (Sol × ((List Int) × Int × Int)) :=
  match a with
  | (a0, a1, a2) => loopN (Dspec_l8Grow_3 n self a1 a2 false 0 0 0 0) n (0, a0.1, a0.2.1, a0.2.2)
def Dspec_l8Grow (n : Nat) (a0 : ((List Int) × Int × Int)) (a1 : (List Pl)) (a2 : Int) : Option (Sol × ((List Int) × Int × Int)) := loopN (Dspec_l8Grow_b n) n (a0, a1, a2)
theorem Tspec_l8Grow_b {Y} (n : Nat) : ∀ (m : Nat) (a : (((List Int) × Int × Int) × (List Pl) × Int)) (r : (Sol × ((List Int) × Int × Int))), loopN (Dspec_l8Grow_b n) m a = some r → ∀ (_ : Unit), Big Tryz.prog H Y (.call 45 [.ptr 1000 0, .sl false 4 a.2.1.length ((ePl).f a.2.1), i64 a.2.2] (lk [(1000, ⟨true, 0, [.sl false 1 a.1.1.length ((eU8).f a.1.1), i64 a.1.2.1, i64 a.1.2.2]⟩)]) (.agg [bl r.1.inn, i64 r.1.pl.A, i64 r.1.pl.B, i64 r.1.pl.C, i64 r.1.pl.D, .sl true 6 r.1.kids.length ((eSol true).f r.1.kids)]) (lk [(1000, ⟨true, 0, [.sl false 1 r.2.1.length ((eU8).f r.2.1), i64 r.2.2.1, i64 r.2.2.2]⟩)])) := by
  refine loopN_ind (fun self hs a r h => ?_)
  have hself : ∀ (a : (((List Int) × Int × Int) × (List Pl) × Int)) (r : (Sol × ((List Int) × Int × Int))), self a = some r → Big Tryz.prog H Y (.call 45 [.ptr 1000 0, .sl false 4 a.2.1.length ((ePl).f a.2.1), i64 a.2.2] (lk [(1000, ⟨true, 0, [.sl false 1 a.1.1.length ((eU8).f a.1.1), i64 a.1.2.1, i64 a.1.2.2]⟩)]) (.agg [bl r.1.inn, i64 r.1.pl.A, i64 r.1.pl.B, i64 r.1.pl.C, i64 r.1.pl.D, .sl true 6 r.1.kids.length ((eSol true).f r.1.kids)]) (lk [(1000, ⟨true, 0, [.sl false 1 r.2.1.length ((eU8).f r.2.1), i64 r.2.2.1, i64 r.2.2.2]⟩)])) := fun a r h => hs a r h ()
  intro _
  obtain ⟨a0, a1, a2⟩ := a
  unfold Dspec_l8Grow_b at h
  refine x_call (fn := Tryz.f45) (c := bodyOf Tryz.f45) (bs0 := [(1000, ⟨true, 0, [.bad, .bad, .bad]⟩)]) Tryz.func45 (by kernel_rfl) (by kernel_rfl) ?_
  exact x_to 10 [] onil (Tspec_l8Grow_3 n self hself a1 a2 false 0 0 0 0 n (0, a0.1, a0.2.1, a0.2.2) r h) (by kernel_rfl)
theorem Tspec_l8Grow {Y} (n : Nat) (a0 : ((List Int) × Int × Int)) (a1 : (List Pl)) (a2 : Int) (r : (Sol × ((List Int) × Int × Int))) (h : Dspec_l8Grow n a0 a1 a2 = some r) : Big Tryz.prog H Y (.call 45 [.ptr 1000 0, .sl false 4 a1.length ((ePl).f a1), i64 a2] (lk [(1000, ⟨true, 0, [.sl false 1 a0.1.length ((eU8).f a0.1), i64 a0.2.1, i64 a0.2.2]⟩)]) (.agg [bl r.1.inn, i64 r.1.pl.A, i64 r.1.pl.B, i64 r.1.pl.C, i64 r.1.pl.D, .sl true 6 r.1.kids.length ((eSol true).f r.1.kids)]) (lk [(1000, ⟨true, 0, [.sl false 1 r.2.1.length ((eU8).f r.2.1), i64 r.2.2.1, i64 r.2.2.2]⟩)])) := Tspec_l8Grow_b n n (a0, a1, a2) r h ()
/-! spec.l6Cell -/
def Dspec_l6Cell_1 (n : Nat) (rec0 : (Int × List Pl × List Int × Int × Int) → Option ((List Pl) × ((List Int) × Int × Int))) (a : (Int × List Pl × List Int × Int × Int)) : Option ((List Pl) × ((List Int) × Int × Int)) :=
  match a with
  | (t7, l29, b1000_0, b1000_1, b1000_2) => frk (decide (t7 > 0)) ((Dspec_l3Draw n (b1000_0, b1000_1, b1000_2)).bind fun v3 => (Dspec_l6With n l29 v3.1).bind fun v4 => frk (!v4) (chk (apB 32 (l29.length + 1)) (rec0 (w64 (t7 - 1), (l29 ++ [v3.1]), v3.2.1, v3.2.2.1, v3.2.2.2))) (rec0 (w64 (t7 - 1), l29, v3.2.1, v3.2.2.1, v3.2.2.2))) (some (l29, (b1000_0, b1000_1, b1000_2)))
theorem Tspec_l6Cell_1 {Y} (n : Nat) : ∀ (m : Nat) (a : (Int × List Pl × List Int × Int × Int)) (r : ((List Pl) × ((List Int) × Int × Int))), loopN (Dspec_l6Cell_1 n) m a = some r → Wk Tryz.prog H Y 49 [.code (cp [1, 1, 1, 0, 1, 0] (bodyOf Tryz.f49)), .blk 0, .code (cp [1, 1, 1, 1] (bodyOf Tryz.f49))] (FinX Tryz.prog Tryz.f49 [(1000, ⟨true, 0, [.bad, .bad, .bad]⟩)] (.sl true 4 r.1.length ((ePl).f r.1)) [(1000, ⟨true, 0, [.sl false 1 r.2.1.length ((eU8).f r.2.1), i64 r.2.2.1, i64 r.2.2.2]⟩)]) ⟨[(0, .ptr 1000 0), (5, .msl 29 a.2.1.length), (7, i64 a.1)], [(29, ⟨true, 4, (ePl).f a.2.1⟩), (1000, ⟨true, 0, [.sl false 1 a.2.2.1.length ((eU8).f a.2.2.1), i64 a.2.2.2.1, i64 a.2.2.2.2]⟩)]⟩ := by
  refine loopN_ind (fun _rec0 hrec0 a r h => ?_)
  obtain ⟨t7, l29, b1000_0, b1000_1, b1000_2⟩ := a
  unfold Dspec_l6Cell_1 at h
  refine x_frk 7 [] onil h (by kernel_rfl) (fun h => ?_) (fun h => ?_)
  · obtain ⟨v3, hv3, h⟩ := bind_some h
    obtain ⟨v4, hv4, h⟩ := bind_some h
    refine x_frk 17 [(1, .call [] [] (.agg [i64 v3.1.A, i64 v3.1.B, i64 v3.1.C, i64 v3.1.D]) [(1000, ⟨true, 0, [.sl false 1 v3.2.1.length ((eU8).f v3.2.1), i64 v3.2.2.1, i64 v3.2.2.2]⟩)]), (4, .call [] [(ePl).f l29] (bl v4) [])] (ocons (Tspec_l3Draw (Y := Y) n (b1000_0, b1000_1, b1000_2) _ hv3) (ocons (Tspec_l6With (Y := Y) n l29 v3.1 _ hv4) (ocons (len_row (L := l29) ePl) (ocons (Enc.share ePl ePl sPl l29) onil)))) h (by kernel_rfl) (fun h => ?_) (fun h => ?_)
    · obtain ⟨c5, h⟩ := chk_some h
      exact x_to 15 [(3, .app false (List.length (l29 ++ [v3.1])) ((ePl).f (l29 ++ [v3.1]))), (4, .ren 46 29)] (ocons (len_row' (L := l29) ePl) (ocons (app_one (L := l29) (M := [v3.1]) ePl c5) (ocons (app_new (L := l29) (M := [v3.1]) ePl) (ocons (app_m (L := l29) (M := [v3.1]) ePl rfl) (ocons (len_row' (L := [v3.1]) ePl) (ocons (Enc.noOwn ePl (fun _ => rfl) [v3.1]) (ocons (show 46 < 1000 ∧ 29 < 1000 by decide) onil))))))) (hrec0 (w64 (t7 - 1), (l29 ++ [v3.1]), v3.2.1, v3.2.2.1, v3.2.2.2) r h) (by kernel_rfl)
    · exact x_to 8 [] onil (hrec0 (w64 (t7 - 1), l29, v3.2.1, v3.2.2.1, v3.2.2.2) r h) (by kernel_rfl)
  · replace h := Option.some.inj h; subst h
    exact x_end 6 [] [] onil (ocons (len_row (L := l29) ePl) onil) (by kernel_rfl)
def Dspec_l6Cell_0 (n : Nat) (t1 : Int) (l29 : List Pl) (b1000_0 : List Int) (b1000_1 b1000_2 : Int) : Option ((List Pl) × ((List Int) × Int × Int)) :=
  (Dspec_l1Below (b1000_0, b1000_1, b1000_2) t1).bind fun v2 => loopN (Dspec_l6Cell_1 n) n (v2.1, l29, v2.2.1, v2.2.2.1, v2.2.2.2)
theorem Tspec_l6Cell_0 {Y} (n : Nat) (t1 : Int) (l29 : List Pl) (b1000_0 : List Int) (b1000_1 b1000_2 : Int) (r : ((List Pl) × ((List Int) × Int × Int))) (h : Dspec_l6Cell_0 n t1 l29 b1000_0 b1000_1 b1000_2 = some r) : Wk Tryz.prog H Y 49 [.code (cp [1, 1, 1, 0, 0] (bodyOf Tryz.f49)), .code (cp [1, 1, 1, 0, 1] (bodyOf Tryz.f49)), .code (cp [1, 1, 1, 1] (bodyOf Tryz.f49))] (FinX Tryz.prog Tryz.f49 [(1000, ⟨true, 0, [.bad, .bad, .bad]⟩)] (.sl true 4 r.1.length ((ePl).f r.1)) [(1000, ⟨true, 0, [.sl false 1 r.2.1.length ((eU8).f r.2.1), i64 r.2.2.1, i64 r.2.2.2]⟩)]) ⟨[(0, .ptr 1000 0), (1, i64 t1), (5, .msl 29 l29.length)], [(29, ⟨true, 4, (ePl).f l29⟩), (1000, ⟨true, 0, [.sl false 1 b1000_0.length ((eU8).f b1000_0), i64 b1000_1, i64 b1000_2]⟩)]⟩ := by
  unfold Dspec_l6Cell_0 at h
  obtain ⟨v2, hv2, h⟩ := bind_some h
  exact x_to 7 [(2, .call [] [] (i64 v2.1) [(1000, ⟨true, 0, [.sl false 1 v2.2.1.length ((eU8).f v2.2.1), i64 v2.2.2.1, i64 v2.2.2.2]⟩)])] (ocons (Tspec_l1Below (Y := Y) (b1000_0, b1000_1, b1000_2) t1 _ hv2) onil) (Tspec_l6Cell_1 n n (v2.1, l29, v2.2.1, v2.2.2.1, v2.2.2.2) r h) (by kernel_rfl)
def Dspec_l6Cell_3 (n : Nat) (rec0 : (Int × List Pl × List Int × Int × Int) → Option ((List Pl) × ((List Int) × Int × Int))) (a : (Int × List Pl × List Int × Int × Int)) : Option ((List Pl) × ((List Int) × Int × Int)) :=
  match a with
  | (t7, l9, b1000_0, b1000_1, b1000_2) => frk (decide (t7 > 0)) ((Dspec_l3Draw n (b1000_0, b1000_1, b1000_2)).bind fun v7 => (Dspec_l6With n l9 v7.1).bind fun v8 => frk (!v8) (chk (apB 32 (l9.length + 1)) (rec0 (w64 (t7 - 1), (l9 ++ [v7.1]), v7.2.1, v7.2.2.1, v7.2.2.2))) (rec0 (w64 (t7 - 1), l9, v7.2.1, v7.2.2.1, v7.2.2.2))) (some (l9, (b1000_0, b1000_1, b1000_2)))
theorem Tspec_l6Cell_3 {Y} (n : Nat) : ∀ (m : Nat) (a : (Int × List Pl × List Int × Int × Int)) (r : ((List Pl) × ((List Int) × Int × Int))), loopN (Dspec_l6Cell_3 n) m a = some r → Wk Tryz.prog H Y 49 [.code (cp [1, 1, 1, 0, 1, 0] (bodyOf Tryz.f49)), .blk 0, .code (cp [1, 1, 1, 1] (bodyOf Tryz.f49))] (FinX Tryz.prog Tryz.f49 [(1000, ⟨true, 0, [.bad, .bad, .bad]⟩)] (.sl true 4 r.1.length ((ePl).f r.1)) [(1000, ⟨true, 0, [.sl false 1 r.2.1.length ((eU8).f r.2.1), i64 r.2.2.1, i64 r.2.2.2]⟩)]) ⟨[(0, .ptr 1000 0), (5, .msl 9 a.2.1.length), (7, i64 a.1)], [(9, ⟨true, 4, (ePl).f a.2.1⟩), (1000, ⟨true, 0, [.sl false 1 a.2.2.1.length ((eU8).f a.2.2.1), i64 a.2.2.2.1, i64 a.2.2.2.2]⟩)]⟩ := by
  refine loopN_ind (fun _rec0 hrec0 a r h => ?_)
  obtain ⟨t7, l9, b1000_0, b1000_1, b1000_2⟩ := a
  unfold Dspec_l6Cell_3 at h
  refine x_frk 7 [] onil h (by kernel_rfl) (fun h => ?_) (fun h => ?_)
  · obtain ⟨v7, hv7, h⟩ := bind_some h
    obtain ⟨v8, hv8, h⟩ := bind_some h
    refine x_frk 17 [(1, .call [] [] (.agg [i64 v7.1.A, i64 v7.1.B, i64 v7.1.C, i64 v7.1.D]) [(1000, ⟨true, 0, [.sl false 1 v7.2.1.length ((eU8).f v7.2.1), i64 v7.2.2.1, i64 v7.2.2.2]⟩)]), (4, .call [] [(ePl).f l9] (bl v8) [])] (ocons (Tspec_l3Draw (Y := Y) n (b1000_0, b1000_1, b1000_2) _ hv7) (ocons (Tspec_l6With (Y := Y) n l9 v7.1 _ hv8) (ocons (len_row (L := l9) ePl) (ocons (Enc.share ePl ePl sPl l9) onil)))) h (by kernel_rfl) (fun h => ?_) (fun h => ?_)
    · obtain ⟨c9, h⟩ := chk_some h
      exact x_to 15 [(3, .app false (List.length (l9 ++ [v7.1])) ((ePl).f (l9 ++ [v7.1]))), (4, .ren 46 9)] (ocons (len_row' (L := l9) ePl) (ocons (app_one (L := l9) (M := [v7.1]) ePl c9) (ocons (app_new (L := l9) (M := [v7.1]) ePl) (ocons (app_m (L := l9) (M := [v7.1]) ePl rfl) (ocons (len_row' (L := [v7.1]) ePl) (ocons (Enc.noOwn ePl (fun _ => rfl) [v7.1]) (ocons (show 46 < 1000 ∧ 9 < 1000 by decide) onil))))))) (hrec0 (w64 (t7 - 1), (l9 ++ [v7.1]), v7.2.1, v7.2.2.1, v7.2.2.2) r h) (by kernel_rfl)
    · exact x_to 8 [] onil (hrec0 (w64 (t7 - 1), l9, v7.2.1, v7.2.2.1, v7.2.2.2) r h) (by kernel_rfl)
  · replace h := Option.some.inj h; subst h
    exact x_end 6 [] [] onil (ocons (len_row (L := l9) ePl) onil) (by kernel_rfl)
def Dspec_l6Cell_2 (n : Nat) (t1 : Int) (l9 : List Pl) (b1000_0 : List Int) (b1000_1 b1000_2 : Int) : Option ((List Pl) × ((List Int) × Int × Int)) :=
  (Dspec_l1Below (b1000_0, b1000_1, b1000_2) t1).bind fun v6 => loopN (Dspec_l6Cell_3 n) n (v6.1, l9, v6.2.1, v6.2.2.1, v6.2.2.2)
theorem Tspec_l6Cell_2 {Y} (n : Nat) (t1 : Int) (l9 : List Pl) (b1000_0 : List Int) (b1000_1 b1000_2 : Int) (r : ((List Pl) × ((List Int) × Int × Int))) (h : Dspec_l6Cell_2 n t1 l9 b1000_0 b1000_1 b1000_2 = some r) : Wk Tryz.prog H Y 49 [.code (cp [1, 1, 1, 0, 0] (bodyOf Tryz.f49)), .code (cp [1, 1, 1, 0, 1] (bodyOf Tryz.f49)), .code (cp [1, 1, 1, 1] (bodyOf Tryz.f49))] (FinX Tryz.prog Tryz.f49 [(1000, ⟨true, 0, [.bad, .bad, .bad]⟩)] (.sl true 4 r.1.length ((ePl).f r.1)) [(1000, ⟨true, 0, [.sl false 1 r.2.1.length ((eU8).f r.2.1), i64 r.2.2.1, i64 r.2.2.2]⟩)]) ⟨[(0, .ptr 1000 0), (1, i64 t1), (5, .msl 9 l9.length)], [(9, ⟨true, 4, (ePl).f l9⟩), (1000, ⟨true, 0, [.sl false 1 b1000_0.length ((eU8).f b1000_0), i64 b1000_1, i64 b1000_2]⟩)]⟩ := by
  unfold Dspec_l6Cell_2 at h
  obtain ⟨v6, hv6, h⟩ := bind_some h
  exact x_to 7 [(2, .call [] [] (i64 v6.1) [(1000, ⟨true, 0, [.sl false 1 v6.2.1.length ((eU8).f v6.2.1), i64 v6.2.2.1, i64 v6.2.2.2]⟩)])] (ocons (Tspec_l1Below (Y := Y) (b1000_0, b1000_1, b1000_2) t1 _ hv6) onil) (Tspec_l6Cell_3 n n (v6.1, l9, v6.2.1, v6.2.2.1, v6.2.2.2) r h) (by kernel_rfl)
def Dspec_l6Cell (n : Nat) (a0 : ((List Int) × Int × Int)) (a1 : Int) : Option ((List Pl) × ((List Int) × Int × Int)) :=
  (Dspec_l1Once a0 4).bind fun v0 => frk (!v0.1) ((Dspec_l1Below v0.2 5).bind fun v1 => Dspec_l6Cell_0 n a1 [(Pl.mk 1 0 0 (w64 (1 + v1.1))), (Pl.mk (-1) 0 0 (w64 (1 + v1.1))), (Pl.mk 0 1 0 (w64 (1 + v1.1))), (Pl.mk 0 (-1) 0 (w64 ((w64 (1 + v1.1)) + 1))), (Pl.mk 0 0 1 (w64 (1 + v1.1))), (Pl.mk 0 0 (-1) (w64 (1 + v1.1)))] v1.2.1 v1.2.2.1 v1.2.2.2) (Dspec_l6Cell_2 n a1 [] v0.2.1 v0.2.2.1 v0.2.2.2)
theorem Tspec_l6Cell {Y} (n : Nat) (a0 : ((List Int) × Int × Int)) (a1 : Int) (r : ((List Pl) × ((List Int) × Int × Int))) (h : Dspec_l6Cell n a0 a1 = some r) : Big Tryz.prog H Y (.call 49 [.ptr 1000 0, i64 a1] (lk [(1000, ⟨true, 0, [.sl false 1 a0.1.length ((eU8).f a0.1), i64 a0.2.1, i64 a0.2.2]⟩)]) (.sl true 4 r.1.length ((ePl).f r.1)) (lk [(1000, ⟨true, 0, [.sl false 1 r.2.1.length ((eU8).f r.2.1), i64 r.2.2.1, i64 r.2.2.2]⟩)])) := by
  unfold Dspec_l6Cell at h
  refine x_call (fn := Tryz.f49) (c := bodyOf Tryz.f49) (bs0 := [(1000, ⟨true, 0, [.bad, .bad, .bad]⟩)]) Tryz.func49 (by kernel_rfl) (by kernel_rfl) ?_
  obtain ⟨v0, hv0, h⟩ := bind_some h
  refine x_frk 16 [(4, .call [] [] (bl v0.1) [(1000, ⟨true, 0, [.sl false 1 v0.2.1.length ((eU8).f v0.2.1), i64 v0.2.2.1, i64 v0.2.2.2]⟩)])] (ocons (Tspec_l1Once (Y := Y) a0 4 _ hv0) onil) h (by kernel_rfl) (fun h => ?_) (fun h => ?_)
  · obtain ⟨v1, hv1, h⟩ := bind_some h
    exact x_to 26 [(1, .call [] [] (i64 v1.1) [(1000, ⟨true, 0, [.sl false 1 v1.2.1.length ((eU8).f v1.2.1), i64 v1.2.2.1, i64 v1.2.2.2]⟩)])] (ocons (Tspec_l1Below (Y := Y) v0.2 5 _ hv1) onil) (Tspec_l6Cell_0 n a1 [(Pl.mk 1 0 0 (w64 (1 + v1.1))), (Pl.mk (-1) 0 0 (w64 (1 + v1.1))), (Pl.mk 0 1 0 (w64 (1 + v1.1))), (Pl.mk 0 (-1) 0 (w64 ((w64 (1 + v1.1)) + 1))), (Pl.mk 0 0 1 (w64 (1 + v1.1))), (Pl.mk 0 0 (-1) (w64 (1 + v1.1)))] v1.2.1 v1.2.2.1 v1.2.2.2 r h) (by kernel_rfl)
  · exact x_to 3 [] onil (Tspec_l6Cell_2 n a1 [] v0.2.1 v0.2.2.1 v0.2.2.2 r h) (by kernel_rfl)
/-! spec.l3In -/
def Dspec_l3In (a0 : Pl) : Option Bool :=
  (Dspec_l1In a0.A (-500) 500).bind fun v0 => frk v0 ((Dspec_l1In a0.B (-500) 500).bind fun v1 => frk v1 ((Dspec_l1In a0.C (-500) 500).bind fun v2 => frk v2 ((Dspec_l1In a0.D (-500) 500).bind fun v3 => some v3) (some false)) (some false)) (some false)
theorem Tspec_l3In {Y} (a0 : Pl) (r : Bool) (h : Dspec_l3In a0 = some r) : Big Tryz.prog H Y (.call 133 [.agg [i64 a0.A, i64 a0.B, i64 a0.C, i64 a0.D]] (lk []) (bl r) (lk [])) := by
  unfold Dspec_l3In at h
  refine x_call (fn := Tryz.f133) (c := bodyOf Tryz.f133) (bs0 := []) Tryz.func133 (by kernel_rfl) (by kernel_rfl) ?_
  obtain ⟨v0, hv0, h⟩ := bind_some h
  refine x_frk 18 [(8, .call [] [] (bl v0) [])] (ocons (Tspec_l1In (Y := Y) a0.A (-500) 500 _ hv0) onil) h (by kernel_rfl) (fun h => ?_) (fun h => ?_)
  · obtain ⟨v1, hv1, h⟩ := bind_some h
    refine x_frk 8 [(5, .call [] [] (bl v1) [])] (ocons (Tspec_l1In (Y := Y) a0.B (-500) 500 _ hv1) onil) h (by kernel_rfl) (fun h => ?_) (fun h => ?_)
    · obtain ⟨v2, hv2, h⟩ := bind_some h
      refine x_frk 8 [(5, .call [] [] (bl v2) [])] (ocons (Tspec_l1In (Y := Y) a0.C (-500) 500 _ hv2) onil) h (by kernel_rfl) (fun h => ?_) (fun h => ?_)
      · obtain ⟨v3, hv3, h⟩ := bind_some h
        replace h := Option.some.inj h; subst h
        exact x_end 9 [(5, .call [] [] (bl v3) [])] [] (ocons (Tspec_l1In (Y := Y) a0.D (-500) 500 _ hv3) onil) onil (by kernel_rfl)
      · replace h := Option.some.inj h; subst h
        exact x_end 9 [] [] onil onil (by kernel_rfl)
    · replace h := Option.some.inj h; subst h
      exact x_end 17 [] [] onil onil (by kernel_rfl)
  · replace h := Option.some.inj h; subst h
    exact x_end 25 [] [] onil onil (by kernel_rfl)
/-! spec.l3Gcd -/
def Dspec_l3Gcd_0 (_n : Nat) (rec0 : (Int × Int) → Option Int) (a : (Int × Int)) : Option Int :=
  match a with
  | (t0, t1) => frk (decide (t1 > 0)) ((rm .i64 t0 t1).bind fun v2 => rec0 (t1, v2)) (some t0)
theorem Tspec_l3Gcd_0 {Y} (n : Nat) : ∀ (m : Nat) (a : (Int × Int)) (r : Int), loopN (Dspec_l3Gcd_0 n) m a = some r → Wk Tryz.prog H Y 132 [.code (cp [1, 1, 1, 0, 0] (bodyOf Tryz.f132)), .blk 0, .code (cp [1, 1, 1, 1] (bodyOf Tryz.f132))] (FinX Tryz.prog Tryz.f132 [] (i64 r) []) ⟨[(0, i64 a.1), (1, i64 a.2)], []⟩ := by
  refine loopN_ind (fun _rec0 hrec0 a r h => ?_)
  obtain ⟨_t0, t1⟩ := a
  unfold Dspec_l3Gcd_0 at h
  refine x_frk 7 [] onil h (by kernel_rfl) (fun h => ?_) (fun h => ?_)
  · obtain ⟨v2, hv2, h⟩ := bind_some h
    exact x_to 20 [(2, .val (i64 v2))] (ocons (rmOk hv2) onil) (hrec0 (t1, v2) r h) (by kernel_rfl)
  · replace h := Option.some.inj h; subst h
    exact x_end 6 [] [] onil onil (by kernel_rfl)
def Dspec_l3Gcd (n : Nat) (a0 a1 : Int) : Option Int :=
  (Dspec_l3Abs a0).bind fun v0 => (Dspec_l3Abs a1).bind fun v1 => loopN (Dspec_l3Gcd_0 n) n (v0, v1)
theorem Tspec_l3Gcd {Y} (n : Nat) (a0 a1 r : Int) (h : Dspec_l3Gcd n a0 a1 = some r) : Big Tryz.prog H Y (.call 132 [i64 a0, i64 a1] (lk []) (i64 r) (lk [])) := by
  unfold Dspec_l3Gcd at h
  refine x_call (fn := Tryz.f132) (c := bodyOf Tryz.f132) (bs0 := []) Tryz.func132 (by kernel_rfl) (by kernel_rfl) ?_
  obtain ⟨v0, hv0, h⟩ := bind_some h
  obtain ⟨v1, hv1, h⟩ := bind_some h
  exact x_to 18 [(2, .call [] [] (i64 v0) []), (2, .call [] [] (i64 v1) [])] (ocons (Tspec_l3Abs (Y := Y) a0 _ hv0) (ocons (Tspec_l3Abs (Y := Y) a1 _ hv1) onil)) (Tspec_l3Gcd_0 n n (v0, v1) r h) (by kernel_rfl)
/-! spec.PlaneOk -/
def Dspec_PlaneOk (n : Nat) (a0 : Pl) : Option Bool :=
  (Dspec_l3In a0).bind fun v0 => frk v0 (frk (a0.A != 0) ((Dspec_l3Gcd n a0.A a0.B).bind fun v1 => (Dspec_l3Gcd n a0.C a0.D).bind fun v2 => (Dspec_l3Gcd n v1 v2).bind fun v3 => some (v3 == 1)) (frk (a0.B != 0) ((Dspec_l3Gcd n a0.A a0.B).bind fun v4 => (Dspec_l3Gcd n a0.C a0.D).bind fun v5 => (Dspec_l3Gcd n v4 v5).bind fun v6 => some (v6 == 1)) (frk (a0.C != 0) ((Dspec_l3Gcd n a0.A a0.B).bind fun v7 => (Dspec_l3Gcd n a0.C a0.D).bind fun v8 => (Dspec_l3Gcd n v7 v8).bind fun v9 => some (v9 == 1)) (some false)))) (some false)
theorem Tspec_PlaneOk {Y} (n : Nat) (a0 : Pl) (r : Bool) (h : Dspec_PlaneOk n a0 = some r) : Big Tryz.prog H Y (.call 89 [.agg [i64 a0.A, i64 a0.B, i64 a0.C, i64 a0.D]] (lk []) (bl r) (lk [])) := by
  unfold Dspec_PlaneOk at h
  refine x_call (fn := Tryz.f89) (c := bodyOf Tryz.f89) (bs0 := []) Tryz.func89 (by kernel_rfl) (by kernel_rfl) ?_
  obtain ⟨v0, hv0, h⟩ := bind_some h
  refine x_frk 10 [(3, .call [] [] (bl v0) [])] (ocons (Tspec_l3In (Y := Y) a0 _ hv0) onil) h (by kernel_rfl) (fun h => ?_) (fun h => ?_)
  · refine x_frk 4 [] onil h (by kernel_rfl) (fun h => ?_) (fun h => ?_)
    · obtain ⟨v1, hv1, h⟩ := bind_some h
      obtain ⟨v2, hv2, h⟩ := bind_some h
      obtain ⟨v3, hv3, h⟩ := bind_some h
      replace h := Option.some.inj h; subst h
      exact x_end 26 [(15, .call [] [] (i64 v1) []), (4, .call [] [] (i64 v2) []), (0, .call [] [] (i64 v3) [])] [] (ocons (Tspec_l3Gcd (Y := Y) n a0.A a0.B _ hv1) (ocons (Tspec_l3Gcd (Y := Y) n a0.C a0.D _ hv2) (ocons (Tspec_l3Gcd (Y := Y) n v1 v2 _ hv3) onil))) onil (by kernel_rfl)
    · refine x_frk 5 [] onil h (by kernel_rfl) (fun h => ?_) (fun h => ?_)
      · obtain ⟨v4, hv4, h⟩ := bind_some h
        obtain ⟨v5, hv5, h⟩ := bind_some h
        obtain ⟨v6, hv6, h⟩ := bind_some h
        replace h := Option.some.inj h; subst h
        exact x_end 21 [(10, .call [] [] (i64 v4) []), (4, .call [] [] (i64 v5) []), (0, .call [] [] (i64 v6) [])] [] (ocons (Tspec_l3Gcd (Y := Y) n a0.A a0.B _ hv4) (ocons (Tspec_l3Gcd (Y := Y) n a0.C a0.D _ hv5) (ocons (Tspec_l3Gcd (Y := Y) n v4 v5 _ hv6) onil))) onil (by kernel_rfl)
      · refine x_frk 6 [] onil h (by kernel_rfl) (fun h => ?_) (fun h => ?_)
        · obtain ⟨v7, hv7, h⟩ := bind_some h
          obtain ⟨v8, hv8, h⟩ := bind_some h
          obtain ⟨v9, hv9, h⟩ := bind_some h
          replace h := Option.some.inj h; subst h
          exact x_end 15 [(4, .call [] [] (i64 v7) []), (4, .call [] [] (i64 v8) []), (0, .call [] [] (i64 v9) [])] [] (ocons (Tspec_l3Gcd (Y := Y) n a0.A a0.B _ hv7) (ocons (Tspec_l3Gcd (Y := Y) n a0.C a0.D _ hv8) (ocons (Tspec_l3Gcd (Y := Y) n v7 v8 _ hv9) onil))) onil (by kernel_rfl)
        · replace h := Option.some.inj h; subst h
          exact x_end 15 [] [] onil onil (by kernel_rfl)
  · replace h := Option.some.inj h; subst h
    exact x_end 30 [] [] onil onil (by kernel_rfl)
/-! spec.l6Right -/
def Dspec_l6Right_0 (n : Nat) (t0 : List Pl) (rec0 : Int → Option Bool) (a : Int) : Option Bool :=
  match a with
  | t3 => frk (decide (t3 < (t0.length : Int))) ((lget t0 t3).bind fun v0 => (Dspec_PlaneOk n v0).bind fun v1 => frk (!v1) (some false) (rec0 (w64 (t3 + 1)))) (some (decide ((t0.length : Int) ≤ 24)))
theorem Tspec_l6Right_0 {Y} (n : Nat) (t0 : List Pl) : ∀ (m : Nat) (a : Int) (r : Bool), loopN (Dspec_l6Right_0 n t0) m a = some r → Wk Tryz.prog H Y 98 [.code (cp [1, 0, 1, 0] (bodyOf Tryz.f98)), .blk 0, .code (cp [1, 1] (bodyOf Tryz.f98))] (FinX Tryz.prog Tryz.f98 [] (bl r) []) ⟨[(0, .sl false 4 t0.length ((ePl).f t0)), (3, i64 a)], []⟩ := by
  refine loopN_ind (fun _rec0 hrec0 a r h => ?_)
  obtain ⟨t3, rfl⟩ : ∃ x, x = a := ⟨a, rfl⟩
  unfold Dspec_l6Right_0 at h
  refine x_frk 9 [] onil h (by kernel_rfl) (fun h => ?_) (fun h => ?_)
  · obtain ⟨v0, hv0, h⟩ := bind_some h
    obtain ⟨v1, hv1, h⟩ := bind_some h
    refine x_frk 12 [(2, .val (.cptr (ePl.c v0 ++ (ePl).f ((t0).drop (Int.toNat t3 + 1))))), (1, .call [] [] (bl v1) [])] (ocons (ix ePl hv0) (ocons (Tspec_PlaneOk (Y := Y) n v0 _ hv1) onil)) h (by kernel_rfl) (fun h => ?_) (fun h => ?_)
    · replace h := Option.some.inj h; subst h
      exact x_end 4 [] [] onil onil (by kernel_rfl)
    · exact x_to 8 [] onil (hrec0 (w64 (t3 + 1)) r h) (by kernel_rfl)
  · replace h := Option.some.inj h; subst h
    exact x_end 8 [] [] onil onil (by kernel_rfl)
def Dspec_l6Right (n : Nat) (a0 : (List Pl)) : Option Bool :=
  loopN (Dspec_l6Right_0 n a0) n 0
theorem Tspec_l6Right {Y} (n : Nat) (a0 : (List Pl)) (r : Bool) (h : Dspec_l6Right n a0 = some r) : Big Tryz.prog H Y (.call 98 [.sl false 4 a0.length ((ePl).f a0)] (lk []) (bl r) (lk [])) := by
  unfold Dspec_l6Right at h
  refine x_call (fn := Tryz.f98) (c := bodyOf Tryz.f98) (bs0 := []) Tryz.func98 (by kernel_rfl) (by kernel_rfl) ?_
  exact x_to 10 [] onil (Tspec_l6Right_0 n a0 n 0 r h) (by kernel_rfl)
/-! spec.l6Open -/
def Dspec_l6Open_0 (n : Nat) (t0 : List Pl) (rec0 : Int → Option Bool) (a : Int) : Option Bool :=
  match a with
  | t3 => frk (decide (t3 < (t0.length : Int))) ((lsl t0 0 t3).bind fun v0 => (lget t0 t3).bind fun v1 => (Dspec_l6With n v0 v1).bind fun v2 => frk v2 (some false) (rec0 (w64 (t3 + 1)))) (some true)
theorem Tspec_l6Open_0 {Y} (n : Nat) (t0 : List Pl) : ∀ (m : Nat) (a : Int) (r : Bool), loopN (Dspec_l6Open_0 n t0) m a = some r → Wk Tryz.prog H Y 99 [.code (cp [1, 0, 1, 0] (bodyOf Tryz.f99)), .blk 0, .code (cp [1, 1] (bodyOf Tryz.f99))] (FinX Tryz.prog Tryz.f99 [] (bl r) []) ⟨[(0, .sl false 4 t0.length ((ePl).f t0)), (3, i64 a)], []⟩ := by
  refine loopN_ind (fun _rec0 hrec0 a r h => ?_)
  obtain ⟨t3, rfl⟩ : ∃ x, x = a := ⟨a, rfl⟩
  unfold Dspec_l6Open_0 at h
  refine x_frk 9 [] onil h (by kernel_rfl) (fun h => ?_) (fun h => ?_)
  · obtain ⟨v0, hv0, h⟩ := bind_some h
    obtain ⟨v1, hv1, h⟩ := bind_some h
    obtain ⟨v2, hv2, h⟩ := bind_some h
    refine x_frk 14 [(2, .val (.sl false 4 v0.length ((ePl).f v0))), (2, .val (.cptr (ePl.c v1 ++ (ePl).f ((t0).drop (Int.toNat t3 + 1))))), (1, .call [] [] (bl v2) [])] (ocons (slF ePl hv0) (ocons (ix ePl hv1) (ocons (Tspec_l6With (Y := Y) n v0 v1 _ hv2) onil))) h (by kernel_rfl) (fun h => ?_) (fun h => ?_)
    · replace h := Option.some.inj h; subst h
      exact x_end 4 [] [] onil onil (by kernel_rfl)
    · exact x_to 8 [] onil (hrec0 (w64 (t3 + 1)) r h) (by kernel_rfl)
  · replace h := Option.some.inj h; subst h
    exact x_end 5 [] [] onil onil (by kernel_rfl)
def Dspec_l6Open (n : Nat) (a0 : (List Pl)) : Option Bool :=
  loopN (Dspec_l6Open_0 n a0) n 1
theorem Tspec_l6Open {Y} (n : Nat) (a0 : (List Pl)) (r : Bool) (h : Dspec_l6Open n a0 = some r) : Big Tryz.prog H Y (.call 99 [.sl false 4 a0.length ((ePl).f a0)] (lk []) (bl r) (lk [])) := by
  unfold Dspec_l6Open at h
  refine x_call (fn := Tryz.f99) (c := bodyOf Tryz.f99) (bs0 := []) Tryz.func99 (by kernel_rfl) (by kernel_rfl) ?_
  exact x_to 10 [] onil (Tspec_l6Open_0 n a0 n 1 r h) (by kernel_rfl)
/-! spec.l9Convex -/
def Dspec_l9Convex_0 (_n : Nat) (self : ((List Pl) × (List Pl)) → Option Sol) (rec0 : Int → Option Sol) (t0 : List Pl) (t1 : List Pl) (_b4_0 : Bool) (_b4_1 _b4_2 _b4_3 _b4_4 t5 : Int) (t28 : Bool) : Option Sol :=
  frk t28 ((lget t0 t5).bind fun v5 => (lsl t0 (w64 (t5 + 1)) (t0.length : Int)).bind fun v6 => (lget t0 t5).bind fun v7 => (Dspec_l8Path t1 v7).bind fun v8 => (self (v6, v8)).bind fun v9 => (Dspec_Leaf false).bind fun v10 => (Dspec_l8Nodeo1o2 v5 v9 v10).bind fun v11 => some v11) (rec0 (w64 (t5 + 1)))
theorem Tspec_l9Convex_0 {Y} (n : Nat) (self : ((List Pl) × (List Pl)) → Option Sol) (rec0 : Int → Option Sol) (t0 : List Pl) (t1 : List Pl) (b4_0 : Bool) (b4_1 b4_2 b4_3 b4_4 : Int) (hself : ∀ (a : ((List Pl) × (List Pl))) (r : Sol), self a = some r → Big Tryz.prog H Y (.call 100 [.sl false 4 a.1.length ((ePl).f a.1), .sl false 4 a.2.length ((ePl).f a.2)] (lk []) (.agg [bl r.inn, i64 r.pl.A, i64 r.pl.B, i64 r.pl.C, i64 r.pl.D, .sl true 6 r.kids.length ((eSol true).f r.kids)]) (lk []))) (hrec0 : ∀ (a : Int) (r : Sol), rec0 a = some r → Wk Tryz.prog H Y 100 [.code (cp [1, 0, 1, 0] (bodyOf Tryz.f100)), .blk 0, .code (cp [1, 1] (bodyOf Tryz.f100))] (FinX Tryz.prog Tryz.f100 [] (.agg [bl r.inn, i64 r.pl.A, i64 r.pl.B, i64 r.pl.C, i64 r.pl.D, .sl true 6 r.kids.length ((eSol true).f r.kids)]) []) ⟨[(0, .sl false 4 t0.length ((ePl).f t0)), (1, .sl false 4 t1.length ((ePl).f t1)), (4, .ptr 4 0), (5, i64 a)], [(4, ⟨true, 0, [bl b4_0, i64 b4_1, i64 b4_2, i64 b4_3, i64 b4_4, .nil]⟩)]⟩) (t5 : Int) (t28 : Bool) (r : Sol) (h : Dspec_l9Convex_0 n self rec0 t0 t1 b4_0 b4_1 b4_2 b4_3 b4_4 t5 t28 = some r) : Wk Tryz.prog H Y 100 [.code (cp [1, 0, 1, 0, 0, 1, 0, 0, 1] (bodyOf Tryz.f100)), .blk 1, .code (cp [1, 0, 1, 0, 0, 1, 1] (bodyOf Tryz.f100)), .lp (cp [1, 0, 1, 0] (bodyOf Tryz.f100)), .blk 0, .code (cp [1, 1] (bodyOf Tryz.f100))] (FinX Tryz.prog Tryz.f100 [] (.agg [bl r.inn, i64 r.pl.A, i64 r.pl.B, i64 r.pl.C, i64 r.pl.D, .sl true 6 r.kids.length ((eSol true).f r.kids)]) []) ⟨[(0, .sl false 4 t0.length ((ePl).f t0)), (1, .sl false 4 t1.length ((ePl).f t1)), (4, .ptr 4 0), (5, i64 t5), (28, bl t28)], [(4, ⟨true, 0, [bl b4_0, i64 b4_1, i64 b4_2, i64 b4_3, i64 b4_4, .nil]⟩)]⟩ := by
  unfold Dspec_l9Convex_0 at h
  refine x_frk 0 [] onil h (by kernel_rfl) (fun h => ?_) (fun h => ?_)
  · obtain ⟨v5, hv5, h⟩ := bind_some h
    obtain ⟨v6, hv6, h⟩ := bind_some h
    obtain ⟨v7, hv7, h⟩ := bind_some h
    obtain ⟨v8, hv8, h⟩ := bind_some h
    obtain ⟨v9, hv9, h⟩ := bind_some h
    obtain ⟨v10, hv10, h⟩ := bind_some h
    obtain ⟨v11, hv11, h⟩ := bind_some h
    replace h := Option.some.inj h; subst h
    exact x_end 21 [(2, .val (.cptr (ePl.c v5 ++ (ePl).f ((t0).drop (Int.toNat t5 + 1))))), (4, .val (.sl false 4 v6.length ((ePl).f v6))), (3, .val (.cptr (ePl.c v7 ++ (ePl).f ((t0).drop (Int.toNat t5 + 1))))), (1, .call [] [] (.sl false 4 v8.length ((ePl).f v8)) []), (0, .call [] [] (.agg [bl v9.inn, i64 v9.pl.A, i64 v9.pl.B, i64 v9.pl.C, i64 v9.pl.D, .sl true 6 v9.kids.length ((eSol true).f v9.kids)]) []), (0, .call [] [] (.agg [bl v10.inn, i64 v10.pl.A, i64 v10.pl.B, i64 v10.pl.C, i64 v10.pl.D, .sl true 6 v10.kids.length ((eSol true).f v10.kids)]) []), (0, .call [] [] (.agg [bl v11.inn, i64 v11.pl.A, i64 v11.pl.B, i64 v11.pl.C, i64 v11.pl.D, .sl true 6 v11.kids.length ((eSol true).f v11.kids)]) [])] [] (ocons (ix ePl hv5) (ocons (slF ePl hv6) (ocons (ix ePl hv7) (ocons (shSl (L := v8) ePl ePl sPl (Tspec_l8Path (Y := Y) t1 v7 _ hv8)) (ocons (hself (v6, v8) _ hv9) (ocons (Tspec_Leaf (Y := Y) false _ hv10) (ocons (Tspec_l8Nodeo1o2 (Y := Y) v5 v9 v10 _ hv11) onil))))))) onil (by kernel_rfl)
  · exact x_to 8 [] onil (hrec0 (w64 (t5 + 1)) r h) (by kernel_rfl)
def Dspec_l9Convex_1 (_n : Nat) (_self : ((List Pl) × (List Pl)) → Option Sol) (_b4_0 : Bool) (_b4_1 _b4_2 _b4_3 _b4_4 : Int) : Option Sol :=
  (Dspec_Leaf true).bind fun v12 => some v12
theorem Tspec_l9Convex_1 {Y} (n : Nat) (self : ((List Pl) × (List Pl)) → Option Sol) (_hself : ∀ (a : ((List Pl) × (List Pl))) (r : Sol), self a = some r → Big Tryz.prog H Y (.call 100 [.sl false 4 a.1.length ((ePl).f a.1), .sl false 4 a.2.length ((ePl).f a.2)] (lk []) (.agg [bl r.inn, i64 r.pl.A, i64 r.pl.B, i64 r.pl.C, i64 r.pl.D, .sl true 6 r.kids.length ((eSol true).f r.kids)]) (lk []))) (b4_0 : Bool) (b4_1 b4_2 b4_3 b4_4 : Int) (r : Sol) (h : Dspec_l9Convex_1 n self b4_0 b4_1 b4_2 b4_3 b4_4 = some r) : Wk Tryz.prog H Y 100 [.code (cp [1, 1, 0] (bodyOf Tryz.f100)), .code (cp [1, 1, 1] (bodyOf Tryz.f100))] (FinX Tryz.prog Tryz.f100 [] (.agg [bl r.inn, i64 r.pl.A, i64 r.pl.B, i64 r.pl.C, i64 r.pl.D, .sl true 6 r.kids.length ((eSol true).f r.kids)]) []) ⟨[(4, .ptr 4 0)], [(4, ⟨true, 0, [bl b4_0, i64 b4_1, i64 b4_2, i64 b4_3, i64 b4_4, .nil]⟩)]⟩ := by
  unfold Dspec_l9Convex_1 at h
  obtain ⟨v12, hv12, h⟩ := bind_some h
  replace h := Option.some.inj h; subst h
  exact x_end 4 [(0, .call [] [] (.agg [bl v12.inn, i64 v12.pl.A, i64 v12.pl.B, i64 v12.pl.C, i64 v12.pl.D, .sl true 6 v12.kids.length ((eSol true).f v12.kids)]) [])] [] (ocons (Tspec_Leaf (Y := Y) true _ hv12) onil) onil (by kernel_rfl)
def Dspec_l9Convex_2 (n : Nat) (self : ((List Pl) × (List Pl)) → Option Sol) (t0 : List Pl) (t1 : List Pl) (b4_0 : Bool) (b4_1 b4_2 b4_3 b4_4 : Int) (rec0 : Int → Option Sol) (a : Int) : Option Sol :=
  match a with
  | t5 => frk (decide (t5 < (t0.length : Int))) ((lget t0 t5).bind fun v0 => (Dspec_l3Flip v0).bind fun v1 => (Dspec_l6With n t1 v1).bind fun v2 => frk (!v2) ((lget t0 t5).bind fun v3 => (Dspec_l6With n t1 v3).bind fun v4 => Dspec_l9Convex_0 n self rec0 t0 t1 b4_0 b4_1 b4_2 b4_3 b4_4 t5 (!v4)) (rec0 (w64 (t5 + 1)))) (Dspec_l9Convex_1 n self b4_0 b4_1 b4_2 b4_3 b4_4)
theorem Tspec_l9Convex_2 {Y} (n : Nat) (self : ((List Pl) × (List Pl)) → Option Sol) (hself : ∀ (a : ((List Pl) × (List Pl))) (r : Sol), self a = some r → Big Tryz.prog H Y (.call 100 [.sl false 4 a.1.length ((ePl).f a.1), .sl false 4 a.2.length ((ePl).f a.2)] (lk []) (.agg [bl r.inn, i64 r.pl.A, i64 r.pl.B, i64 r.pl.C, i64 r.pl.D, .sl true 6 r.kids.length ((eSol true).f r.kids)]) (lk []))) (t0 : List Pl) (t1 : List Pl) (b4_0 : Bool) (b4_1 b4_2 b4_3 b4_4 : Int) : ∀ (m : Nat) (a : Int) (r : Sol), loopN (Dspec_l9Convex_2 n self t0 t1 b4_0 b4_1 b4_2 b4_3 b4_4) m a = some r → Wk Tryz.prog H Y 100 [.code (cp [1, 0, 1, 0] (bodyOf Tryz.f100)), .blk 0, .code (cp [1, 1] (bodyOf Tryz.f100))] (FinX Tryz.prog Tryz.f100 [] (.agg [bl r.inn, i64 r.pl.A, i64 r.pl.B, i64 r.pl.C, i64 r.pl.D, .sl true 6 r.kids.length ((eSol true).f r.kids)]) []) ⟨[(0, .sl false 4 t0.length ((ePl).f t0)), (1, .sl false 4 t1.length ((ePl).f t1)), (4, .ptr 4 0), (5, i64 a)], [(4, ⟨true, 0, [bl b4_0, i64 b4_1, i64 b4_2, i64 b4_3, i64 b4_4, .nil]⟩)]⟩ := by
  refine loopN_ind (fun rec0 hrec0 a r h => ?_)
  obtain ⟨t5, rfl⟩ : ∃ x, x = a := ⟨a, rfl⟩
  unfold Dspec_l9Convex_2 at h
  refine x_frk 9 [] onil h (by kernel_rfl) (fun h => ?_) (fun h => ?_)
  · obtain ⟨v0, hv0, h⟩ := bind_some h
    obtain ⟨v1, hv1, h⟩ := bind_some h
    obtain ⟨v2, hv2, h⟩ := bind_some h
    refine x_frk 14 [(3, .val (.cptr (ePl.c v0 ++ (ePl).f ((t0).drop (Int.toNat t5 + 1))))), (1, .call [] [] (.agg [i64 v1.A, i64 v1.B, i64 v1.C, i64 v1.D]) []), (0, .call [] [] (bl v2) [])] (ocons (ix ePl hv0) (ocons (Tspec_l3Flip (Y := Y) v0 _ hv1) (ocons (Tspec_l6With (Y := Y) n t1 v1 _ hv2) onil))) h (by kernel_rfl) (fun h => ?_) (fun h => ?_)
    · obtain ⟨v3, hv3, h⟩ := bind_some h
      obtain ⟨v4, hv4, h⟩ := bind_some h
      exact x_to 9 [(3, .val (.cptr (ePl.c v3 ++ (ePl).f ((t0).drop (Int.toNat t5 + 1))))), (1, .call [] [] (bl v4) [])] (ocons (ix ePl hv3) (ocons (Tspec_l6With (Y := Y) n t1 v3 _ hv4) onil)) (Tspec_l9Convex_0 n self rec0 t0 t1 b4_0 b4_1 b4_2 b4_3 b4_4 hself hrec0 t5 (!v4) r h) (by kernel_rfl)
    · exact x_to 18 [] onil (hrec0 (w64 (t5 + 1)) r h) (by kernel_rfl)
  · exact x_to 2 [] onil (Tspec_l9Convex_1 n self hself b4_0 b4_1 b4_2 b4_3 b4_4 r h) (by kernel_rfl)
def Dspec_l9Convex_b (n : Nat) (self : ((List Pl) × (List Pl)) → Option Sol) (a : ((List Pl) × (List Pl))) : Option Sol :=
  match a with
  | (a0, a1) => loopN (Dspec_l9Convex_2 n self a0 a1 false 0 0 0 0) n 0
def Dspec_l9Convex (n : Nat) (a0 : (List Pl)) (a1 : (List Pl)) : Option Sol := loopN (Dspec_l9Convex_b n) n (a0, a1)
theorem Tspec_l9Convex_b {Y} (n : Nat) : ∀ (m : Nat) (a : ((List Pl) × (List Pl))) (r : Sol), loopN (Dspec_l9Convex_b n) m a = some r → ∀ (_ : Unit), Big Tryz.prog H Y (.call 100 [.sl false 4 a.1.length ((ePl).f a.1), .sl false 4 a.2.length ((ePl).f a.2)] (lk []) (.agg [bl r.inn, i64 r.pl.A, i64 r.pl.B, i64 r.pl.C, i64 r.pl.D, .sl true 6 r.kids.length ((eSol true).f r.kids)]) (lk [])) := by
  refine loopN_ind (fun self hs a r h => ?_)
  have hself : ∀ (a : ((List Pl) × (List Pl))) (r : Sol), self a = some r → Big Tryz.prog H Y (.call 100 [.sl false 4 a.1.length ((ePl).f a.1), .sl false 4 a.2.length ((ePl).f a.2)] (lk []) (.agg [bl r.inn, i64 r.pl.A, i64 r.pl.B, i64 r.pl.C, i64 r.pl.D, .sl true 6 r.kids.length ((eSol true).f r.kids)]) (lk [])) := fun a r h => hs a r h ()
  intro _
  obtain ⟨a0, a1⟩ := a
  unfold Dspec_l9Convex_b at h
  refine x_call (fn := Tryz.f100) (c := bodyOf Tryz.f100) (bs0 := []) Tryz.func100 (by kernel_rfl) (by kernel_rfl) ?_
  exact x_to 10 [] onil (Tspec_l9Convex_2 n self hself a0 a1 false 0 0 0 0 n 0 r h) (by kernel_rfl)
theorem Tspec_l9Convex {Y} (n : Nat) (a0 : (List Pl)) (a1 : (List Pl)) (r : Sol) (h : Dspec_l9Convex n a0 a1 = some r) : Big Tryz.prog H Y (.call 100 [.sl false 4 a0.length ((ePl).f a0), .sl false 4 a1.length ((ePl).f a1)] (lk []) (.agg [bl r.inn, i64 r.pl.A, i64 r.pl.B, i64 r.pl.C, i64 r.pl.D, .sl true 6 r.kids.length ((eSol true).f r.kids)]) (lk [])) := Tspec_l9Convex_b n n (a0, a1) r h ()
/-! spec.Convex -/
def Dspec_Convex (n : Nat) (a0 : (List Pl)) : Option (Sol × Int) :=
  (Dspec_l6Right n a0).bind fun v0 => frk (!v0) (some ((Sol.mk false (Pl.mk 0 0 0 0) []), 1)) ((Dspec_l6Open n a0).bind fun v1 => frk (!v1) ((Dspec_Leaf false).bind fun v2 => some (v2, 2)) ((Dspec_l9Convex n a0 []).bind fun v3 => some (v3, 0)))
theorem Tspec_Convex {Y} (n : Nat) (a0 : (List Pl)) (r : (Sol × Int)) (h : Dspec_Convex n a0 = some r) : Big Tryz.prog H Y (.call 48 [.sl false 4 a0.length ((ePl).f a0)] (lk []) (.tup [.agg [bl r.1.inn, i64 r.1.pl.A, i64 r.1.pl.B, i64 r.1.pl.C, i64 r.1.pl.D, .sl true 6 r.1.kids.length ((eSol true).f r.1.kids)], i64 r.2]) (lk [])) := by
  unfold Dspec_Convex at h
  refine x_call (fn := Tryz.f48) (c := bodyOf Tryz.f48) (bs0 := []) Tryz.func48 (by kernel_rfl) (by kernel_rfl) ?_
  obtain ⟨v0, hv0, h⟩ := bind_some h
  refine x_frk 12 [(3, .call [] [] (bl v0) [])] (ocons (Tspec_l6Right (Y := Y) n a0 _ hv0) onil) h (by kernel_rfl) (fun h => ?_) (fun h => ?_)
  · replace h := Option.some.inj h; subst h
    exact x_end 6 [] [(true, 6)] onil onil (by kernel_rfl)
  · obtain ⟨v1, hv1, h⟩ := bind_some h
    refine x_frk 8 [(1, .call [] [] (bl v1) [])] (ocons (Tspec_l6Open (Y := Y) n a0 _ hv1) onil) h (by kernel_rfl) (fun h => ?_) (fun h => ?_)
    · obtain ⟨v2, hv2, h⟩ := bind_some h
      replace h := Option.some.inj h; subst h
      exact x_end 6 [(0, .call [] [] (.agg [bl v2.inn, i64 v2.pl.A, i64 v2.pl.B, i64 v2.pl.C, i64 v2.pl.D, .sl true 6 v2.kids.length ((eSol true).f v2.kids)]) [])] [] (ocons (Tspec_Leaf (Y := Y) false _ hv2) onil) onil (by kernel_rfl)
    · obtain ⟨v3, hv3, h⟩ := bind_some h
      replace h := Option.some.inj h; subst h
      exact x_end 9 [(2, .call [] [(ePl).f []] (.agg [bl v3.inn, i64 v3.pl.A, i64 v3.pl.B, i64 v3.pl.C, i64 v3.pl.D, .sl true 6 v3.kids.length ((eSol true).f v3.kids)]) [])] [] (ocons (Tspec_l9Convex (Y := Y) n a0 [] _ hv3) (ocons (len_row (L := []) ePl) (ocons (Enc.share ePl ePl sPl []) (ocons (show hasSh (.agg [bl v3.inn, i64 v3.pl.A, i64 v3.pl.B, i64 v3.pl.C, i64 v3.pl.D, .sl true 6 v3.kids.length ((eSol true).f v3.kids)]) = false by simp [hasSh, hasShL, nSh, nShI, nShB, nShP, nShT, nShN, nShPs]) onil)))) onil (by kernel_rfl)
/-! spec.l8Copy -/
def Dspec_l8Copy_0 (_n : Nat) (self1 : Sol → Option Sol) (_b1_0 : Bool) (_b1_1 _b1_2 _b1_3 _b1_4 : Int) (b1_5 : List Sol) (_b2_0 : Bool) (_b2_1 _b2_2 _b2_3 _b2_4 : Int) (b3_0 : Bool) (b3_1 b3_2 b3_3 b3_4 : Int) (rec0 : (Int × List Sol) → Option Sol) (a : (Int × List Sol)) : Option Sol :=
  match a with
  | (t4, l635) => frk (decide (t4 < (b1_5.length : Int))) ((lget b1_5 t4).bind fun v0 => (self1 v0).bind fun v1 => chk (apB 64 (l635.length + 1)) (rec0 (w64 (t4 + 1), (l635 ++ [v1])))) (some (Sol.mk b3_0 (Pl.mk b3_1 b3_2 b3_3 b3_4) l635))
theorem Tspec_l8Copy_0 {Y} (n : Nat) (self1 : Sol → Option Sol) (hself1 : ∀ (a : Sol) (r : Sol), self1 a = some r → Big Tryz.prog H Y (.call 123 [.agg [bl a.inn, i64 a.pl.A, i64 a.pl.B, i64 a.pl.C, i64 a.pl.D, .sl false 6 a.kids.length ((eSol false).f a.kids)]] (lk []) (.agg [bl r.inn, i64 r.pl.A, i64 r.pl.B, i64 r.pl.C, i64 r.pl.D, .sl true 6 r.kids.length ((eSol true).f r.kids)]) (lk []))) (b1_0 : Bool) (b1_1 b1_2 b1_3 b1_4 : Int) (b1_5 : List Sol) (b2_0 : Bool) (b2_1 b2_2 b2_3 b2_4 : Int) (b3_0 : Bool) (b3_1 b3_2 b3_3 b3_4 : Int) : ∀ (m : Nat) (a : (Int × List Sol)) (r : Sol), loopN (Dspec_l8Copy_0 n self1 b1_0 b1_1 b1_2 b1_3 b1_4 b1_5 b2_0 b2_1 b2_2 b2_3 b2_4 b3_0 b3_1 b3_2 b3_3 b3_4) m a = some r → Wk Tryz.prog H Y 123 [.code (cp [1, 1, 0, 1, 0] (bodyOf Tryz.f123)), .blk 0, .code (cp [1, 1, 1] (bodyOf Tryz.f123))] (FinX Tryz.prog Tryz.f123 [] (.agg [bl r.inn, i64 r.pl.A, i64 r.pl.B, i64 r.pl.C, i64 r.pl.D, .sl true 6 r.kids.length ((eSol true).f r.kids)]) []) ⟨[(1, .ptr 1 0), (2, .ptr 2 0), (3, .ptr 3 0), (4, i64 a.1)], [(1, ⟨true, 0, [bl b1_0, i64 b1_1, i64 b1_2, i64 b1_3, i64 b1_4, .sl false 6 b1_5.length ((eSol false).f b1_5)]⟩), (2, ⟨true, 0, [bl b2_0, i64 b2_1, i64 b2_2, i64 b2_3, i64 b2_4, .nil]⟩), (3, ⟨true, 0, [bl b3_0, i64 b3_1, i64 b3_2, i64 b3_3, i64 b3_4, .msl 635 a.2.length]⟩), (635, ⟨true, 6, (eSol true).f a.2⟩)]⟩ := by
  refine loopN_ind (fun _rec0 hrec0 a r h => ?_)
  obtain ⟨t4, l635⟩ := a
  unfold Dspec_l8Copy_0 at h
  refine x_frk 10 [] onil h (by kernel_rfl) (fun h => ?_) (fun h => ?_)
  · obtain ⟨v0, hv0, h⟩ := bind_some h
    obtain ⟨v1, hv1, h⟩ := bind_some h
    obtain ⟨c2, h⟩ := chk_some h
    exact x_to 26 [(5, .val (.cptr ((eSol false).c v0 ++ (eSol false).f ((b1_5).drop (Int.toNat t4 + 1))))), (1, .call [] [] (.agg [bl v1.inn, i64 v1.pl.A, i64 v1.pl.B, i64 v1.pl.C, i64 v1.pl.D, .sl true 6 v1.kids.length ((eSol true).f v1.kids)]) []), (1, .fixb 25 ⟨true, 6, (eSol true).f [v1]⟩), (0, .app true (List.length (l635 ++ [v1])) ((eSol true).f (l635 ++ [v1]))), (5, .ren 26 635)] (ocons (ix (eSol false) hv0) (ocons (hself1 v0 _ hv1) (ocons (boxSol true true [v1]) (ocons (len_row' (L := l635) (eSol true)) (ocons (app_one (L := l635) (M := [v1]) (eSol true) c2) (ocons (app_new (L := l635) (M := [v1]) (eSol true)) (ocons (app_m (L := l635) (M := [v1]) (eSol true) rfl) (ocons (len_row' (L := [v1]) (eSol true)) (ocons (show 26 < 1000 ∧ 635 < 1000 by decide) onil))))))))) (hrec0 (w64 (t4 + 1), (l635 ++ [v1])) r h) (by kernel_rfl)
  · replace h := Option.some.inj h; subst h
    exact x_end 6 [] [] onil (ocons (len_row (L := l635) (eSol true)) onil) (by kernel_rfl)
def Dspec_l8Copy_b (n : Nat) (self1 : Sol → Option Sol) (a : Sol) : Option Sol :=
  match a with
  | a0 => loopN (Dspec_l8Copy_0 n self1 a0.inn a0.pl.A a0.pl.B a0.pl.C a0.pl.D a0.kids false 0 0 0 0 a0.inn a0.pl.A a0.pl.B a0.pl.C a0.pl.D) n (0, [])
def Dspec_l8Copy (n : Nat) (a0 : Sol) : Option Sol := loopN (Dspec_l8Copy_b n) n a0
theorem Tspec_l8Copy_b {Y} (n : Nat) : ∀ (m : Nat) (a : Sol) (r : Sol), loopN (Dspec_l8Copy_b n) m a = some r → ∀ (_ : Unit), Big Tryz.prog H Y (.call 123 [.agg [bl a.inn, i64 a.pl.A, i64 a.pl.B, i64 a.pl.C, i64 a.pl.D, .sl false 6 a.kids.length ((eSol false).f a.kids)]] (lk []) (.agg [bl r.inn, i64 r.pl.A, i64 r.pl.B, i64 r.pl.C, i64 r.pl.D, .sl true 6 r.kids.length ((eSol true).f r.kids)]) (lk [])) := by
  refine loopN_ind (fun self1 hs a r h => ?_)
  have hself1 : ∀ (a : Sol) (r : Sol), self1 a = some r → Big Tryz.prog H Y (.call 123 [.agg [bl a.inn, i64 a.pl.A, i64 a.pl.B, i64 a.pl.C, i64 a.pl.D, .sl false 6 a.kids.length ((eSol false).f a.kids)]] (lk []) (.agg [bl r.inn, i64 r.pl.A, i64 r.pl.B, i64 r.pl.C, i64 r.pl.D, .sl true 6 r.kids.length ((eSol true).f r.kids)]) (lk [])) := fun a r h => hs a r h ()
  intro _
  obtain ⟨a0, rfl⟩ : ∃ x, x = a := ⟨a, rfl⟩
  unfold Dspec_l8Copy_b at h
  refine x_call (fn := Tryz.f123) (c := bodyOf Tryz.f123) (bs0 := []) Tryz.func123 (by kernel_rfl) (by kernel_rfl) ?_
  exact x_to 22 [(9, .virtc 3 ⟨true, 0, [bl a0.inn, i64 a0.pl.A, i64 a0.pl.B, i64 a0.pl.C, i64 a0.pl.D, .nil]⟩ 5 635 6)] (ocons (rflB ⟨true, 0, [bl a0.inn, i64 a0.pl.A, i64 a0.pl.B, i64 a0.pl.C, i64 a0.pl.D, .nil]⟩) (ocons (⟨rfl, rfl, by decide, by decide, by decide⟩ : (⟨true, 0, [bl a0.inn, i64 a0.pl.A, i64 a0.pl.B, i64 a0.pl.C, i64 a0.pl.D, .nil]⟩ : Box).cs[5]? = some .nil ∧ (⟨true, 0, [bl a0.inn, i64 a0.pl.A, i64 a0.pl.B, i64 a0.pl.C, i64 a0.pl.D, .nil]⟩ : Box).sz = 0 ∧ 3 ≠ 635 ∧ 635 < 1000 ∧ 6 ≠ 0) onil)) (Tspec_l8Copy_0 n self1 hself1 a0.inn a0.pl.A a0.pl.B a0.pl.C a0.pl.D a0.kids false 0 0 0 0 a0.inn a0.pl.A a0.pl.B a0.pl.C a0.pl.D n (0, []) r h) (by kernel_rfl)
theorem Tspec_l8Copy {Y} (n : Nat) (a0 : Sol) (r : Sol) (h : Dspec_l8Copy n a0 = some r) : Big Tryz.prog H Y (.call 123 [.agg [bl a0.inn, i64 a0.pl.A, i64 a0.pl.B, i64 a0.pl.C, i64 a0.pl.D, .sl false 6 a0.kids.length ((eSol false).f a0.kids)]] (lk []) (.agg [bl r.inn, i64 r.pl.A, i64 r.pl.B, i64 r.pl.C, i64 r.pl.D, .sl true 6 r.kids.length ((eSol true).f r.kids)]) (lk [])) := Tspec_l8Copy_b n n a0 r h ()
/-! spec.l3DrawAny -/
def Dspec_l3DrawAny (n : Nat) (a0 : ((List Int) × Int × Int)) : Option (Pl × ((List Int) × Int × Int)) :=
  (Dspec_l3Draw n a0).bind fun v0 => (Dspec_l1Below v0.2 20).bind fun v1 => frk (v1.1 == 0) ((Dspec_l1Int v1.2 [0, 500, 501, (-9223372036854775808)]).bind fun v2 => some ((Pl.mk v2.1 v0.1.B v0.1.C v0.1.D), v2.2)) (frk (v1.1 == 1) ((Dspec_l1Int v1.2 [501, 9223372036854775807]).bind fun v3 => some ((Pl.mk v0.1.A v0.1.B v0.1.C v3.1), v3.2)) (frk (v1.1 == 2) (some ((Pl.mk 0 0 0 1), v1.2)) (frk (v1.1 == 3) (some ((Pl.mk 2 (-4) 0 6), v1.2)) (some (v0.1, v1.2)))))
theorem Tspec_l3DrawAny {Y} (n : Nat) (a0 : ((List Int) × Int × Int)) (r : (Pl × ((List Int) × Int × Int))) (h : Dspec_l3DrawAny n a0 = some r) : Big Tryz.prog H Y (.call 129 [.ptr 1000 0] (lk [(1000, ⟨true, 0, [.sl false 1 a0.1.length ((eU8).f a0.1), i64 a0.2.1, i64 a0.2.2]⟩)]) (.agg [i64 r.1.A, i64 r.1.B, i64 r.1.C, i64 r.1.D]) (lk [(1000, ⟨true, 0, [.sl false 1 r.2.1.length ((eU8).f r.2.1), i64 r.2.2.1, i64 r.2.2.2]⟩)])) := by
  unfold Dspec_l3DrawAny at h
  refine x_call (fn := Tryz.f129) (c := bodyOf Tryz.f129) (bs0 := [(1000, ⟨true, 0, [.bad, .bad, .bad]⟩)]) Tryz.func129 (by kernel_rfl) (by kernel_rfl) ?_
  obtain ⟨v0, hv0, h⟩ := bind_some h
  obtain ⟨v1, hv1, h⟩ := bind_some h
  refine x_frk 23 [(2, .call [] [] (.agg [i64 v0.1.A, i64 v0.1.B, i64 v0.1.C, i64 v0.1.D]) [(1000, ⟨true, 0, [.sl false 1 v0.2.1.length ((eU8).f v0.2.1), i64 v0.2.2.1, i64 v0.2.2.2]⟩)]), (3, .call [] [] (i64 v1.1) [(1000, ⟨true, 0, [.sl false 1 v1.2.1.length ((eU8).f v1.2.1), i64 v1.2.2.1, i64 v1.2.2.2]⟩)])] (ocons (Tspec_l3Draw (Y := Y) n a0 _ hv0) (ocons (Tspec_l1Below (Y := Y) v0.2 20 _ hv1) onil)) h (by kernel_rfl) (fun h => ?_) (fun h => ?_)
  · obtain ⟨v2, hv2, h⟩ := bind_some h
    replace h := Option.some.inj h; subst h
    exact x_end 13 [(2, .call [] [] (i64 v2.1) [(1000, ⟨true, 0, [.sl false 1 v2.2.1.length ((eU8).f v2.2.1), i64 v2.2.2.1, i64 v2.2.2.2]⟩)])] [] (ocons (Big.wka (show WkT [.ptr 1000 0, .sl true 1 4 ((eInt).f [0, 500, 501, (-9223372036854775808)])] [.ptr 1000 0, .sl false 1 4 ((eInt).f [0, 500, 501, (-9223372036854775808)])] from ⟨wkSameU _, wkShareU (L := [0, 500, 501, (-9223372036854775808)]) eInt eInt sInt, trivial⟩) (Tspec_l1Int (Y := Y) v1.2 [0, 500, 501, (-9223372036854775808)] _ hv2)) (ocons (len_row (L := [0, 500, 501, (-9223372036854775808)]) eInt) onil)) onil (by kernel_rfl)
  · refine x_frk 5 [] onil h (by kernel_rfl) (fun h => ?_) (fun h => ?_)
    · obtain ⟨v3, hv3, h⟩ := bind_some h
      replace h := Option.some.inj h; subst h
      exact x_end 13 [(2, .call [] [] (i64 v3.1) [(1000, ⟨true, 0, [.sl false 1 v3.2.1.length ((eU8).f v3.2.1), i64 v3.2.2.1, i64 v3.2.2.2]⟩)])] [] (ocons (Big.wka (show WkT [.ptr 1000 0, .sl true 1 2 ((eInt).f [501, 9223372036854775807])] [.ptr 1000 0, .sl false 1 2 ((eInt).f [501, 9223372036854775807])] from ⟨wkSameU _, wkShareU (L := [501, 9223372036854775807]) eInt eInt sInt, trivial⟩) (Tspec_l1Int (Y := Y) v1.2 [501, 9223372036854775807] _ hv3)) (ocons (len_row (L := [501, 9223372036854775807]) eInt) onil)) onil (by kernel_rfl)
    · refine x_frk 5 [] onil h (by kernel_rfl) (fun h => ?_) (fun h => ?_)
      · replace h := Option.some.inj h; subst h
        exact x_end 10 [] [] onil onil (by kernel_rfl)
      · refine x_frk 5 [] onil h (by kernel_rfl) (fun h => ?_) (fun h => ?_)
        · replace h := Option.some.inj h; subst h
          exact x_end 10 [] [] onil onil (by kernel_rfl)
        · replace h := Option.some.inj h; subst h
          exact x_end 7 [] [] onil onil (by kernel_rfl)
/-! spec.l8Node -/
def Dspec_l8Node (a0 : Pl) (a1 : Sol) (a2 : Sol) : Option Sol :=
  some (Sol.mk false a0 [a1, a2])
theorem Tspec_l8Node {Y} (a0 : Pl) (a1 : Sol) (a2 : Sol) (r : Sol) (h : Dspec_l8Node a0 a1 a2 = some r) : Big Tryz.prog H Y (.call 95 [.agg [i64 a0.A, i64 a0.B, i64 a0.C, i64 a0.D], .agg [bl a1.inn, i64 a1.pl.A, i64 a1.pl.B, i64 a1.pl.C, i64 a1.pl.D, .sl false 6 a1.kids.length ((eSol false).f a1.kids)], .agg [bl a2.inn, i64 a2.pl.A, i64 a2.pl.B, i64 a2.pl.C, i64 a2.pl.D, .sl false 6 a2.kids.length ((eSol false).f a2.kids)]] (lk []) (.agg [bl r.inn, i64 r.pl.A, i64 r.pl.B, i64 r.pl.C, i64 r.pl.D, .sl false 6 r.kids.length ((eSol false).f r.kids)]) (lk [])) := by
  unfold Dspec_l8Node at h
  refine x_call (fn := Tryz.f95) (c := bodyOf Tryz.f95) (bs0 := []) Tryz.func95 (by kernel_rfl) (by kernel_rfl) ?_
  replace h := Option.some.inj h; subst h
  exact x_endS 17 [(8, .fixb 10 ⟨true, 6, (eSol false).f [a1, a2]⟩)] (ocons (boxSol true false [a1, a2]) onil) (ocons (len_row (L := [a1, a2]) (eSol false)) onil) (show WkV (.agg [bl false, i64 a0.A, i64 a0.B, i64 a0.C, i64 a0.D, .sl true 6 2 ((eSol false).f [a1, a2])]) _ from .inl (.inr ⟨_, _, rfl, rfl, ⟨.inl rfl, .inl rfl, .inl rfl, .inl rfl, .inl rfl, wkShareC (L := [a1, a2]) (eSol false) (eSol false) (sSol false), trivial⟩⟩)) (by kernel_rfl)
end Evl.T
