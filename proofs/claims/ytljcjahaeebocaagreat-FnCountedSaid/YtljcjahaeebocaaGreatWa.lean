/- Walks. No condition. -/
import Derived.Test.YtljcjahaeebocaaGreatWy
namespace Evl.T
open Go Evl Go.Proofs
set_option maxRecDepth 100000
/-! spec.l8Bend -/
def Dspec_l8Bend_1 (_n : Nat) (self : (((List Int) × Int × Int) × Sol) → Option (Sol × ((List Int) × Int × Int))) (t6 : Int) (_b4_0 : Bool) (_b4_1 _b4_2 _b4_3 _b4_4 : Int) (b5_0 : Bool) (b5_1 b5_2 b5_3 b5_4 : Int) (b5_5 : List Sol) (b1000_0 : List Int) (b1000_1 b1000_2 : Int) : Option (Sol × ((List Int) × Int × Int)) :=
  (lget b5_5 t6).bind fun v3 => (self ((b1000_0, b1000_1, b1000_2), v3)).bind fun v4 => (lget b5_5 t6).bind fun _v5 => some ((Sol.mk b5_0 (Pl.mk b5_1 b5_2 b5_3 b5_4) (b5_5.set (Int.toNat t6) v4.1)), v4.2)
theorem Tspec_l8Bend_1 {Y} (n : Nat) (self : (((List Int) × Int × Int) × Sol) → Option (Sol × ((List Int) × Int × Int))) (hself : ∀ (a : (((List Int) × Int × Int) × Sol)) (r : (Sol × ((List Int) × Int × Int))), self a = some r → Big Tryz.prog H Y (.call 78 [.ptr 1000 0, .agg [bl a.2.inn, i64 a.2.pl.A, i64 a.2.pl.B, i64 a.2.pl.C, i64 a.2.pl.D, .sl false 6 a.2.kids.length ((eSol false).f a.2.kids)]] (lk [(1000, ⟨true, 0, [.sl false 1 a.1.1.length ((eU8).f a.1.1), i64 a.1.2.1, i64 a.1.2.2]⟩)]) (.agg [bl r.1.inn, i64 r.1.pl.A, i64 r.1.pl.B, i64 r.1.pl.C, i64 r.1.pl.D, .sl false 6 r.1.kids.length ((eSol false).f r.1.kids)]) (lk [(1000, ⟨true, 0, [.sl false 1 r.2.1.length ((eU8).f r.2.1), i64 r.2.2.1, i64 r.2.2.2]⟩)]))) (t6 : Int) (b4_0 : Bool) (b4_1 b4_2 b4_3 b4_4 : Int) (b5_0 : Bool) (b5_1 b5_2 b5_3 b5_4 : Int) (b5_5 : List Sol) (b1000_0 : List Int) (b1000_1 b1000_2 : Int) (r : (Sol × ((List Int) × Int × Int))) (h : Dspec_l8Bend_1 n self t6 b4_0 b4_1 b4_2 b4_3 b4_4 b5_0 b5_1 b5_2 b5_3 b5_4 b5_5 b1000_0 b1000_1 b1000_2 = some r) : Wk Tryz.prog H Y 78 [.code (cp [1, 1, 0, 1, 0, 1, 0] (bodyOf Tryz.f78)), .code (cp [1, 1, 0, 1, 0, 1, 1] (bodyOf Tryz.f78)), .code (cp [1, 1, 1] (bodyOf Tryz.f78))] (FinX Tryz.prog Tryz.f78 [(1000, ⟨true, 0, [.bad, .bad, .bad]⟩)] (.agg [bl r.1.inn, i64 r.1.pl.A, i64 r.1.pl.B, i64 r.1.pl.C, i64 r.1.pl.D, .sl false 6 r.1.kids.length ((eSol false).f r.1.kids)]) [(1000, ⟨true, 0, [.sl false 1 r.2.1.length ((eU8).f r.2.1), i64 r.2.2.1, i64 r.2.2.2]⟩)]) ⟨[(0, .ptr 1000 0), (4, .ptr 4 0), (5, .ptr 5 0), (6, i64 t6)], [(4, ⟨true, 0, [bl b4_0, i64 b4_1, i64 b4_2, i64 b4_3, i64 b4_4, .nil]⟩), (5, ⟨true, 0, [bl b5_0, i64 b5_1, i64 b5_2, i64 b5_3, i64 b5_4, .sl true 6 b5_5.length ((eSol true).f b5_5)]⟩), (1000, ⟨true, 0, [.sl false 1 b1000_0.length ((eU8).f b1000_0), i64 b1000_1, i64 b1000_2]⟩)]⟩ := by
  unfold Dspec_l8Bend_1 at h
  obtain ⟨v3, hv3, h⟩ := bind_some h
  obtain ⟨v4, hv4, h⟩ := bind_some h
  obtain ⟨_v5, hv5, h⟩ := bind_some h
  replace h := Option.some.inj h; subst h
  exact x_endS 25 [(0, .adoptc 5 ⟨true, 0, [bl b5_0, i64 b5_1, i64 b5_2, i64 b5_3, i64 b5_4, .sl true 6 b5_5.length ((eSol true).f b5_5)]⟩ 5 655 b5_5.length 6 ((eSol true).f b5_5)), (0, .openb 655 ⟨false, 6, (eSol true).f b5_5⟩), (0, .wkb 655 ⟨true, 6, (eSol true).f b5_5⟩ ⟨true, 6, (eSol false).f b5_5⟩), (7, .unit), (0, .cells [bl v3.inn, i64 v3.pl.A, i64 v3.pl.B, i64 v3.pl.C, i64 v3.pl.D, .sl false 6 v3.kids.length ((eSol false).f v3.kids)]), (0, .call [] [] (.agg [bl v4.1.inn, i64 v4.1.pl.A, i64 v4.1.pl.B, i64 v4.1.pl.C, i64 v4.1.pl.D, .sl false 6 v4.1.kids.length ((eSol false).f v4.1.kids)]) [(1000, ⟨true, 0, [.sl false 1 v4.2.1.length ((eU8).f v4.2.1), i64 v4.2.2.1, i64 v4.2.2.2]⟩)]), (0, .unit), (0, .cells ((eSol false).f (b5_5.set (Int.toNat t6) v4.1))), (0, .fix 20 (.msl 655 (b5_5.set (Int.toNat t6) v4.1).length)), (0, .fix 24 (.msl 655 (b5_5.set (Int.toNat t6) v4.1).length)), (0, .fixb 5 ⟨true, 0, [bl b5_0, i64 b5_1, i64 b5_2, i64 b5_3, i64 b5_4, .msl 655 (b5_5.set (Int.toNat t6) v4.1).length]⟩)] (ocons (rflB ⟨true, 0, [bl b5_0, i64 b5_1, i64 b5_2, i64 b5_3, i64 b5_4, .sl true 6 b5_5.length ((eSol true).f b5_5)]⟩) (ocons (⟨rfl, rfl, by decide, by decide, by decide⟩ : (⟨true, 0, [bl b5_0, i64 b5_1, i64 b5_2, i64 b5_3, i64 b5_4, .sl true 6 b5_5.length ((eSol true).f b5_5)]⟩ : Box).cs[5]? = some (.sl true 6 b5_5.length ((eSol true).f b5_5)) ∧ (⟨true, 0, [bl b5_0, i64 b5_1, i64 b5_2, i64 b5_3, i64 b5_4, .sl true 6 b5_5.length ((eSol true).f b5_5)]⟩ : Box).sz = 0 ∧ 5 ≠ 655 ∧ 655 < 1000 ∧ 6 ≠ 0) (ocons (⟨rfl, (show (6 : Nat) ≠ 0 by decide), rfl⟩ : some (⟨false, 6, (eSol true).f b5_5⟩ : Box) = some ⟨false, 6, (eSol true).f b5_5⟩ ∧ (⟨false, 6, (eSol true).f b5_5⟩ : Box).sz ≠ 0 ∧ H.fl 78 = true) (ocons (nu8Sol true b5_5) (ocons (nSh b5_5) (ocons (u8Lk b1000_0) (ocons (rflB ⟨true, 6, (eSol true).f b5_5⟩) (ocons (wkRowB (L := b5_5) (st := true) (z := 6) (eSol true) (eSol false) (sSol true)) (ocons (inr hv3) (ocons (ldA (eSol false) hv3 0 6 rfl rfl) (ocons (hself ((b1000_0, b1000_1, b1000_2), v3) _ hv4) (ocons (inr hv5) (ocons (stA (eSol false) hv5 0 6 [bl v4.1.inn, i64 v4.1.pl.A, i64 v4.1.pl.B, i64 v4.1.pl.C, i64 v4.1.pl.D, .sl false 6 v4.1.kids.length ((eSol false).f v4.1.kids)] v4.1 rfl rfl) (ocons (setLen 655 b5_5 (Int.toNat t6) v4.1) (ocons (setLen 655 b5_5 (Int.toNat t6) v4.1) (ocons (congrArg (fun v => some (⟨true, 0, [bl b5_0, i64 b5_1, i64 b5_2, i64 b5_3, i64 b5_4, v]⟩ : Box)) (setLen 655 b5_5 (Int.toNat t6) v4.1)) onil)))))))))))))))) (ocons (len_row (L := (b5_5.set (Int.toNat t6) v4.1)) (eSol false)) onil) (show WkV (.agg [bl b5_0, i64 b5_1, i64 b5_2, i64 b5_3, i64 b5_4, .sl true 6 (b5_5.set (Int.toNat t6) v4.1).length ((eSol false).f (b5_5.set (Int.toNat t6) v4.1))]) _ from .inl (.inr ⟨_, _, rfl, rfl, ⟨.inl rfl, .inl rfl, .inl rfl, .inl rfl, .inl rfl, wkShareC (L := (b5_5.set (Int.toNat t6) v4.1)) (eSol false) (eSol false) (sSol false), trivial⟩⟩)) (by kernel_rfl)
def Dspec_l8Bend_2 (_n : Nat) (_self : (((List Int) × Int × Int) × Sol) → Option (Sol × ((List Int) × Int × Int))) (_b4_0 : Bool) (_b4_1 _b4_2 _b4_3 _b4_4 : Int) (b5_0 : Bool) (b5_1 b5_2 b5_3 b5_4 : Int) (b5_5 : List Sol) (b1000_0 : List Int) (b1000_1 b1000_2 : Int) : Option (Sol × ((List Int) × Int × Int)) :=
  chk (apB 64 (b5_5.length + 1)) (some ((Sol.mk b5_0 (Pl.mk b5_1 b5_2 b5_3 b5_4) (b5_5 ++ [(Sol.mk false (Pl.mk 0 0 0 0) [])])), (b1000_0, b1000_1, b1000_2)))
theorem Tspec_l8Bend_2 {Y} (n : Nat) (self : (((List Int) × Int × Int) × Sol) → Option (Sol × ((List Int) × Int × Int))) (_hself : ∀ (a : (((List Int) × Int × Int) × Sol)) (r : (Sol × ((List Int) × Int × Int))), self a = some r → Big Tryz.prog H Y (.call 78 [.ptr 1000 0, .agg [bl a.2.inn, i64 a.2.pl.A, i64 a.2.pl.B, i64 a.2.pl.C, i64 a.2.pl.D, .sl false 6 a.2.kids.length ((eSol false).f a.2.kids)]] (lk [(1000, ⟨true, 0, [.sl false 1 a.1.1.length ((eU8).f a.1.1), i64 a.1.2.1, i64 a.1.2.2]⟩)]) (.agg [bl r.1.inn, i64 r.1.pl.A, i64 r.1.pl.B, i64 r.1.pl.C, i64 r.1.pl.D, .sl false 6 r.1.kids.length ((eSol false).f r.1.kids)]) (lk [(1000, ⟨true, 0, [.sl false 1 r.2.1.length ((eU8).f r.2.1), i64 r.2.2.1, i64 r.2.2.2]⟩)]))) (b4_0 : Bool) (b4_1 b4_2 b4_3 b4_4 : Int) (b5_0 : Bool) (b5_1 b5_2 b5_3 b5_4 : Int) (b5_5 : List Sol) (b1000_0 : List Int) (b1000_1 b1000_2 : Int) (r : (Sol × ((List Int) × Int × Int))) (h : Dspec_l8Bend_2 n self b4_0 b4_1 b4_2 b4_3 b4_4 b5_0 b5_1 b5_2 b5_3 b5_4 b5_5 b1000_0 b1000_1 b1000_2 = some r) : Wk Tryz.prog H Y 78 [.code (cp [1, 1, 1, 0, 1, 0, 1, 1, 1, 1, 1, 0] (bodyOf Tryz.f78)), .blk 0, .code (cp [1, 1, 1, 1] (bodyOf Tryz.f78))] (FinX Tryz.prog Tryz.f78 [(1000, ⟨true, 0, [.bad, .bad, .bad]⟩)] (.agg [bl r.1.inn, i64 r.1.pl.A, i64 r.1.pl.B, i64 r.1.pl.C, i64 r.1.pl.D, .sl false 6 r.1.kids.length ((eSol false).f r.1.kids)]) [(1000, ⟨true, 0, [.sl false 1 r.2.1.length ((eU8).f r.2.1), i64 r.2.2.1, i64 r.2.2.2]⟩)]) ⟨[(4, .ptr 4 0), (5, .ptr 5 0)], [(4, ⟨true, 0, [bl b4_0, i64 b4_1, i64 b4_2, i64 b4_3, i64 b4_4, .nil]⟩), (5, ⟨true, 0, [bl b5_0, i64 b5_1, i64 b5_2, i64 b5_3, i64 b5_4, .sl true 6 b5_5.length ((eSol true).f b5_5)]⟩), (1000, ⟨true, 0, [.sl false 1 b1000_0.length ((eU8).f b1000_0), i64 b1000_1, i64 b1000_2]⟩)]⟩ := by
  unfold Dspec_l8Bend_2 at h
  obtain ⟨c8, h⟩ := chk_some h
  replace h := Option.some.inj h; subst h
  exact x_endS 17 [(0, .adoptc 5 ⟨true, 0, [bl b5_0, i64 b5_1, i64 b5_2, i64 b5_3, i64 b5_4, .sl true 6 b5_5.length ((eSol true).f b5_5)]⟩ 5 655 b5_5.length 6 ((eSol true).f b5_5)), (4, .app true (List.length (b5_5 ++ [(Sol.mk false (Pl.mk 0 0 0 0) [])])) ((eSol true).f b5_5 ++ [bl false, i64 0, i64 0, i64 0, i64 0, .nil])), (2, .wkb 50 ⟨false, 6, (eSol true).f b5_5 ++ [bl false, i64 0, i64 0, i64 0, i64 0, .nil]⟩ ⟨false, 6, (eSol true).f (b5_5 ++ [(Sol.mk false (Pl.mk 0 0 0 0) [])])⟩)] (ocons (rflB ⟨true, 0, [bl b5_0, i64 b5_1, i64 b5_2, i64 b5_3, i64 b5_4, .sl true 6 b5_5.length ((eSol true).f b5_5)]⟩) (ocons (⟨rfl, rfl, by decide, by decide, by decide⟩ : (⟨true, 0, [bl b5_0, i64 b5_1, i64 b5_2, i64 b5_3, i64 b5_4, .sl true 6 b5_5.length ((eSol true).f b5_5)]⟩ : Box).cs[5]? = some (.sl true 6 b5_5.length ((eSol true).f b5_5)) ∧ (⟨true, 0, [bl b5_0, i64 b5_1, i64 b5_2, i64 b5_3, i64 b5_4, .sl true 6 b5_5.length ((eSol true).f b5_5)]⟩ : Box).sz = 0 ∧ 5 ≠ 655 ∧ 655 < 1000 ∧ 6 ≠ 0) (ocons (len_row' (L := b5_5) (eSol true)) (ocons (app_one (L := b5_5) (M := [(Sol.mk false (Pl.mk 0 0 0 0) [])]) (eSol true) c8) (ocons (@rfl _ ((eSol true).f b5_5 ++ [bl false, i64 0, i64 0, i64 0, i64 0, .nil])) (ocons (app_m (L := b5_5) (M := [(Sol.mk false (Pl.mk 0 0 0 0) [])]) (eSol true) rfl) (ocons (len_row' (L := [(Sol.mk false (Pl.mk 0 0 0 0) [])]) (eSol true)) (ocons (rflB (⟨false, 6, (eSol true).f b5_5 ++ [bl false, i64 0, i64 0, i64 0, i64 0, .nil]⟩)) (ocons (wkAppNil false false 0 0 0 0 b5_5) onil))))))))) (ocons (len_row (L := (b5_5 ++ [(Sol.mk false (Pl.mk 0 0 0 0) [])])) (eSol true)) onil) (show WkV (.agg [bl b5_0, i64 b5_1, i64 b5_2, i64 b5_3, i64 b5_4, .sl true 6 (b5_5 ++ [(Sol.mk false (Pl.mk 0 0 0 0) [])]).length ((eSol true).f (b5_5 ++ [(Sol.mk false (Pl.mk 0 0 0 0) [])]))]) _ from .inl (.inr ⟨_, _, rfl, rfl, ⟨.inl rfl, .inl rfl, .inl rfl, .inl rfl, .inl rfl, wkShareC (L := (b5_5 ++ [(Sol.mk false (Pl.mk 0 0 0 0) [])])) (eSol true) (eSol false) (sSol true), trivial⟩⟩)) (by kernel_rfl)
def Dspec_l8Bend_0 (n : Nat) (self : (((List Int) × Int × Int) × Sol) → Option (Sol × ((List Int) × Int × Int))) (t16 b4_0 : Bool) (b4_1 b4_2 b4_3 b4_4 : Int) (b5_0 : Bool) (b5_1 b5_2 b5_3 b5_4 : Int) (b5_5 : List Sol) (b1000_0 : List Int) (b1000_1 b1000_2 : Int) : Option (Sol × ((List Int) × Int × Int)) :=
  frk t16 ((Dspec_l1Below (b1000_0, b1000_1, b1000_2) 2).bind fun v2 => Dspec_l8Bend_1 n self v2.1 b4_0 b4_1 b4_2 b4_3 b4_4 b5_0 b5_1 b5_2 b5_3 b5_4 b5_5 v2.2.1 v2.2.2.1 v2.2.2.2) ((Dspec_l1Below (b1000_0, b1000_1, b1000_2) 6).bind fun v6 => frk (v6.1 == 0) (some ((Sol.mk (!b5_0) (Pl.mk b5_1 b5_2 b5_3 b5_4) b5_5), v6.2)) (frk (v6.1 == 1) ((Dspec_l3DrawAny n v6.2).bind fun v7 => some ((Sol.mk b5_0 v7.1 b5_5), v7.2)) (frk (v6.1 == 2) (Dspec_l8Bend_2 n self b4_0 b4_1 b4_2 b4_3 b4_4 b5_0 b5_1 b5_2 b5_3 b5_4 b5_5 v6.2.1 v6.2.2.1 v6.2.2.2) (frk (v6.1 == 3) ((Dspec_Leaf true).bind fun v9 => (Dspec_l8Node (Pl.mk b5_1 b5_2 b5_3 b5_4) (Sol.mk b5_0 (Pl.mk b5_1 b5_2 b5_3 b5_4) b5_5) v9).bind fun v10 => some (v10, v6.2)) (frk (v6.1 == 4) (some ((Sol.mk b5_0 (Pl.mk b5_1 b5_2 b5_3 b5_4) []), v6.2)) (some ((Sol.mk b5_0 (Pl.mk b5_1 b5_2 b5_3 b5_4) b5_5), v6.2)))))))
theorem Tspec_l8Bend_0 {Y} (n : Nat) (self : (((List Int) × Int × Int) × Sol) → Option (Sol × ((List Int) × Int × Int))) (hself : ∀ (a : (((List Int) × Int × Int) × Sol)) (r : (Sol × ((List Int) × Int × Int))), self a = some r → Big Tryz.prog H Y (.call 78 [.ptr 1000 0, .agg [bl a.2.inn, i64 a.2.pl.A, i64 a.2.pl.B, i64 a.2.pl.C, i64 a.2.pl.D, .sl false 6 a.2.kids.length ((eSol false).f a.2.kids)]] (lk [(1000, ⟨true, 0, [.sl false 1 a.1.1.length ((eU8).f a.1.1), i64 a.1.2.1, i64 a.1.2.2]⟩)]) (.agg [bl r.1.inn, i64 r.1.pl.A, i64 r.1.pl.B, i64 r.1.pl.C, i64 r.1.pl.D, .sl false 6 r.1.kids.length ((eSol false).f r.1.kids)]) (lk [(1000, ⟨true, 0, [.sl false 1 r.2.1.length ((eU8).f r.2.1), i64 r.2.2.1, i64 r.2.2.2]⟩)]))) (t16 b4_0 : Bool) (b4_1 b4_2 b4_3 b4_4 : Int) (b5_0 : Bool) (b5_1 b5_2 b5_3 b5_4 : Int) (b5_5 : List Sol) (b1000_0 : List Int) (b1000_1 b1000_2 : Int) (r : (Sol × ((List Int) × Int × Int))) (h : Dspec_l8Bend_0 n self t16 b4_0 b4_1 b4_2 b4_3 b4_4 b5_0 b5_1 b5_2 b5_3 b5_4 b5_5 b1000_0 b1000_1 b1000_2 = some r) : Wk Tryz.prog H Y 78 [.code (cp [1, 1, 0, 1] (bodyOf Tryz.f78)), .code (cp [1, 1, 1] (bodyOf Tryz.f78))] (FinX Tryz.prog Tryz.f78 [(1000, ⟨true, 0, [.bad, .bad, .bad]⟩)] (.agg [bl r.1.inn, i64 r.1.pl.A, i64 r.1.pl.B, i64 r.1.pl.C, i64 r.1.pl.D, .sl false 6 r.1.kids.length ((eSol false).f r.1.kids)]) [(1000, ⟨true, 0, [.sl false 1 r.2.1.length ((eU8).f r.2.1), i64 r.2.2.1, i64 r.2.2.2]⟩)]) ⟨[(0, .ptr 1000 0), (4, .ptr 4 0), (5, .ptr 5 0), (16, bl t16)], [(4, ⟨true, 0, [bl b4_0, i64 b4_1, i64 b4_2, i64 b4_3, i64 b4_4, .nil]⟩), (5, ⟨true, 0, [bl b5_0, i64 b5_1, i64 b5_2, i64 b5_3, i64 b5_4, .sl true 6 b5_5.length ((eSol true).f b5_5)]⟩), (1000, ⟨true, 0, [.sl false 1 b1000_0.length ((eU8).f b1000_0), i64 b1000_1, i64 b1000_2]⟩)]⟩ := by
  unfold Dspec_l8Bend_0 at h
  refine x_frk 0 [] onil h (by kernel_rfl) (fun h => ?_) (fun h => ?_)
  · obtain ⟨v2, hv2, h⟩ := bind_some h
    exact x_to 7 [(1, .call [] [] (i64 v2.1) [(1000, ⟨true, 0, [.sl false 1 v2.2.1.length ((eU8).f v2.2.1), i64 v2.2.2.1, i64 v2.2.2.2]⟩)])] (ocons (Tspec_l1Below (Y := Y) (b1000_0, b1000_1, b1000_2) 2 _ hv2) onil) (Tspec_l8Bend_1 n self hself v2.1 b4_0 b4_1 b4_2 b4_3 b4_4 b5_0 b5_1 b5_2 b5_3 b5_4 b5_5 v2.2.1 v2.2.2.1 v2.2.2.2 r h) (by kernel_rfl)
  · obtain ⟨v6, hv6, h⟩ := bind_some h
    refine x_frk 13 [(1, .call [] [] (i64 v6.1) [(1000, ⟨true, 0, [.sl false 1 v6.2.1.length ((eU8).f v6.2.1), i64 v6.2.2.1, i64 v6.2.2.2]⟩)])] (ocons (Tspec_l1Below (Y := Y) (b1000_0, b1000_1, b1000_2) 6 _ hv6) onil) h (by kernel_rfl) (fun h => ?_) (fun h => ?_)
    · replace h := Option.some.inj h; subst h
      exact x_endS 13 [] onil onil (show WkV (.agg [bl (!b5_0), i64 b5_1, i64 b5_2, i64 b5_3, i64 b5_4, .sl true 6 b5_5.length ((eSol true).f b5_5)]) _ from .inl (.inr ⟨_, _, rfl, rfl, ⟨.inl rfl, .inl rfl, .inl rfl, .inl rfl, .inl rfl, wkShareC (L := b5_5) (eSol true) (eSol false) (sSol true), trivial⟩⟩)) (by kernel_rfl)
    · refine x_frk 5 [] onil h (by kernel_rfl) (fun h => ?_) (fun h => ?_)
      · obtain ⟨v7, hv7, h⟩ := bind_some h
        replace h := Option.some.inj h; subst h
        exact x_endS 12 [(1, .call [] [] (.agg [i64 v7.1.A, i64 v7.1.B, i64 v7.1.C, i64 v7.1.D]) [(1000, ⟨true, 0, [.sl false 1 v7.2.1.length ((eU8).f v7.2.1), i64 v7.2.2.1, i64 v7.2.2.2]⟩)])] (ocons (Tspec_l3DrawAny (Y := Y) n v6.2 _ hv7) onil) onil (show WkV (.agg [bl b5_0, i64 v7.1.A, i64 v7.1.B, i64 v7.1.C, i64 v7.1.D, .sl true 6 b5_5.length ((eSol true).f b5_5)]) _ from .inl (.inr ⟨_, _, rfl, rfl, ⟨.inl rfl, .inl rfl, .inl rfl, .inl rfl, .inl rfl, wkShareC (L := b5_5) (eSol true) (eSol false) (sSol true), trivial⟩⟩)) (by kernel_rfl)
      · refine x_frk 5 [] onil h (by kernel_rfl) (fun h => ?_) (fun h => ?_)
        · exact x_to 0 [] onil (Tspec_l8Bend_2 n self hself b4_0 b4_1 b4_2 b4_3 b4_4 b5_0 b5_1 b5_2 b5_3 b5_4 b5_5 v6.2.1 v6.2.2.1 v6.2.2.2 r h) (by kernel_rfl)
        · refine x_frk 5 [] onil h (by kernel_rfl) (fun h => ?_) (fun h => ?_)
          · obtain ⟨v9, hv9, h⟩ := bind_some h
            obtain ⟨v10, hv10, h⟩ := bind_some h
            replace h := Option.some.inj h; subst h
            exact x_end 14 [(2, .rows [(eSol false).f b5_5]), (0, .call [] [] (.agg [bl v9.inn, i64 v9.pl.A, i64 v9.pl.B, i64 v9.pl.C, i64 v9.pl.D, .sl true 6 v9.kids.length ((eSol true).f v9.kids)]) []), (0, .call [] [] (.agg [bl v10.inn, i64 v10.pl.A, i64 v10.pl.B, i64 v10.pl.C, i64 v10.pl.D, .sl false 6 v10.kids.length ((eSol false).f v10.kids)]) [])] [] (ocons (Enc.share (eSol true) (eSol false) (sSol true) b5_5) (ocons (Tspec_Leaf (Y := Y) true _ hv9) (ocons (Big.wka (show WkT [.agg [i64 b5_1, i64 b5_2, i64 b5_3, i64 b5_4], .agg [bl b5_0, i64 b5_1, i64 b5_2, i64 b5_3, i64 b5_4, .sl false 6 b5_5.length ((eSol false).f b5_5)], .agg [bl v9.inn, i64 v9.pl.A, i64 v9.pl.B, i64 v9.pl.C, i64 v9.pl.D, .sl true 6 v9.kids.length ((eSol true).f v9.kids)]] [.agg [i64 b5_1, i64 b5_2, i64 b5_3, i64 b5_4], .agg [bl b5_0, i64 b5_1, i64 b5_2, i64 b5_3, i64 b5_4, .sl false 6 b5_5.length ((eSol false).f b5_5)], .agg [bl v9.inn, i64 v9.pl.A, i64 v9.pl.B, i64 v9.pl.C, i64 v9.pl.D, .sl false 6 v9.kids.length ((eSol false).f v9.kids)]] from ⟨wkSameU _, wkSameU _, .inr ⟨_, _, rfl, rfl, ⟨.inl rfl, .inl rfl, .inl rfl, .inl rfl, .inl rfl, wkShareC (L := v9.kids) (eSol true) (eSol false) (sSol true), trivial⟩⟩, trivial⟩) (Tspec_l8Node (Y := Y) (Pl.mk b5_1 b5_2 b5_3 b5_4) (Sol.mk b5_0 (Pl.mk b5_1 b5_2 b5_3 b5_4) b5_5) v9 _ hv10)) onil))) onil (by kernel_rfl)
          · refine x_frk 5 [] onil h (by kernel_rfl) (fun h => ?_) (fun h => ?_)
            · replace h := Option.some.inj h; subst h
              exact x_endS 11 [] onil (ocons (len_row (L := []) (eSol true)) onil) (show WkV (.agg [bl b5_0, i64 b5_1, i64 b5_2, i64 b5_3, i64 b5_4, .sl true 6 0 ((eSol true).f [])]) _ from .inl (.inr ⟨_, _, rfl, rfl, ⟨.inl rfl, .inl rfl, .inl rfl, .inl rfl, .inl rfl, wkShareC (L := []) (eSol true) (eSol false) (sSol true), trivial⟩⟩)) (by kernel_rfl)
            · replace h := Option.some.inj h; subst h
              exact x_endS 7 [] onil onil (show WkV (.agg [bl b5_0, i64 b5_1, i64 b5_2, i64 b5_3, i64 b5_4, .sl true 6 b5_5.length ((eSol true).f b5_5)]) _ from .inl (.inr ⟨_, _, rfl, rfl, ⟨.inl rfl, .inl rfl, .inl rfl, .inl rfl, .inl rfl, wkShareC (L := b5_5) (eSol true) (eSol false) (sSol true), trivial⟩⟩)) (by kernel_rfl)
def Dspec_l8Bend_3 (n : Nat) (self : (((List Int) × Int × Int) × Sol) → Option (Sol × ((List Int) × Int × Int))) (b4_0 : Bool) (b4_1 b4_2 b4_3 b4_4 : Int) (b5_0 : Bool) (b5_1 b5_2 b5_3 b5_4 : Int) (b5_5 : List Sol) (b1000_0 : List Int) (b1000_1 b1000_2 : Int) : Option (Sol × ((List Int) × Int × Int)) :=
  (Dspec_l1Below (b1000_0, b1000_1, b1000_2) 6).bind fun v11 => frk (v11.1 == 0) (some ((Sol.mk (!b5_0) (Pl.mk b5_1 b5_2 b5_3 b5_4) b5_5), v11.2)) (frk (v11.1 == 1) ((Dspec_l3DrawAny n v11.2).bind fun v12 => some ((Sol.mk b5_0 v12.1 b5_5), v12.2)) (frk (v11.1 == 2) (Dspec_l8Bend_2 n self b4_0 b4_1 b4_2 b4_3 b4_4 b5_0 b5_1 b5_2 b5_3 b5_4 b5_5 v11.2.1 v11.2.2.1 v11.2.2.2) (frk (v11.1 == 3) ((Dspec_Leaf true).bind fun v13 => (Dspec_l8Node (Pl.mk b5_1 b5_2 b5_3 b5_4) (Sol.mk b5_0 (Pl.mk b5_1 b5_2 b5_3 b5_4) b5_5) v13).bind fun v14 => some (v14, v11.2)) (frk (v11.1 == 4) (some ((Sol.mk b5_0 (Pl.mk b5_1 b5_2 b5_3 b5_4) []), v11.2)) (some ((Sol.mk b5_0 (Pl.mk b5_1 b5_2 b5_3 b5_4) b5_5), v11.2))))))
theorem Tspec_l8Bend_3 {Y} (n : Nat) (self : (((List Int) × Int × Int) × Sol) → Option (Sol × ((List Int) × Int × Int))) (hself : ∀ (a : (((List Int) × Int × Int) × Sol)) (r : (Sol × ((List Int) × Int × Int))), self a = some r → Big Tryz.prog H Y (.call 78 [.ptr 1000 0, .agg [bl a.2.inn, i64 a.2.pl.A, i64 a.2.pl.B, i64 a.2.pl.C, i64 a.2.pl.D, .sl false 6 a.2.kids.length ((eSol false).f a.2.kids)]] (lk [(1000, ⟨true, 0, [.sl false 1 a.1.1.length ((eU8).f a.1.1), i64 a.1.2.1, i64 a.1.2.2]⟩)]) (.agg [bl r.1.inn, i64 r.1.pl.A, i64 r.1.pl.B, i64 r.1.pl.C, i64 r.1.pl.D, .sl false 6 r.1.kids.length ((eSol false).f r.1.kids)]) (lk [(1000, ⟨true, 0, [.sl false 1 r.2.1.length ((eU8).f r.2.1), i64 r.2.2.1, i64 r.2.2.2]⟩)]))) (b4_0 : Bool) (b4_1 b4_2 b4_3 b4_4 : Int) (b5_0 : Bool) (b5_1 b5_2 b5_3 b5_4 : Int) (b5_5 : List Sol) (b1000_0 : List Int) (b1000_1 b1000_2 : Int) (r : (Sol × ((List Int) × Int × Int))) (h : Dspec_l8Bend_3 n self b4_0 b4_1 b4_2 b4_3 b4_4 b5_0 b5_1 b5_2 b5_3 b5_4 b5_5 b1000_0 b1000_1 b1000_2 = some r) : Wk Tryz.prog H Y 78 [.code (cp [1, 1, 1, 0, 0] (bodyOf Tryz.f78)), .code (cp [1, 1, 1, 0, 1] (bodyOf Tryz.f78)), .code (cp [1, 1, 1, 1] (bodyOf Tryz.f78))] (FinX Tryz.prog Tryz.f78 [(1000, ⟨true, 0, [.bad, .bad, .bad]⟩)] (.agg [bl r.1.inn, i64 r.1.pl.A, i64 r.1.pl.B, i64 r.1.pl.C, i64 r.1.pl.D, .sl false 6 r.1.kids.length ((eSol false).f r.1.kids)]) [(1000, ⟨true, 0, [.sl false 1 r.2.1.length ((eU8).f r.2.1), i64 r.2.2.1, i64 r.2.2.2]⟩)]) ⟨[(0, .ptr 1000 0), (4, .ptr 4 0), (5, .ptr 5 0)], [(4, ⟨true, 0, [bl b4_0, i64 b4_1, i64 b4_2, i64 b4_3, i64 b4_4, .nil]⟩), (5, ⟨true, 0, [bl b5_0, i64 b5_1, i64 b5_2, i64 b5_3, i64 b5_4, .sl true 6 b5_5.length ((eSol true).f b5_5)]⟩), (1000, ⟨true, 0, [.sl false 1 b1000_0.length ((eU8).f b1000_0), i64 b1000_1, i64 b1000_2]⟩)]⟩ := by
  unfold Dspec_l8Bend_3 at h
  obtain ⟨v11, hv11, h⟩ := bind_some h
  refine x_frk 10 [(1, .call [] [] (i64 v11.1) [(1000, ⟨true, 0, [.sl false 1 v11.2.1.length ((eU8).f v11.2.1), i64 v11.2.2.1, i64 v11.2.2.2]⟩)])] (ocons (Tspec_l1Below (Y := Y) (b1000_0, b1000_1, b1000_2) 6 _ hv11) onil) h (by kernel_rfl) (fun h => ?_) (fun h => ?_)
  · replace h := Option.some.inj h; subst h
    exact x_endS 13 [] onil onil (show WkV (.agg [bl (!b5_0), i64 b5_1, i64 b5_2, i64 b5_3, i64 b5_4, .sl true 6 b5_5.length ((eSol true).f b5_5)]) _ from .inl (.inr ⟨_, _, rfl, rfl, ⟨.inl rfl, .inl rfl, .inl rfl, .inl rfl, .inl rfl, wkShareC (L := b5_5) (eSol true) (eSol false) (sSol true), trivial⟩⟩)) (by kernel_rfl)
  · refine x_frk 5 [] onil h (by kernel_rfl) (fun h => ?_) (fun h => ?_)
    · obtain ⟨v12, hv12, h⟩ := bind_some h
      replace h := Option.some.inj h; subst h
      exact x_endS 12 [(1, .call [] [] (.agg [i64 v12.1.A, i64 v12.1.B, i64 v12.1.C, i64 v12.1.D]) [(1000, ⟨true, 0, [.sl false 1 v12.2.1.length ((eU8).f v12.2.1), i64 v12.2.2.1, i64 v12.2.2.2]⟩)])] (ocons (Tspec_l3DrawAny (Y := Y) n v11.2 _ hv12) onil) onil (show WkV (.agg [bl b5_0, i64 v12.1.A, i64 v12.1.B, i64 v12.1.C, i64 v12.1.D, .sl true 6 b5_5.length ((eSol true).f b5_5)]) _ from .inl (.inr ⟨_, _, rfl, rfl, ⟨.inl rfl, .inl rfl, .inl rfl, .inl rfl, .inl rfl, wkShareC (L := b5_5) (eSol true) (eSol false) (sSol true), trivial⟩⟩)) (by kernel_rfl)
    · refine x_frk 5 [] onil h (by kernel_rfl) (fun h => ?_) (fun h => ?_)
      · exact x_to 0 [] onil (Tspec_l8Bend_2 n self hself b4_0 b4_1 b4_2 b4_3 b4_4 b5_0 b5_1 b5_2 b5_3 b5_4 b5_5 v11.2.1 v11.2.2.1 v11.2.2.2 r h) (by kernel_rfl)
      · refine x_frk 5 [] onil h (by kernel_rfl) (fun h => ?_) (fun h => ?_)
        · obtain ⟨v13, hv13, h⟩ := bind_some h
          obtain ⟨v14, hv14, h⟩ := bind_some h
          replace h := Option.some.inj h; subst h
          exact x_end 14 [(2, .rows [(eSol false).f b5_5]), (0, .call [] [] (.agg [bl v13.inn, i64 v13.pl.A, i64 v13.pl.B, i64 v13.pl.C, i64 v13.pl.D, .sl true 6 v13.kids.length ((eSol true).f v13.kids)]) []), (0, .call [] [] (.agg [bl v14.inn, i64 v14.pl.A, i64 v14.pl.B, i64 v14.pl.C, i64 v14.pl.D, .sl false 6 v14.kids.length ((eSol false).f v14.kids)]) [])] [] (ocons (Enc.share (eSol true) (eSol false) (sSol true) b5_5) (ocons (Tspec_Leaf (Y := Y) true _ hv13) (ocons (Big.wka (show WkT [.agg [i64 b5_1, i64 b5_2, i64 b5_3, i64 b5_4], .agg [bl b5_0, i64 b5_1, i64 b5_2, i64 b5_3, i64 b5_4, .sl false 6 b5_5.length ((eSol false).f b5_5)], .agg [bl v13.inn, i64 v13.pl.A, i64 v13.pl.B, i64 v13.pl.C, i64 v13.pl.D, .sl true 6 v13.kids.length ((eSol true).f v13.kids)]] [.agg [i64 b5_1, i64 b5_2, i64 b5_3, i64 b5_4], .agg [bl b5_0, i64 b5_1, i64 b5_2, i64 b5_3, i64 b5_4, .sl false 6 b5_5.length ((eSol false).f b5_5)], .agg [bl v13.inn, i64 v13.pl.A, i64 v13.pl.B, i64 v13.pl.C, i64 v13.pl.D, .sl false 6 v13.kids.length ((eSol false).f v13.kids)]] from ⟨wkSameU _, wkSameU _, .inr ⟨_, _, rfl, rfl, ⟨.inl rfl, .inl rfl, .inl rfl, .inl rfl, .inl rfl, wkShareC (L := v13.kids) (eSol true) (eSol false) (sSol true), trivial⟩⟩, trivial⟩) (Tspec_l8Node (Y := Y) (Pl.mk b5_1 b5_2 b5_3 b5_4) (Sol.mk b5_0 (Pl.mk b5_1 b5_2 b5_3 b5_4) b5_5) v13 _ hv14)) onil))) onil (by kernel_rfl)
        · refine x_frk 5 [] onil h (by kernel_rfl) (fun h => ?_) (fun h => ?_)
          · replace h := Option.some.inj h; subst h
            exact x_endS 11 [] onil (ocons (len_row (L := []) (eSol true)) onil) (show WkV (.agg [bl b5_0, i64 b5_1, i64 b5_2, i64 b5_3, i64 b5_4, .sl true 6 0 ((eSol true).f [])]) _ from .inl (.inr ⟨_, _, rfl, rfl, ⟨.inl rfl, .inl rfl, .inl rfl, .inl rfl, .inl rfl, wkShareC (L := []) (eSol true) (eSol false) (sSol true), trivial⟩⟩)) (by kernel_rfl)
          · replace h := Option.some.inj h; subst h
            exact x_endS 7 [] onil onil (show WkV (.agg [bl b5_0, i64 b5_1, i64 b5_2, i64 b5_3, i64 b5_4, .sl true 6 b5_5.length ((eSol true).f b5_5)]) _ from .inl (.inr ⟨_, _, rfl, rfl, ⟨.inl rfl, .inl rfl, .inl rfl, .inl rfl, .inl rfl, wkShareC (L := b5_5) (eSol true) (eSol false) (sSol true), trivial⟩⟩)) (by kernel_rfl)
def Dspec_l8Bend_b (n : Nat) (self : (((List Int) × Int × Int) × Sol) → Option (Sol × ((List Int) × Int × Int))) (a : (((List Int) × Int × Int) × Sol)) : Option (Sol × ((List Int) × Int × Int)) :=
  match a with
  | (a0, a1) => (Dspec_l8Copy n a1).bind fun v0 => frk ((v0.kids.length : Int) == 2) ((Dspec_l1Once a0 2).bind fun v1 => Dspec_l8Bend_0 n self v1.1 false 0 0 0 0 v0.inn v0.pl.A v0.pl.B v0.pl.C v0.pl.D v0.kids v1.2.1 v1.2.2.1 v1.2.2.2) (Dspec_l8Bend_3 n self false 0 0 0 0 v0.inn v0.pl.A v0.pl.B v0.pl.C v0.pl.D v0.kids a0.1 a0.2.1 a0.2.2)
def Dspec_l8Bend (n : Nat) (a0 : ((List Int) × Int × Int)) (a1 : Sol) : Option (Sol × ((List Int) × Int × Int)) := loopN (Dspec_l8Bend_b n) n (a0, a1)
theorem Tspec_l8Bend_b {Y} (n : Nat) : ∀ (m : Nat) (a : (((List Int) × Int × Int) × Sol)) (r : (Sol × ((List Int) × Int × Int))), loopN (Dspec_l8Bend_b n) m a = some r → ∀ (_ : Unit), Big Tryz.prog H Y (.call 78 [.ptr 1000 0, .agg [bl a.2.inn, i64 a.2.pl.A, i64 a.2.pl.B, i64 a.2.pl.C, i64 a.2.pl.D, .sl false 6 a.2.kids.length ((eSol false).f a.2.kids)]] (lk [(1000, ⟨true, 0, [.sl false 1 a.1.1.length ((eU8).f a.1.1), i64 a.1.2.1, i64 a.1.2.2]⟩)]) (.agg [bl r.1.inn, i64 r.1.pl.A, i64 r.1.pl.B, i64 r.1.pl.C, i64 r.1.pl.D, .sl false 6 r.1.kids.length ((eSol false).f r.1.kids)]) (lk [(1000, ⟨true, 0, [.sl false 1 r.2.1.length ((eU8).f r.2.1), i64 r.2.2.1, i64 r.2.2.2]⟩)])) := by
  refine loopN_ind (fun self hs a r h => ?_)
  have hself : ∀ (a : (((List Int) × Int × Int) × Sol)) (r : (Sol × ((List Int) × Int × Int))), self a = some r → Big Tryz.prog H Y (.call 78 [.ptr 1000 0, .agg [bl a.2.inn, i64 a.2.pl.A, i64 a.2.pl.B, i64 a.2.pl.C, i64 a.2.pl.D, .sl false 6 a.2.kids.length ((eSol false).f a.2.kids)]] (lk [(1000, ⟨true, 0, [.sl false 1 a.1.1.length ((eU8).f a.1.1), i64 a.1.2.1, i64 a.1.2.2]⟩)]) (.agg [bl r.1.inn, i64 r.1.pl.A, i64 r.1.pl.B, i64 r.1.pl.C, i64 r.1.pl.D, .sl false 6 r.1.kids.length ((eSol false).f r.1.kids)]) (lk [(1000, ⟨true, 0, [.sl false 1 r.2.1.length ((eU8).f r.2.1), i64 r.2.2.1, i64 r.2.2.2]⟩)])) := fun a r h => hs a r h ()
  intro _
  obtain ⟨a0, a1⟩ := a
  unfold Dspec_l8Bend_b at h
  refine x_call (fn := Tryz.f78) (c := bodyOf Tryz.f78) (bs0 := [(1000, ⟨true, 0, [.bad, .bad, .bad]⟩)]) Tryz.func78 (by kernel_rfl) (by kernel_rfl) ?_
  obtain ⟨v0, hv0, h⟩ := bind_some h
  refine x_frk 20 [(3, .call [] [] (.agg [bl v0.inn, i64 v0.pl.A, i64 v0.pl.B, i64 v0.pl.C, i64 v0.pl.D, .sl true 6 v0.kids.length ((eSol true).f v0.kids)]) []), (3, .rows [(eSol false).f v0.kids])] (ocons (Tspec_l8Copy (Y := Y) n a1 _ hv0) (ocons (Enc.share (eSol true) (eSol false) (sSol true) v0.kids) onil)) h (by kernel_rfl) (fun h => ?_) (fun h => ?_)
  · obtain ⟨v1, hv1, h⟩ := bind_some h
    exact x_to 4 [(1, .call [] [] (bl v1.1) [(1000, ⟨true, 0, [.sl false 1 v1.2.1.length ((eU8).f v1.2.1), i64 v1.2.2.1, i64 v1.2.2.2]⟩)])] (ocons (Tspec_l1Once (Y := Y) a0 2 _ hv1) onil) (Tspec_l8Bend_0 n self hself v1.1 false 0 0 0 0 v0.inn v0.pl.A v0.pl.B v0.pl.C v0.pl.D v0.kids v1.2.1 v1.2.2.1 v1.2.2.2 r h) (by kernel_rfl)
  · exact x_to 8 [] onil (Tspec_l8Bend_3 n self hself false 0 0 0 0 v0.inn v0.pl.A v0.pl.B v0.pl.C v0.pl.D v0.kids a0.1 a0.2.1 a0.2.2 r h) (by kernel_rfl)
theorem Tspec_l8Bend {Y} (n : Nat) (a0 : ((List Int) × Int × Int)) (a1 : Sol) (r : (Sol × ((List Int) × Int × Int))) (h : Dspec_l8Bend n a0 a1 = some r) : Big Tryz.prog H Y (.call 78 [.ptr 1000 0, .agg [bl a1.inn, i64 a1.pl.A, i64 a1.pl.B, i64 a1.pl.C, i64 a1.pl.D, .sl false 6 a1.kids.length ((eSol false).f a1.kids)]] (lk [(1000, ⟨true, 0, [.sl false 1 a0.1.length ((eU8).f a0.1), i64 a0.2.1, i64 a0.2.2]⟩)]) (.agg [bl r.1.inn, i64 r.1.pl.A, i64 r.1.pl.B, i64 r.1.pl.C, i64 r.1.pl.D, .sl false 6 r.1.kids.length ((eSol false).f r.1.kids)]) (lk [(1000, ⟨true, 0, [.sl false 1 r.2.1.length ((eU8).f r.2.1), i64 r.2.2.1, i64 r.2.2.2]⟩)])) := Tspec_l8Bend_b n n (a0, a1) r h ()
/-! spec.l8DrawAny -/
def Dspec_l8DrawAny_0 (n : Nat) (_b4_0 : Bool) (_b4_1 _b4_2 _b4_3 _b4_4 : Int) (b5_0 : Bool) (b5_1 b5_2 b5_3 b5_4 : Int) (b5_5 : List Sol) (b1000_0 : List Int) (b1000_1 b1000_2 : Int) : Option (Sol × ((List Int) × Int × Int)) :=
  (Dspec_l1Once (b1000_0, b1000_1, b1000_2) 10).bind fun v5 => frk v5.1 ((Dspec_l8Bend n v5.2 (Sol.mk b5_0 (Pl.mk b5_1 b5_2 b5_3 b5_4) b5_5)).bind fun v6 => some v6) (some ((Sol.mk b5_0 (Pl.mk b5_1 b5_2 b5_3 b5_4) b5_5), v5.2))
theorem Tspec_l8DrawAny_0 {Y} (n : Nat) (b4_0 : Bool) (b4_1 b4_2 b4_3 b4_4 : Int) (b5_0 : Bool) (b5_1 b5_2 b5_3 b5_4 : Int) (b5_5 : List Sol) (b1000_0 : List Int) (b1000_1 b1000_2 : Int) (r : (Sol × ((List Int) × Int × Int))) (h : Dspec_l8DrawAny_0 n b4_0 b4_1 b4_2 b4_3 b4_4 b5_0 b5_1 b5_2 b5_3 b5_4 b5_5 b1000_0 b1000_1 b1000_2 = some r) : Wk Tryz.prog H Y 33 [.code (cp [1, 1, 1, 0, 0] (bodyOf Tryz.f33)), .code (cp [1, 1, 1, 0, 1] (bodyOf Tryz.f33)), .code (cp [1, 1, 1, 1] (bodyOf Tryz.f33))] (FinX Tryz.prog Tryz.f33 [(1000, ⟨true, 0, [.bad, .bad, .bad]⟩)] (.agg [bl r.1.inn, i64 r.1.pl.A, i64 r.1.pl.B, i64 r.1.pl.C, i64 r.1.pl.D, .sl false 6 r.1.kids.length ((eSol false).f r.1.kids)]) [(1000, ⟨true, 0, [.sl false 1 r.2.1.length ((eU8).f r.2.1), i64 r.2.2.1, i64 r.2.2.2]⟩)]) ⟨[(0, .ptr 1000 0), (4, .ptr 4 0), (5, .ptr 5 0)], [(4, ⟨true, 0, [bl b4_0, i64 b4_1, i64 b4_2, i64 b4_3, i64 b4_4, .nil]⟩), (5, ⟨true, 0, [bl b5_0, i64 b5_1, i64 b5_2, i64 b5_3, i64 b5_4, .sl true 6 b5_5.length ((eSol true).f b5_5)]⟩), (1000, ⟨true, 0, [.sl false 1 b1000_0.length ((eU8).f b1000_0), i64 b1000_1, i64 b1000_2]⟩)]⟩ := by
  unfold Dspec_l8DrawAny_0 at h
  obtain ⟨v5, hv5, h⟩ := bind_some h
  refine x_frk 4 [(1, .call [] [] (bl v5.1) [(1000, ⟨true, 0, [.sl false 1 v5.2.1.length ((eU8).f v5.2.1), i64 v5.2.2.1, i64 v5.2.2.2]⟩)])] (ocons (Tspec_l1Once (Y := Y) (b1000_0, b1000_1, b1000_2) 10 _ hv5) onil) h (by kernel_rfl) (fun h => ?_) (fun h => ?_)
  · obtain ⟨v6, hv6, h⟩ := bind_some h
    replace h := Option.some.inj h; subst h
    exact x_end 12 [(0, .wkb 5 ⟨true, 0, [bl b5_0, i64 b5_1, i64 b5_2, i64 b5_3, i64 b5_4, .sl true 6 b5_5.length ((eSol true).f b5_5)]⟩ ⟨true, 0, [bl b5_0, i64 b5_1, i64 b5_2, i64 b5_3, i64 b5_4, .sl false 6 b5_5.length ((eSol false).f b5_5)]⟩), (2, .call [] [] (.agg [bl v6.1.inn, i64 v6.1.pl.A, i64 v6.1.pl.B, i64 v6.1.pl.C, i64 v6.1.pl.D, .sl false 6 v6.1.kids.length ((eSol false).f v6.1.kids)]) [(1000, ⟨true, 0, [.sl false 1 v6.2.1.length ((eU8).f v6.2.1), i64 v6.2.2.1, i64 v6.2.2.2]⟩)])] [] (ocons (rflB ⟨true, 0, [bl b5_0, i64 b5_1, i64 b5_2, i64 b5_3, i64 b5_4, .sl true 6 b5_5.length ((eSol true).f b5_5)]⟩) (ocons (show WkB ⟨true, 0, [bl b5_0, i64 b5_1, i64 b5_2, i64 b5_3, i64 b5_4, .sl true 6 b5_5.length ((eSol true).f b5_5)]⟩ ⟨true, 0, [bl b5_0, i64 b5_1, i64 b5_2, i64 b5_3, i64 b5_4, .sl false 6 b5_5.length ((eSol false).f b5_5)]⟩ from ⟨rfl, rfl, ⟨.inl rfl, .inl rfl, .inl rfl, .inl rfl, .inl rfl, wkShareC (L := b5_5) (eSol true) (eSol false) (sSol true), trivial⟩⟩) (ocons (Tspec_l8Bend (Y := Y) n v5.2 (Sol.mk b5_0 (Pl.mk b5_1 b5_2 b5_3 b5_4) b5_5) _ hv6) onil))) onil (by kernel_rfl)
  · replace h := Option.some.inj h; subst h
    exact x_endS 6 [] onil onil (show WkV (.agg [bl b5_0, i64 b5_1, i64 b5_2, i64 b5_3, i64 b5_4, .sl true 6 b5_5.length ((eSol true).f b5_5)]) _ from .inl (.inr ⟨_, _, rfl, rfl, ⟨.inl rfl, .inl rfl, .inl rfl, .inl rfl, .inl rfl, wkShareC (L := b5_5) (eSol true) (eSol false) (sSol true), trivial⟩⟩)) (by kernel_rfl)
def Dspec_l8DrawAny (n : Nat) (a0 : ((List Int) × Int × Int)) (a1 : Int) : Option (Sol × ((List Int) × Int × Int)) :=
  (Dspec_l1Below a0 a1).bind fun v0 => (Dspec_l8Grow n v0.2 [] (w64 (1 + v0.1))).bind fun v1 => (Dspec_l1Once v1.2 4).bind fun v2 => frk v2.1 ((Dspec_l6Cell n v2.2 3).bind fun v3 => (Dspec_Convex n v3.1).bind fun v4 => Dspec_l8DrawAny_0 n false 0 0 0 0 v4.1.inn v4.1.pl.A v4.1.pl.B v4.1.pl.C v4.1.pl.D v4.1.kids v3.2.1 v3.2.2.1 v3.2.2.2) (Dspec_l8DrawAny_0 n false 0 0 0 0 v1.1.inn v1.1.pl.A v1.1.pl.B v1.1.pl.C v1.1.pl.D v1.1.kids v2.2.1 v2.2.2.1 v2.2.2.2)
theorem Tspec_l8DrawAny {Y} (n : Nat) (a0 : ((List Int) × Int × Int)) (a1 : Int) (r : (Sol × ((List Int) × Int × Int))) (h : Dspec_l8DrawAny n a0 a1 = some r) : Big Tryz.prog H Y (.call 33 [.ptr 1000 0, i64 a1] (lk [(1000, ⟨true, 0, [.sl false 1 a0.1.length ((eU8).f a0.1), i64 a0.2.1, i64 a0.2.2]⟩)]) (.agg [bl r.1.inn, i64 r.1.pl.A, i64 r.1.pl.B, i64 r.1.pl.C, i64 r.1.pl.D, .sl false 6 r.1.kids.length ((eSol false).f r.1.kids)]) (lk [(1000, ⟨true, 0, [.sl false 1 r.2.1.length ((eU8).f r.2.1), i64 r.2.2.1, i64 r.2.2.2]⟩)])) := by
  unfold Dspec_l8DrawAny at h
  refine x_call (fn := Tryz.f33) (c := bodyOf Tryz.f33) (bs0 := [(1000, ⟨true, 0, [.bad, .bad, .bad]⟩)]) Tryz.func33 (by kernel_rfl) (by kernel_rfl) ?_
  obtain ⟨v0, hv0, h⟩ := bind_some h
  obtain ⟨v1, hv1, h⟩ := bind_some h
  obtain ⟨v2, hv2, h⟩ := bind_some h
  refine x_frk 22 [(5, .call [] [] (i64 v0.1) [(1000, ⟨true, 0, [.sl false 1 v0.2.1.length ((eU8).f v0.2.1), i64 v0.2.2.1, i64 v0.2.2.2]⟩)]), (1, .call [] [] (.agg [bl v1.1.inn, i64 v1.1.pl.A, i64 v1.1.pl.B, i64 v1.1.pl.C, i64 v1.1.pl.D, .sl true 6 v1.1.kids.length ((eSol true).f v1.1.kids)]) [(1000, ⟨true, 0, [.sl false 1 v1.2.1.length ((eU8).f v1.2.1), i64 v1.2.2.1, i64 v1.2.2.2]⟩)]), (3, .call [] [] (bl v2.1) [(1000, ⟨true, 0, [.sl false 1 v2.2.1.length ((eU8).f v2.2.1), i64 v2.2.2.1, i64 v2.2.2.2]⟩)])] (ocons (Tspec_l1Below (Y := Y) a0 a1 _ hv0) (ocons (Big.wka (show WkT [.ptr 1000 0, .sl true 4 0 ((ePl).f []), i64 (w64 (1 + v0.1))] [.ptr 1000 0, .sl false 4 0 ((ePl).f []), i64 (w64 (1 + v0.1))] from ⟨wkSameU _, wkShareU (L := []) ePl ePl sPl, wkSameU _, trivial⟩) (Tspec_l8Grow (Y := Y) n v0.2 [] (w64 (1 + v0.1)) _ hv1)) (ocons (len_row (L := []) ePl) (ocons (Tspec_l1Once (Y := Y) v1.2 4 _ hv2) onil)))) h (by kernel_rfl) (fun h => ?_) (fun h => ?_)
  · obtain ⟨v3, hv3, h⟩ := bind_some h
    obtain ⟨v4, hv4, h⟩ := bind_some h
    exact x_to 11 [(1, .call [] [] (.sl false 4 v3.1.length ((ePl).f v3.1)) [(1000, ⟨true, 0, [.sl false 1 v3.2.1.length ((eU8).f v3.2.1), i64 v3.2.2.1, i64 v3.2.2.2]⟩)]), (0, .call [] [] (.tup [.agg [bl v4.1.inn, i64 v4.1.pl.A, i64 v4.1.pl.B, i64 v4.1.pl.C, i64 v4.1.pl.D, .sl true 6 v4.1.kids.length ((eSol true).f v4.1.kids)], i64 v4.2]) [])] (ocons (shSl (L := v3.1) ePl ePl sPl (Tspec_l6Cell (Y := Y) n v2.2 3 _ hv3)) (ocons (Tspec_Convex (Y := Y) n v3.1 _ hv4) onil)) (Tspec_l8DrawAny_0 n false 0 0 0 0 v4.1.inn v4.1.pl.A v4.1.pl.B v4.1.pl.C v4.1.pl.D v4.1.kids v3.2.1 v3.2.2.1 v3.2.2.2 r h) (by kernel_rfl)
  · exact x_to 3 [] onil (Tspec_l8DrawAny_0 n false 0 0 0 0 v1.1.inn v1.1.pl.A v1.1.pl.B v1.1.pl.C v1.1.pl.D v1.1.kids v2.2.1 v2.2.2.1 v2.2.2.2 r h) (by kernel_rfl)
/-! spec.l17Grid -/
def Dspec_l17Grid (a0 : ((List Int) × Int × Int)) : Option (Pt × Pt × ((List Int) × Int × Int)) :=
  (Dspec_l1Below a0 6).bind fun v0 => (Dspec_l1Below v0.2 6).bind fun v1 => (Dspec_l1Below v1.2 6).bind fun v2 => (Dspec_l1Below v2.2 5).bind fun v3 => (Dspec_l1Below v3.2 5).bind fun v4 => (Dspec_l1Below v4.2 4).bind fun v5 => (Dspec_l1Below v5.2 12).bind fun v6 => frk (v6.1 == 0) ((Dspec_l1Int v6.2 [(-1), 15, 16]).bind fun v7 => some ((Pt.mk (w64 (v0.1 - 4)) (w64 (v1.1 - 4)) (w64 (v2.1 - 4))), (Pt.mk (w64 ((w64 (v0.1 - 4)) + v7.1)) (w64 ((w64 (v1.1 - 4)) + v4.1)) (w64 ((w64 (v2.1 - 4)) + v5.1))), v7.2)) (frk (v6.1 == 1) ((Dspec_l1Int v6.2 [(-1000001), 9]).bind fun v8 => some ((Pt.mk (w64 (v0.1 - 4)) (w64 (v1.1 - 4)) v8.1), (Pt.mk (w64 ((w64 (v0.1 - 4)) + v3.1)) (w64 ((w64 (v1.1 - 4)) + v4.1)) (w64 ((w64 (v2.1 - 4)) + v5.1))), v8.2)) (frk (v6.1 == 2) (some ((Pt.mk (w64 (v0.1 - 4)) (w64 (v1.1 - 4)) (w64 (v2.1 - 4))), (Pt.mk (w64 ((w64 (v0.1 - 4)) + v3.1)) 9223372036854775807 (w64 ((w64 (v2.1 - 4)) + v5.1))), v6.2)) (some ((Pt.mk (w64 (v0.1 - 4)) (w64 (v1.1 - 4)) (w64 (v2.1 - 4))), (Pt.mk (w64 ((w64 (v0.1 - 4)) + v3.1)) (w64 ((w64 (v1.1 - 4)) + v4.1)) (w64 ((w64 (v2.1 - 4)) + v5.1))), v6.2))))
theorem Tspec_l17Grid {Y} (a0 : ((List Int) × Int × Int)) (r : (Pt × Pt × ((List Int) × Int × Int))) (h : Dspec_l17Grid a0 = some r) : Big Tryz.prog H Y (.call 34 [.ptr 1000 0] (lk [(1000, ⟨true, 0, [.sl false 1 a0.1.length ((eU8).f a0.1), i64 a0.2.1, i64 a0.2.2]⟩)]) (.tup [.agg [i64 r.1.X, i64 r.1.Y, i64 r.1.Z], .agg [i64 r.2.1.X, i64 r.2.1.Y, i64 r.2.1.Z]]) (lk [(1000, ⟨true, 0, [.sl false 1 r.2.2.1.length ((eU8).f r.2.2.1), i64 r.2.2.2.1, i64 r.2.2.2.2]⟩)])) := by
  unfold Dspec_l17Grid at h
  refine x_call (fn := Tryz.f34) (c := bodyOf Tryz.f34) (bs0 := [(1000, ⟨true, 0, [.bad, .bad, .bad]⟩)]) Tryz.func34 (by kernel_rfl) (by kernel_rfl) ?_
  obtain ⟨v0, hv0, h⟩ := bind_some h
  obtain ⟨v1, hv1, h⟩ := bind_some h
  obtain ⟨v2, hv2, h⟩ := bind_some h
  obtain ⟨v3, hv3, h⟩ := bind_some h
  obtain ⟨v4, hv4, h⟩ := bind_some h
  obtain ⟨v5, hv5, h⟩ := bind_some h
  obtain ⟨v6, hv6, h⟩ := bind_some h
  refine x_frk 53 [(3, .call [] [] (i64 v0.1) [(1000, ⟨true, 0, [.sl false 1 v0.2.1.length ((eU8).f v0.2.1), i64 v0.2.2.1, i64 v0.2.2.2]⟩)]), (2, .call [] [] (i64 v1.1) [(1000, ⟨true, 0, [.sl false 1 v1.2.1.length ((eU8).f v1.2.1), i64 v1.2.2.1, i64 v1.2.2.2]⟩)]), (2, .call [] [] (i64 v2.1) [(1000, ⟨true, 0, [.sl false 1 v2.2.1.length ((eU8).f v2.2.1), i64 v2.2.2.1, i64 v2.2.2.2]⟩)]), (7, .call [] [] (i64 v3.1) [(1000, ⟨true, 0, [.sl false 1 v3.2.1.length ((eU8).f v3.2.1), i64 v3.2.2.1, i64 v3.2.2.2]⟩)]), (4, .call [] [] (i64 v4.1) [(1000, ⟨true, 0, [.sl false 1 v4.2.1.length ((eU8).f v4.2.1), i64 v4.2.2.1, i64 v4.2.2.2]⟩)]), (4, .call [] [] (i64 v5.1) [(1000, ⟨true, 0, [.sl false 1 v5.2.1.length ((eU8).f v5.2.1), i64 v5.2.2.1, i64 v5.2.2.2]⟩)]), (5, .call [] [] (i64 v6.1) [(1000, ⟨true, 0, [.sl false 1 v6.2.1.length ((eU8).f v6.2.1), i64 v6.2.2.1, i64 v6.2.2.2]⟩)])] (ocons (Tspec_l1Below (Y := Y) a0 6 _ hv0) (ocons (Tspec_l1Below (Y := Y) v0.2 6 _ hv1) (ocons (Tspec_l1Below (Y := Y) v1.2 6 _ hv2) (ocons (Tspec_l1Below (Y := Y) v2.2 5 _ hv3) (ocons (Tspec_l1Below (Y := Y) v3.2 5 _ hv4) (ocons (Tspec_l1Below (Y := Y) v4.2 4 _ hv5) (ocons (Tspec_l1Below (Y := Y) v5.2 12 _ hv6) onil))))))) h (by kernel_rfl) (fun h => ?_) (fun h => ?_)
  · obtain ⟨v7, hv7, h⟩ := bind_some h
    replace h := Option.some.inj h; subst h
    exact x_end 18 [(4, .call [] [] (i64 v7.1) [(1000, ⟨true, 0, [.sl false 1 v7.2.1.length ((eU8).f v7.2.1), i64 v7.2.2.1, i64 v7.2.2.2]⟩)])] [] (ocons (Big.wka (show WkT [.ptr 1000 0, .sl true 1 3 ((eInt).f [(-1), 15, 16])] [.ptr 1000 0, .sl false 1 3 ((eInt).f [(-1), 15, 16])] from ⟨wkSameU _, wkShareU (L := [(-1), 15, 16]) eInt eInt sInt, trivial⟩) (Tspec_l1Int (Y := Y) v6.2 [(-1), 15, 16] _ hv7)) (ocons (len_row (L := [(-1), 15, 16]) eInt) onil)) onil (by kernel_rfl)
  · refine x_frk 5 [] onil h (by kernel_rfl) (fun h => ?_) (fun h => ?_)
    · obtain ⟨v8, hv8, h⟩ := bind_some h
      replace h := Option.some.inj h; subst h
      exact x_end 15 [(2, .call [] [] (i64 v8.1) [(1000, ⟨true, 0, [.sl false 1 v8.2.1.length ((eU8).f v8.2.1), i64 v8.2.2.1, i64 v8.2.2.2]⟩)])] [] (ocons (Big.wka (show WkT [.ptr 1000 0, .sl true 1 2 ((eInt).f [(-1000001), 9])] [.ptr 1000 0, .sl false 1 2 ((eInt).f [(-1000001), 9])] from ⟨wkSameU _, wkShareU (L := [(-1000001), 9]) eInt eInt sInt, trivial⟩) (Tspec_l1Int (Y := Y) v6.2 [(-1000001), 9] _ hv8)) (ocons (len_row (L := [(-1000001), 9]) eInt) onil)) onil (by kernel_rfl)
    · refine x_frk 5 [] onil h (by kernel_rfl) (fun h => ?_) (fun h => ?_)
      · replace h := Option.some.inj h; subst h
        exact x_end 12 [] [] onil onil (by kernel_rfl)
      · replace h := Option.some.inj h; subst h
        exact x_end 9 [] [] onil onil (by kernel_rfl)
/-! spec.DrawCountIn -/
def Dspec_DrawCountIn (n : Nat) (a0 : (List Int)) : Option (Sol × Pt × Pt) :=
  (Dspec_l1New n a0).bind fun v0 => (Dspec_l8DrawAny n v0 4).bind fun v1 => (Dspec_l17Grid v1.2).bind fun v2 => some (v1.1, v2.1, v2.2.1)
theorem Tspec_DrawCountIn {Y} (n : Nat) (a0 : (List Int)) (r : (Sol × Pt × Pt)) (h : Dspec_DrawCountIn n a0 = some r) : Big Tryz.prog H Y (.call 7 [.sl false 1 a0.length ((eU8).f a0)] (lk []) (.tup [.agg [bl r.1.inn, i64 r.1.pl.A, i64 r.1.pl.B, i64 r.1.pl.C, i64 r.1.pl.D, .sl false 6 r.1.kids.length ((eSol false).f r.1.kids)], .agg [i64 r.2.1.X, i64 r.2.1.Y, i64 r.2.1.Z], .agg [i64 r.2.2.X, i64 r.2.2.Y, i64 r.2.2.Z]]) (lk [])) := by
  unfold Dspec_DrawCountIn at h
  refine x_call (fn := Tryz.f7) (c := bodyOf Tryz.f7) (bs0 := []) Tryz.func7 (by kernel_rfl) (by kernel_rfl) ?_
  obtain ⟨v0, hv0, h⟩ := bind_some h
  obtain ⟨v1, hv1, h⟩ := bind_some h
  obtain ⟨v2, hv2, h⟩ := bind_some h
  replace h := Option.some.inj h; subst h
  exact x_end 40 [(4, .call [] [] (.nbx [.sl false 1 v0.1.length ((eU8).f v0.1), i64 v0.2.1, i64 v0.2.2]) []), (2, .call [] [] (.agg [bl v1.1.inn, i64 v1.1.pl.A, i64 v1.1.pl.B, i64 v1.1.pl.C, i64 v1.1.pl.D, .sl false 6 v1.1.kids.length ((eSol false).f v1.1.kids)]) [(1000, ⟨true, 0, [.sl false 1 v1.2.1.length ((eU8).f v1.2.1), i64 v1.2.2.1, i64 v1.2.2.2]⟩)]), (3, .call [] [] (.tup [.agg [i64 v2.1.X, i64 v2.1.Y, i64 v2.1.Z], .agg [i64 v2.2.1.X, i64 v2.2.1.Y, i64 v2.2.1.Z]]) [(1000, ⟨true, 0, [.sl false 1 v2.2.2.1.length ((eU8).f v2.2.2.1), i64 v2.2.2.2.1, i64 v2.2.2.2.2]⟩)])] [] (ocons (Tspec_l1New (Y := Y) n a0 _ hv0) (ocons (Tspec_l8DrawAny (Y := Y) n v0 4 _ hv1) (ocons (Tspec_l17Grid (Y := Y) v1.2 _ hv2) onil))) onil (by kernel_rfl)
/-! impl.inRange -/
def Dimpl_inRange (a0 a1 a2 : Int) : Option Bool :=
  frk (decide (a0 ≥ a1)) (some (decide (a0 ≤ a2))) (some false)
theorem Timpl_inRange {Y} (a0 a1 a2 : Int) (r : Bool) (h : Dimpl_inRange a0 a1 a2 = some r) : Big Tryz.prog H Y (.call 120 [i64 a0, i64 a1, i64 a2] (lk []) (bl r) (lk [])) := by
  unfold Dimpl_inRange at h
  refine x_call (fn := Tryz.f120) (c := bodyOf Tryz.f120) (bs0 := []) Tryz.func120 (by kernel_rfl) (by kernel_rfl) ?_
  refine x_frk 10 [] onil h (by kernel_rfl) (fun h => ?_) (fun h => ?_)
  · replace h := Option.some.inj h; subst h
    exact x_end 6 [] [] onil onil (by kernel_rfl)
  · replace h := Option.some.inj h; subst h
    exact x_end 6 [] [] onil onil (by kernel_rfl)
/-! impl.PtOk -/
def Dimpl_PtOk (a0 : Pt) : Option Bool :=
  (Dimpl_inRange a0.X (-1000000) 1000000).bind fun v0 => frk v0 ((Dimpl_inRange a0.Y (-1000000) 1000000).bind fun v1 => frk v1 ((Dimpl_inRange a0.Z (-1000000) 1000000).bind fun v2 => some v2) (some false)) (some false)
theorem Timpl_PtOk {Y} (a0 : Pt) (r : Bool) (h : Dimpl_PtOk a0 = some r) : Big Tryz.prog H Y (.call 73 [.agg [i64 a0.X, i64 a0.Y, i64 a0.Z]] (lk []) (bl r) (lk [])) := by
  unfold Dimpl_PtOk at h
  refine x_call (fn := Tryz.f73) (c := bodyOf Tryz.f73) (bs0 := []) Tryz.func73 (by kernel_rfl) (by kernel_rfl) ?_
  obtain ⟨v0, hv0, h⟩ := bind_some h
  refine x_frk 11 [(4, .call [] [] (bl v0) [])] (ocons (Timpl_inRange (Y := Y) a0.X (-1000000) 1000000 _ hv0) onil) h (by kernel_rfl) (fun h => ?_) (fun h => ?_)
  · obtain ⟨v1, hv1, h⟩ := bind_some h
    refine x_frk 5 [(2, .call [] [] (bl v1) [])] (ocons (Timpl_inRange (Y := Y) a0.Y (-1000000) 1000000 _ hv1) onil) h (by kernel_rfl) (fun h => ?_) (fun h => ?_)
    · obtain ⟨v2, hv2, h⟩ := bind_some h
      replace h := Option.some.inj h; subst h
      exact x_end 6 [(2, .call [] [] (bl v2) [])] [] (ocons (Timpl_inRange (Y := Y) a0.Z (-1000000) 1000000 _ hv2) onil) onil (by kernel_rfl)
    · replace h := Option.some.inj h; subst h
      exact x_end 6 [] [] onil onil (by kernel_rfl)
  · replace h := Option.some.inj h; subst h
    exact x_end 11 [] [] onil onil (by kernel_rfl)
/-! impl.isGridWay -/
def Dimpl_isGridWay (a0 a1 : Int) : Option Bool :=
  (Dimpl_inRange (w64 (a1 - a0)) 0 15).bind fun v0 => some v0
theorem Timpl_isGridWay {Y} (a0 a1 : Int) (r : Bool) (h : Dimpl_isGridWay a0 a1 = some r) : Big Tryz.prog H Y (.call 80 [i64 a0, i64 a1] (lk []) (bl r) (lk [])) := by
  unfold Dimpl_isGridWay at h
  refine x_call (fn := Tryz.f80) (c := bodyOf Tryz.f80) (bs0 := []) Tryz.func80 (by kernel_rfl) (by kernel_rfl) ?_
  obtain ⟨v0, hv0, h⟩ := bind_some h
  replace h := Option.some.inj h; subst h
  exact x_end 12 [(4, .call [] [] (bl v0) [])] [] (ocons (Timpl_inRange (Y := Y) (w64 (a1 - a0)) 0 15 _ hv0) onil) onil (by kernel_rfl)
/-! impl.isGrid -/
def Dimpl_isGrid (a0 : Pt) (a1 : Pt) : Option Bool :=
  (Dimpl_PtOk a0).bind fun v0 => frk v0 ((Dimpl_PtOk a1).bind fun v1 => frk v1 ((Dimpl_isGridWay a0.X a1.X).bind fun v2 => frk v2 ((Dimpl_isGridWay a0.Y a1.Y).bind fun v3 => frk v3 ((Dimpl_isGridWay a0.Z a1.Z).bind fun v4 => some v4) (some false)) (some false)) (some false)) (some false)
theorem Timpl_isGrid {Y} (a0 : Pt) (a1 : Pt) (r : Bool) (h : Dimpl_isGrid a0 a1 = some r) : Big Tryz.prog H Y (.call 35 [.agg [i64 a0.X, i64 a0.Y, i64 a0.Z], .agg [i64 a1.X, i64 a1.Y, i64 a1.Z]] (lk []) (bl r) (lk [])) := by
  unfold Dimpl_isGrid at h
  refine x_call (fn := Tryz.f35) (c := bodyOf Tryz.f35) (bs0 := []) Tryz.func35 (by kernel_rfl) (by kernel_rfl) ?_
  obtain ⟨v0, hv0, h⟩ := bind_some h
  refine x_frk 11 [(4, .call [] [] (bl v0) [])] (ocons (Timpl_PtOk (Y := Y) a0 _ hv0) onil) h (by kernel_rfl) (fun h => ?_) (fun h => ?_)
  · obtain ⟨v1, hv1, h⟩ := bind_some h
    refine x_frk 4 [(1, .call [] [] (bl v1) [])] (ocons (Timpl_PtOk (Y := Y) a1 _ hv1) onil) h (by kernel_rfl) (fun h => ?_) (fun h => ?_)
    · obtain ⟨v2, hv2, h⟩ := bind_some h
      refine x_frk 7 [(4, .call [] [] (bl v2) [])] (ocons (Timpl_isGridWay (Y := Y) a0.X a1.X _ hv2) onil) h (by kernel_rfl) (fun h => ?_) (fun h => ?_)
      · obtain ⟨v3, hv3, h⟩ := bind_some h
        refine x_frk 7 [(4, .call [] [] (bl v3) [])] (ocons (Timpl_isGridWay (Y := Y) a0.Y a1.Y _ hv3) onil) h (by kernel_rfl) (fun h => ?_) (fun h => ?_)
        · obtain ⟨v4, hv4, h⟩ := bind_some h
          replace h := Option.some.inj h; subst h
          exact x_end 8 [(4, .call [] [] (bl v4) [])] [] (ocons (Timpl_isGridWay (Y := Y) a0.Z a1.Z _ hv4) onil) onil (by kernel_rfl)
        · replace h := Option.some.inj h; subst h
          exact x_end 8 [] [] onil onil (by kernel_rfl)
      · replace h := Option.some.inj h; subst h
        exact x_end 15 [] [] onil onil (by kernel_rfl)
    · replace h := Option.some.inj h; subst h
      exact x_end 22 [] [] onil onil (by kernel_rfl)
  · replace h := Option.some.inj h; subst h
    exact x_end 26 [] [] onil onil (by kernel_rfl)
/-! impl.Solid).isLeaf -/
def Dimpl_Solid_isLeaf (a0 : Sol) : Option Bool :=
  some ((a0.kids.length : Int) == 0)
theorem Timpl_Solid_isLeaf {Y} (a0 : Sol) (q0 : List AV) (r : Bool) (h : Dimpl_Solid_isLeaf a0 = some r) : Big Tryz.prog H Y (.call 102 [.cptr ([bl a0.inn, i64 a0.pl.A, i64 a0.pl.B, i64 a0.pl.C, i64 a0.pl.D, .sl false 6 a0.kids.length ((eSol false).f a0.kids)] ++ q0)] (lk []) (bl r) (lk [])) := by
  unfold Dimpl_Solid_isLeaf at h
  refine x_call (fn := Tryz.f102) (c := bodyOf Tryz.f102) (bs0 := []) Tryz.func102 (by kernel_rfl) (by kernel_rfl) ?_
  replace h := Option.some.inj h; subst h
  exact x_end 14 [] [] onil onil (by kernel_rfl)
/-! impl.isCoef -/
def Dimpl_isCoef (a0 : Int) : Option Bool :=
  (Dimpl_inRange a0 (-500) 500).bind fun v0 => some v0
theorem Timpl_isCoef {Y} (a0 : Int) (r : Bool) (h : Dimpl_isCoef a0 = some r) : Big Tryz.prog H Y (.call 144 [i64 a0] (lk []) (bl r) (lk [])) := by
  unfold Dimpl_isCoef at h
  refine x_call (fn := Tryz.f144) (c := bodyOf Tryz.f144) (bs0 := []) Tryz.func144 (by kernel_rfl) (by kernel_rfl) ?_
  obtain ⟨v0, hv0, h⟩ := bind_some h
  replace h := Option.some.inj h; subst h
  exact x_end 10 [(2, .call [] [] (bl v0) [])] [] (ocons (Timpl_inRange (Y := Y) a0 (-500) 500 _ hv0) onil) onil (by kernel_rfl)
/-! impl.divisor -/
def Dimpl_divisor_0 (_n : Nat) (rec0 : (Int × Int) → Option Int) (_t6 : List Int) (_t7 t8 : Int) (rec1 : (Int × Int) → Option Int) (a : (Int × Int)) : Option Int :=
  match a with
  | (t3, t5) => frk (t5 != 0) ((rm .i64 t3 t5).bind fun v1 => rec1 (t5, v1)) (rec0 (t3, w64 (t8 + 1)))
theorem Timpl_divisor_0 {Y} (n : Nat) (rec0 : (Int × Int) → Option Int) (t6 : List Int) (t7 : Int) (hrec0 : ∀ (a : (Int × Int)) (r : Int), rec0 a = some r → Wk Tryz.prog H Y 145 [.code (cp [1, 1, 0, 1, 0] (bodyOf Tryz.f145)), .blk 0, .code (cp [1, 1, 1] (bodyOf Tryz.f145))] (FinX Tryz.prog Tryz.f145 [] (i64 r) []) ⟨[(3, i64 a.1), (6, .sl false 1 t6.length ((eInt).f t6)), (7, i64 t7), (8, i64 a.2)], []⟩) (t8 : Int) : ∀ (m : Nat) (a : (Int × Int)) (r : Int), loopN (Dimpl_divisor_0 n rec0 t6 t7 t8) m a = some r → Wk Tryz.prog H Y 145 [.code (cp [1, 1, 0, 1, 0, 0, 1, 1, 0, 0, 1, 1, 0] (bodyOf Tryz.f145)), .blk 2, .blk 1, .code (cp [1, 1, 0, 1, 0, 0, 1, 1, 1] (bodyOf Tryz.f145)), .lp (cp [1, 1, 0, 1, 0] (bodyOf Tryz.f145)), .blk 0, .code (cp [1, 1, 1] (bodyOf Tryz.f145))] (FinX Tryz.prog Tryz.f145 [] (i64 r) []) ⟨[(3, i64 a.1), (5, i64 a.2), (6, .sl false 1 t6.length ((eInt).f t6)), (7, i64 t7), (8, i64 t8)], []⟩ := by
  refine loopN_ind (fun _rec1 hrec1 a r h => ?_)
  obtain ⟨t3, t5⟩ := a
  unfold Dimpl_divisor_0 at h
  refine x_frk 7 [] onil h (by kernel_rfl) (fun h => ?_) (fun h => ?_)
  · obtain ⟨v1, hv1, h⟩ := bind_some h
    exact x_to 12 [(3, .val (i64 v1))] (ocons (rmOk hv1) onil) (hrec1 (t5, v1) r h) (by kernel_rfl)
  · exact x_to 7 [] onil (hrec0 (t3, w64 (t8 + 1)) r h) (by kernel_rfl)
def Dimpl_divisor_1 (n : Nat) (t6 : List Int) (t7 : Int) (rec0 : (Int × Int) → Option Int) (a : (Int × Int)) : Option Int :=
  match a with
  | (t3, t8) => frk (decide (t8 < t7)) ((lget t6 t8).bind fun v0 => loopN (Dimpl_divisor_0 n rec0 t6 t7 t8) n (t3, maxN v0 [w64 (0 - v0)])) (some t3)
theorem Timpl_divisor_1 {Y} (n : Nat) (t6 : List Int) (t7 : Int) : ∀ (m : Nat) (a : (Int × Int)) (r : Int), loopN (Dimpl_divisor_1 n t6 t7) m a = some r → Wk Tryz.prog H Y 145 [.code (cp [1, 1, 0, 1, 0] (bodyOf Tryz.f145)), .blk 0, .code (cp [1, 1, 1] (bodyOf Tryz.f145))] (FinX Tryz.prog Tryz.f145 [] (i64 r) []) ⟨[(3, i64 a.1), (6, .sl false 1 t6.length ((eInt).f t6)), (7, i64 t7), (8, i64 a.2)], []⟩ := by
  refine loopN_ind (fun rec0 hrec0 a r h => ?_)
  obtain ⟨t3, t8⟩ := a
  unfold Dimpl_divisor_1 at h
  refine x_frk 6 [] onil h (by kernel_rfl) (fun h => ?_) (fun h => ?_)
  · obtain ⟨v0, hv0, h⟩ := bind_some h
    exact x_to 18 [(0, .val (.cptr (eInt.c v0 ++ (eInt).f ((t6).drop (Int.toNat t8 + 1))))), (5, .val (.lit (.int .i64 (maxN v0 [w64 (0 - v0)]))))] (ocons (ix eInt hv0) (ocons (maxNok .i64 [w64 (0 - v0)] v0) onil)) (Timpl_divisor_0 n rec0 t6 t7 hrec0 t8 n (t3, maxN v0 [w64 (0 - v0)]) r h) (by kernel_rfl)
  · replace h := Option.some.inj h; subst h
    exact x_end 6 [] [] onil onil (by kernel_rfl)
def Dimpl_divisor (n : Nat) (a0 : (List Int)) : Option Int :=
  loopN (Dimpl_divisor_1 n a0 (a0.length : Int)) n (0, 0)
theorem Timpl_divisor {Y} (n : Nat) (a0 : (List Int)) (r : Int) (h : Dimpl_divisor n a0 = some r) : Big Tryz.prog H Y (.call 145 [.sl false 1 a0.length ((eInt).f a0)] (lk []) (i64 r) (lk [])) := by
  unfold Dimpl_divisor at h
  refine x_call (fn := Tryz.f145) (c := bodyOf Tryz.f145) (bs0 := []) Tryz.func145 (by kernel_rfl) (by kernel_rfl) ?_
  exact x_to 16 [] onil (Timpl_divisor_1 n a0 (a0.length : Int) n (0, 0) r h) (by kernel_rfl)
/-! impl.PlaneOk -/
def Dimpl_PlaneOk_0 (n : Nat) (t24 : Bool) (b1_0 b1_1 b1_2 b1_3 : Int) : Option Bool :=
  frk t24 (some false) (frk (b1_0 != 0) ((Dimpl_divisor n [b1_0, b1_1, b1_2, b1_3]).bind fun v4 => some (v4 == 1)) (frk (b1_1 != 0) ((Dimpl_divisor n [b1_0, b1_1, b1_2, b1_3]).bind fun v5 => some (v5 == 1)) (frk (b1_2 != 0) ((Dimpl_divisor n [b1_0, b1_1, b1_2, b1_3]).bind fun v6 => some (v6 == 1)) (some false))))
theorem Timpl_PlaneOk_0 {Y} (n : Nat) (t24 : Bool) (b1_0 b1_1 b1_2 b1_3 : Int) (r : Bool) (h : Dimpl_PlaneOk_0 n t24 b1_0 b1_1 b1_2 b1_3 = some r) : Wk Tryz.prog H Y 109 [.code (cp [1, 0, 1] (bodyOf Tryz.f109)), .code (cp [1, 1] (bodyOf Tryz.f109))] (FinX Tryz.prog Tryz.f109 [] (bl r) []) ⟨[(1, .ptr 1 0), (24, bl t24)], [(1, ⟨true, 0, [i64 b1_0, i64 b1_1, i64 b1_2, i64 b1_3]⟩)]⟩ := by
  unfold Dimpl_PlaneOk_0 at h
  refine x_frk 0 [] onil h (by kernel_rfl) (fun h => ?_) (fun h => ?_)
  · replace h := Option.some.inj h; subst h
    exact x_end 4 [] [] onil onil (by kernel_rfl)
  · refine x_frk 7 [] onil h (by kernel_rfl) (fun h => ?_) (fun h => ?_)
    · obtain ⟨v4, hv4, h⟩ := bind_some h
      replace h := Option.some.inj h; subst h
      exact x_end 24 [(19, .call [] [(eInt).f [b1_0, b1_1, b1_2, b1_3]] (i64 v4) [])] [] (ocons (Timpl_divisor (Y := Y) n [b1_0, b1_1, b1_2, b1_3] _ hv4) (ocons (len_row (L := [b1_0, b1_1, b1_2, b1_3]) eInt) (ocons (Enc.share eInt eInt sInt [b1_0, b1_1, b1_2, b1_3]) onil))) onil (by kernel_rfl)
    · refine x_frk 5 [] onil h (by kernel_rfl) (fun h => ?_) (fun h => ?_)
      · obtain ⟨v5, hv5, h⟩ := bind_some h
        replace h := Option.some.inj h; subst h
        exact x_end 19 [(14, .call [] [(eInt).f [b1_0, b1_1, b1_2, b1_3]] (i64 v5) [])] [] (ocons (Timpl_divisor (Y := Y) n [b1_0, b1_1, b1_2, b1_3] _ hv5) (ocons (len_row (L := [b1_0, b1_1, b1_2, b1_3]) eInt) (ocons (Enc.share eInt eInt sInt [b1_0, b1_1, b1_2, b1_3]) onil))) onil (by kernel_rfl)
      · refine x_frk 5 [] onil h (by kernel_rfl) (fun h => ?_) (fun h => ?_)
        · obtain ⟨v6, hv6, h⟩ := bind_some h
          replace h := Option.some.inj h; subst h
          exact x_end 14 [(9, .call [] [(eInt).f [b1_0, b1_1, b1_2, b1_3]] (i64 v6) [])] [] (ocons (Timpl_divisor (Y := Y) n [b1_0, b1_1, b1_2, b1_3] _ hv6) (ocons (len_row (L := [b1_0, b1_1, b1_2, b1_3]) eInt) (ocons (Enc.share eInt eInt sInt [b1_0, b1_1, b1_2, b1_3]) onil))) onil (by kernel_rfl)
        · replace h := Option.some.inj h; subst h
          exact x_end 14 [] [] onil onil (by kernel_rfl)
def Dimpl_PlaneOk (n : Nat) (a0 : Pl) : Option Bool :=
  (Dimpl_isCoef a0.A).bind fun v0 => frk (!v0) (some false) ((Dimpl_isCoef a0.B).bind fun v1 => frk (!v1) (some false) ((Dimpl_isCoef a0.C).bind fun v2 => frk (!v2) (some false) ((Dimpl_isCoef a0.D).bind fun v3 => Dimpl_PlaneOk_0 n (!v3) a0.A a0.B a0.C a0.D)))
theorem Timpl_PlaneOk {Y} (n : Nat) (a0 : Pl) (r : Bool) (h : Dimpl_PlaneOk n a0 = some r) : Big Tryz.prog H Y (.call 109 [.agg [i64 a0.A, i64 a0.B, i64 a0.C, i64 a0.D]] (lk []) (bl r) (lk [])) := by
  unfold Dimpl_PlaneOk at h
  refine x_call (fn := Tryz.f109) (c := bodyOf Tryz.f109) (bs0 := []) Tryz.func109 (by kernel_rfl) (by kernel_rfl) ?_
  obtain ⟨v0, hv0, h⟩ := bind_some h
  refine x_frk 13 [(4, .call [] [] (bl v0) [])] (ocons (Timpl_isCoef (Y := Y) a0.A _ hv0) onil) h (by kernel_rfl) (fun h => ?_) (fun h => ?_)
  · replace h := Option.some.inj h; subst h
    exact x_end 23 [] [] onil onil (by kernel_rfl)
  · obtain ⟨v1, hv1, h⟩ := bind_some h
    refine x_frk 6 [(2, .call [] [] (bl v1) [])] (ocons (Timpl_isCoef (Y := Y) a0.B _ hv1) onil) h (by kernel_rfl) (fun h => ?_) (fun h => ?_)
    · replace h := Option.some.inj h; subst h
      exact x_end 17 [] [] onil onil (by kernel_rfl)
    · obtain ⟨v2, hv2, h⟩ := bind_some h
      refine x_frk 6 [(2, .call [] [] (bl v2) [])] (ocons (Timpl_isCoef (Y := Y) a0.C _ hv2) onil) h (by kernel_rfl) (fun h => ?_) (fun h => ?_)
      · replace h := Option.some.inj h; subst h
        exact x_end 11 [] [] onil onil (by kernel_rfl)
      · obtain ⟨v3, hv3, h⟩ := bind_some h
        exact x_to 6 [(2, .call [] [] (bl v3) [])] (ocons (Timpl_isCoef (Y := Y) a0.D _ hv3) onil) (Timpl_PlaneOk_0 n (!v3) a0.A a0.B a0.C a0.D r h) (by kernel_rfl)
/-! impl.flip -/
def Dimpl_flip (a0 : Pl) : Option Pl :=
  some (Pl.mk (w64 (0 - a0.A)) (w64 (0 - a0.B)) (w64 (0 - a0.C)) (w64 (0 - a0.D)))
theorem Timpl_flip {Y} (a0 : Pl) (r : Pl) (h : Dimpl_flip a0 = some r) : Big Tryz.prog H Y (.call 105 [.agg [i64 a0.A, i64 a0.B, i64 a0.C, i64 a0.D]] (lk []) (.agg [i64 r.A, i64 r.B, i64 r.C, i64 r.D]) (lk [])) := by
  unfold Dimpl_flip at h
  refine x_call (fn := Tryz.f105) (c := bodyOf Tryz.f105) (bs0 := []) Tryz.func105 (by kernel_rfl) (by kernel_rfl) ?_
  replace h := Option.some.inj h; subst h
  exact x_end 22 [] [] onil onil (by kernel_rfl)
/-! impl.normal -/
def Dimpl_normal (a0 : Pl) : Option (Int × Int × Int) :=
  some (a0.A, a0.B, a0.C)
theorem Timpl_normal {Y} (a0 : Pl) (r : (Int × Int × Int)) (h : Dimpl_normal a0 = some r) : Big Tryz.prog H Y (.call 170 [.agg [i64 a0.A, i64 a0.B, i64 a0.C, i64 a0.D]] (lk []) (.agg [i64 r.1, i64 r.2.1, i64 r.2.2]) (lk [])) := by
  unfold Dimpl_normal at h
  refine x_call (fn := Tryz.f170) (c := bodyOf Tryz.f170) (bs0 := []) Tryz.func170 (by kernel_rfl) (by kernel_rfl) ?_
  replace h := Option.some.inj h; subst h
  exact x_end 16 [] [] onil onil (by kernel_rfl)
/-! impl.crossOf -/
def Dimpl_crossOf (a0 : (Int × Int × Int)) (a1 : (Int × Int × Int)) : Option (Int × Int × Int) :=
  some (w64 ((w64 (a0.2.1 * a1.2.2)) - (w64 (a0.2.2 * a1.2.1))), w64 ((w64 (a0.2.2 * a1.1)) - (w64 (a0.1 * a1.2.2))), w64 ((w64 (a0.1 * a1.2.1)) - (w64 (a0.2.1 * a1.1))))
theorem Timpl_crossOf {Y} (a0 : (Int × Int × Int)) (a1 : (Int × Int × Int)) (r : (Int × Int × Int)) (h : Dimpl_crossOf a0 a1 = some r) : Big Tryz.prog H Y (.call 172 [.agg [i64 a0.1, i64 a0.2.1, i64 a0.2.2], .agg [i64 a1.1, i64 a1.2.1, i64 a1.2.2]] (lk []) (.agg [i64 r.1, i64 r.2.1, i64 r.2.2]) (lk [])) := by
  unfold Dimpl_crossOf at h
  refine x_call (fn := Tryz.f172) (c := bodyOf Tryz.f172) (bs0 := []) Tryz.func172 (by kernel_rfl) (by kernel_rfl) ?_
  replace h := Option.some.inj h; subst h
  exact x_end 44 [] [] onil onil (by kernel_rfl)
/-! impl.dot -/
def Dimpl_dot (a0 : (Int × Int × Int)) (a1 : (Int × Int × Int)) : Option Int :=
  some (w64 ((w64 ((w64 (a0.1 * a1.1)) + (w64 (a0.2.1 * a1.2.1)))) + (w64 (a0.2.2 * a1.2.2))))
theorem Timpl_dot {Y} (a0 : (Int × Int × Int)) (a1 : (Int × Int × Int)) (r : Int) (h : Dimpl_dot a0 a1 = some r) : Big Tryz.prog H Y (.call 174 [.agg [i64 a0.1, i64 a0.2.1, i64 a0.2.2], .agg [i64 a1.1, i64 a1.2.1, i64 a1.2.2]] (lk []) (i64 r) (lk [])) := by
  unfold Dimpl_dot at h
  refine x_call (fn := Tryz.f174) (c := bodyOf Tryz.f174) (bs0 := []) Tryz.func174 (by kernel_rfl) (by kernel_rfl) ?_
  replace h := Option.some.inj h; subst h
  exact x_end 27 [] [] onil onil (by kernel_rfl)
/-! cmp.isNaN[int] -/
def Dcmp_isNaN (a0 : Int) : Option Bool :=
  some (a0 != a0)
theorem Tcmp_isNaN {Y} (a0 : Int) (r : Bool) (h : Dcmp_isNaN a0 = some r) : Big Tryz.prog H Y (.call 188 [i64 a0] (lk []) (bl r) (lk [])) := by
  unfold Dcmp_isNaN at h
  refine x_call (fn := Tryz.f188) (c := bodyOf Tryz.f188) (bs0 := []) Tryz.func188 (by kernel_rfl) (by kernel_rfl) ?_
  replace h := Option.some.inj h; subst h
  exact x_end 11 [] [] onil onil (by kernel_rfl)
/-! cmp.Compare[int] -/
def Dcmp_Compare (a0 a1 : Int) : Option Int :=
  (Dcmp_isNaN a0).bind fun v0 => (Dcmp_isNaN a1).bind fun v1 => frk v0 (frk v1 (some 0) (some (-1))) (frk v1 (some 1) (frk (decide (a0 < a1)) (some (-1)) (frk (decide (a0 > a1)) (some 1) (some 0))))
theorem Tcmp_Compare {Y} (a0 a1 r : Int) (h : Dcmp_Compare a0 a1 = some r) : Big Tryz.prog H Y (.call 168 [i64 a0, i64 a1] (lk []) (i64 r) (lk [])) := by
  unfold Dcmp_Compare at h
  refine x_call (fn := Tryz.f168) (c := bodyOf Tryz.f168) (bs0 := []) Tryz.func168 (by kernel_rfl) (by kernel_rfl) ?_
  obtain ⟨v0, hv0, h⟩ := bind_some h
  obtain ⟨v1, hv1, h⟩ := bind_some h
  refine x_frk 21 [(2, .call [] [] (bl v0) []), (2, .call [] [] (bl v1) [])] (ocons (Tcmp_isNaN (Y := Y) a0 _ hv0) (ocons (Tcmp_isNaN (Y := Y) a1 _ hv1) onil)) h (by kernel_rfl) (fun h => ?_) (fun h => ?_)
  · refine x_frk 5 [] onil h (by kernel_rfl) (fun h => ?_) (fun h => ?_)
    · replace h := Option.some.inj h; subst h
      exact x_end 4 [] [] onil onil (by kernel_rfl)
    · replace h := Option.some.inj h; subst h
      exact x_end 5 [] [] onil onil (by kernel_rfl)
  · refine x_frk 6 [] onil h (by kernel_rfl) (fun h => ?_) (fun h => ?_)
    · replace h := Option.some.inj h; subst h
      exact x_end 4 [] [] onil onil (by kernel_rfl)
    · refine x_frk 8 [] onil h (by kernel_rfl) (fun h => ?_) (fun h => ?_)
      · replace h := Option.some.inj h; subst h
        exact x_end 4 [] [] onil onil (by kernel_rfl)
      · refine x_frk 8 [] onil h (by kernel_rfl) (fun h => ?_) (fun h => ?_)
        · replace h := Option.some.inj h; subst h
          exact x_end 4 [] [] onil onil (by kernel_rfl)
        · replace h := Option.some.inj h; subst h
          exact x_end 5 [] [] onil onil (by kernel_rfl)
/-! impl.sign -/
def Dimpl_sign (a0 : Int) : Option Int :=
  (Dcmp_Compare a0 0).bind fun v0 => some v0
theorem Timpl_sign {Y} (a0 r : Int) (h : Dimpl_sign a0 = some r) : Big Tryz.prog H Y (.call 155 [i64 a0] (lk []) (i64 r) (lk [])) := by
  unfold Dimpl_sign at h
  refine x_call (fn := Tryz.f155) (c := bodyOf Tryz.f155) (bs0 := []) Tryz.func155 (by kernel_rfl) (by kernel_rfl) ?_
  obtain ⟨v0, hv0, h⟩ := bind_some h
  replace h := Option.some.inj h; subst h
  exact x_end 10 [(2, .call [] [] (i64 v0) [])] [] (ocons (Tcmp_Compare (Y := Y) a0 0 _ hv0) onil) onil (by kernel_rfl)
/-! impl.parallel -/
def Dimpl_parallel (a0 : Pl) (a1 : Pl) : Option Int :=
  (Dimpl_normal a0).bind fun v0 => (Dimpl_normal a1).bind fun v1 => (Dimpl_crossOf v0 v1).bind fun v2 => frk (!(v2.1 == 0 && (v2.2.1 == 0 && (v2.2.2 == 0 && true)))) (some 0) ((Dimpl_normal a0).bind fun v3 => (Dimpl_normal a1).bind fun v4 => (Dimpl_dot v3 v4).bind fun v5 => (Dimpl_sign v5).bind fun v6 => some v6)
theorem Timpl_parallel {Y} (a0 : Pl) (a1 : Pl) (r : Int) (h : Dimpl_parallel a0 a1 = some r) : Big Tryz.prog H Y (.call 169 [.agg [i64 a0.A, i64 a0.B, i64 a0.C, i64 a0.D], .agg [i64 a1.A, i64 a1.B, i64 a1.C, i64 a1.D]] (lk []) (i64 r) (lk [])) := by
  unfold Dimpl_parallel at h
  refine x_call (fn := Tryz.f169) (c := bodyOf Tryz.f169) (bs0 := []) Tryz.func169 (by kernel_rfl) (by kernel_rfl) ?_
  obtain ⟨v0, hv0, h⟩ := bind_some h
  obtain ⟨v1, hv1, h⟩ := bind_some h
  obtain ⟨v2, hv2, h⟩ := bind_some h
  refine x_frk 17 [(4, .call [] [] (.agg [i64 v0.1, i64 v0.2.1, i64 v0.2.2]) []), (1, .call [] [] (.agg [i64 v1.1, i64 v1.2.1, i64 v1.2.2]) []), (0, .call [] [] (.agg [i64 v2.1, i64 v2.2.1, i64 v2.2.2]) [])] (ocons (Timpl_normal (Y := Y) a0 _ hv0) (ocons (Timpl_normal (Y := Y) a1 _ hv1) (ocons (Timpl_crossOf (Y := Y) v0 v1 _ hv2) onil))) h (by kernel_rfl) (fun h => ?_) (fun h => ?_)
  · replace h := Option.some.inj h; subst h
    exact x_end 4 [] [] onil onil (by kernel_rfl)
  · obtain ⟨v3, hv3, h⟩ := bind_some h
    obtain ⟨v4, hv4, h⟩ := bind_some h
    obtain ⟨v5, hv5, h⟩ := bind_some h
    obtain ⟨v6, hv6, h⟩ := bind_some h
    replace h := Option.some.inj h; subst h
    exact x_end 11 [(1, .call [] [] (.agg [i64 v3.1, i64 v3.2.1, i64 v3.2.2]) []), (1, .call [] [] (.agg [i64 v4.1, i64 v4.2.1, i64 v4.2.2]) []), (0, .call [] [] (i64 v5) []), (0, .call [] [] (i64 v6) [])] [] (ocons (Timpl_normal (Y := Y) a0 _ hv3) (ocons (Timpl_normal (Y := Y) a1 _ hv4) (ocons (Timpl_dot (Y := Y) v3 v4 _ hv5) (ocons (Timpl_sign (Y := Y) v5 _ hv6) onil)))) onil (by kernel_rfl)
/-! impl.clash2 -/
def Dimpl_clash2 (_n : Nat) (a0 : Pl) (a1 : Pl) : Option Bool :=
  (Dimpl_parallel a0 a1).bind fun v0 => frk (decide (v0 ≥ 0)) (some false) ((Dimpl_normal a0).bind fun v1 => (Dimpl_normal a1).bind fun v2 => frk (v1.1 != 0) (some (decide ((w64 ((w64 (a0.D * (maxN v2.1 [w64 (0 - v2.1)]))) + (w64 (a1.D * (maxN v1.1 [w64 (0 - v1.1)]))))) ≤ 0))) (frk (v1.2.1 != 0) (some (decide ((w64 ((w64 (a0.D * (maxN v2.2.1 [w64 (0 - v2.2.1)]))) + (w64 (a1.D * (maxN v1.2.1 [w64 (0 - v1.2.1)]))))) ≤ 0))) (frk (v1.2.2 != 0) (some (decide ((w64 ((w64 (a0.D * (maxN v2.2.2 [w64 (0 - v2.2.2)]))) + (w64 (a1.D * (maxN v1.2.2 [w64 (0 - v1.2.2)]))))) ≤ 0))) (some false))))
theorem Timpl_clash2 {Y} (n : Nat) (a0 : Pl) (a1 : Pl) (r : Bool) (h : Dimpl_clash2 n a0 a1 = some r) : Big Tryz.prog H Y (.call 146 [.agg [i64 a0.A, i64 a0.B, i64 a0.C, i64 a0.D], .agg [i64 a1.A, i64 a1.B, i64 a1.C, i64 a1.D]] (lk []) (bl r) (lk [])) := by
  unfold Dimpl_clash2 at h
  refine x_call (fn := Tryz.f146) (c := bodyOf Tryz.f146) (bs0 := []) Tryz.func146 (by kernel_rfl) (by kernel_rfl) ?_
  obtain ⟨v0, hv0, h⟩ := bind_some h
  refine x_frk 14 [(5, .call [] [] (i64 v0) [])] (ocons (Timpl_parallel (Y := Y) a0 a1 _ hv0) onil) h (by kernel_rfl) (fun h => ?_) (fun h => ?_)
  · replace h := Option.some.inj h; subst h
    exact x_end 4 [] [] onil onil (by kernel_rfl)
  · obtain ⟨v1, hv1, h⟩ := bind_some h
    obtain ⟨v2, hv2, h⟩ := bind_some h
    refine x_frk 40 [(1, .call [] [] (.agg [i64 v1.1, i64 v1.2.1, i64 v1.2.2]) []), (1, .call [] [] (.agg [i64 v2.1, i64 v2.2.1, i64 v2.2.2]) [])] (ocons (Timpl_normal (Y := Y) a0 _ hv1) (ocons (Timpl_normal (Y := Y) a1 _ hv2) onil)) h (by kernel_rfl) (fun h => ?_) (fun h => ?_)
    · replace h := Option.some.inj h; subst h
      exact x_end 28 [(9, .val (.lit (.int .i64 (maxN v2.1 [w64 (0 - v2.1)])))), (10, .val (.lit (.int .i64 (maxN v1.1 [w64 (0 - v1.1)]))))] [] (ocons (maxNok .i64 [w64 (0 - v2.1)] v2.1) (ocons (maxNok .i64 [w64 (0 - v1.1)] v1.1) onil)) onil (by kernel_rfl)
    · refine x_frk 29 [] onil h (by kernel_rfl) (fun h => ?_) (fun h => ?_)
      · replace h := Option.some.inj h; subst h
        exact x_end 28 [(9, .val (.lit (.int .i64 (maxN v2.2.1 [w64 (0 - v2.2.1)])))), (10, .val (.lit (.int .i64 (maxN v1.2.1 [w64 (0 - v1.2.1)]))))] [] (ocons (maxNok .i64 [w64 (0 - v2.2.1)] v2.2.1) (ocons (maxNok .i64 [w64 (0 - v1.2.1)] v1.2.1) onil)) onil (by kernel_rfl)
      · refine x_frk 29 [] onil h (by kernel_rfl) (fun h => ?_) (fun h => ?_)
        · replace h := Option.some.inj h; subst h
          exact x_end 28 [(9, .val (.lit (.int .i64 (maxN v2.2.2 [w64 (0 - v2.2.2)])))), (10, .val (.lit (.int .i64 (maxN v1.2.2 [w64 (0 - v1.2.2)]))))] [] (ocons (maxNok .i64 [w64 (0 - v2.2.2)] v2.2.2) (ocons (maxNok .i64 [w64 (0 - v1.2.2)] v1.2.2) onil)) onil (by kernel_rfl)
        · replace h := Option.some.inj h; subst h
          exact x_end 19 [] [] onil onil (by kernel_rfl)
/-! impl.det -/
def Dimpl_det (a0 : (Int × Int × Int)) (a1 : (Int × Int × Int)) (a2 : (Int × Int × Int)) : Option Int :=
  (Dimpl_crossOf a1 a2).bind fun v0 => (Dimpl_dot a0 v0).bind fun v1 => some v1
theorem Timpl_det {Y} (a0 : (Int × Int × Int)) (a1 : (Int × Int × Int)) (a2 : (Int × Int × Int)) (r : Int) (h : Dimpl_det a0 a1 a2 = some r) : Big Tryz.prog H Y (.call 171 [.agg [i64 a0.1, i64 a0.2.1, i64 a0.2.2], .agg [i64 a1.1, i64 a1.2.1, i64 a1.2.2], .agg [i64 a2.1, i64 a2.2.1, i64 a2.2.2]] (lk []) (i64 r) (lk [])) := by
  unfold Dimpl_det at h
  refine x_call (fn := Tryz.f171) (c := bodyOf Tryz.f171) (bs0 := []) Tryz.func171 (by kernel_rfl) (by kernel_rfl) ?_
  obtain ⟨v0, hv0, h⟩ := bind_some h
  obtain ⟨v1, hv1, h⟩ := bind_some h
  replace h := Option.some.inj h; subst h
  exact x_end 16 [(7, .call [] [] (.agg [i64 v0.1, i64 v0.2.1, i64 v0.2.2]) []), (0, .call [] [] (i64 v1) [])] [] (ocons (Timpl_crossOf (Y := Y) a1 a2 _ hv0) (ocons (Timpl_dot (Y := Y) a0 v0 _ hv1) onil)) onil (by kernel_rfl)
/-! impl.weighs -/
def Dimpl_weighs_0 (_n : Nat) (rec0 : (Int × Int) → Option Bool) (t1 : List Int) (_t5 : Int) (_t13 : List Int) (_t14 t6 t7 t8 t15 : Int) (t27 : Bool) : Option Bool :=
  frk t27 (some false) ((lget t1 t7).bind fun v4 => rec0 (w64 (t6 + (w64 (t8 * v4))), w64 (t15 + 1)))
theorem Timpl_weighs_0 {Y} (n : Nat) (rec0 : (Int × Int) → Option Bool) (t1 : List Int) (t5 : Int) (t13 : List Int) (t14 : Int) (hrec0 : ∀ (a : (Int × Int)) (r : Bool), rec0 a = some r → Wk Tryz.prog H Y 173 [.code (cp [1, 1, 1, 0, 1, 0] (bodyOf Tryz.f173)), .blk 0, .code (cp [1, 1, 1, 1] (bodyOf Tryz.f173))] (FinX Tryz.prog Tryz.f173 [] (bl r) []) ⟨[(1, .sl false 1 t1.length ((eInt).f t1)), (5, i64 t5), (6, i64 a.1), (13, .sl false 1 t13.length ((eInt).f t13)), (14, i64 t14), (15, i64 a.2)], []⟩) (t6 t7 t8 t15 : Int) (t27 r : Bool) (h : Dimpl_weighs_0 n rec0 t1 t5 t13 t14 t6 t7 t8 t15 t27 = some r) : Wk Tryz.prog H Y 173 [.code (cp [1, 1, 1, 0, 1, 0, 0, 1, 1, 0, 0, 1, 0, 1] (bodyOf Tryz.f173)), .code (cp [1, 1, 1, 0, 1, 0, 0, 1, 1, 0, 0, 1, 1] (bodyOf Tryz.f173)), .blk 1, .code (cp [1, 1, 1, 0, 1, 0, 0, 1, 1, 1] (bodyOf Tryz.f173)), .lp (cp [1, 1, 1, 0, 1, 0] (bodyOf Tryz.f173)), .blk 0, .code (cp [1, 1, 1, 1] (bodyOf Tryz.f173))] (FinX Tryz.prog Tryz.f173 [] (bl r) []) ⟨[(1, .sl false 1 t1.length ((eInt).f t1)), (5, i64 t5), (6, i64 t6), (7, i64 t7), (8, i64 t8), (13, .sl false 1 t13.length ((eInt).f t13)), (14, i64 t14), (15, i64 t15), (27, bl t27)], []⟩ := by
  unfold Dimpl_weighs_0 at h
  refine x_frk 0 [] onil h (by kernel_rfl) (fun h => ?_) (fun h => ?_)
  · replace h := Option.some.inj h; subst h
    exact x_end 4 [] [] onil onil (by kernel_rfl)
  · obtain ⟨v4, hv4, h⟩ := bind_some h
    exact x_to 18 [(4, .val (.cptr (eInt.c v4 ++ (eInt).f ((t1).drop (Int.toNat t7 + 1)))))] (ocons (ix eInt hv4) onil) (hrec0 (w64 (t6 + (w64 (t8 * v4))), w64 (t15 + 1)) r h) (by kernel_rfl)
def Dimpl_weighs_1 (n : Nat) (t1 : List Int) (t5 : Int) (t13 : List Int) (t14 : Int) (rec0 : (Int × Int) → Option Bool) (a : (Int × Int)) : Option Bool :=
  match a with
  | (t6, t15) => frk (decide (t15 < t14)) ((lget t13 t15).bind fun v2 => frk (t5 == 0) (some false) ((Dimpl_sign v2).bind fun v3 => Dimpl_weighs_0 n rec0 t1 t5 t13 t14 t6 t15 v2 t15 (v3 != t5))) (some (decide ((w64 (t6 * t5)) ≤ 0)))
theorem Timpl_weighs_1 {Y} (n : Nat) (t1 : List Int) (t5 : Int) (t13 : List Int) (t14 : Int) : ∀ (m : Nat) (a : (Int × Int)) (r : Bool), loopN (Dimpl_weighs_1 n t1 t5 t13 t14) m a = some r → Wk Tryz.prog H Y 173 [.code (cp [1, 1, 1, 0, 1, 0] (bodyOf Tryz.f173)), .blk 0, .code (cp [1, 1, 1, 1] (bodyOf Tryz.f173))] (FinX Tryz.prog Tryz.f173 [] (bl r) []) ⟨[(1, .sl false 1 t1.length ((eInt).f t1)), (5, i64 t5), (6, i64 a.1), (13, .sl false 1 t13.length ((eInt).f t13)), (14, i64 t14), (15, i64 a.2)], []⟩ := by
  refine loopN_ind (fun rec0 hrec0 a r h => ?_)
  obtain ⟨t6, t15⟩ := a
  unfold Dimpl_weighs_1 at h
  refine x_frk 6 [] onil h (by kernel_rfl) (fun h => ?_) (fun h => ?_)
  · obtain ⟨v2, hv2, h⟩ := bind_some h
    refine x_frk 17 [(1, .val (.cptr (eInt.c v2 ++ (eInt).f ((t13).drop (Int.toNat t15 + 1)))))] (ocons (ix eInt hv2) onil) h (by kernel_rfl) (fun h => ?_) (fun h => ?_)
    · replace h := Option.some.inj h; subst h
      exact x_end 11 [] [] onil onil (by kernel_rfl)
    · obtain ⟨v3, hv3, h⟩ := bind_some h
      exact x_to 6 [(1, .call [] [] (i64 v3) [])] (ocons (Timpl_sign (Y := Y) v2 _ hv3) onil) (Timpl_weighs_0 n rec0 t1 t5 t13 t14 hrec0 t6 t15 v2 t15 (v3 != t5) r h) (by kernel_rfl)
  · replace h := Option.some.inj h; subst h
    exact x_end 9 [] [] onil onil (by kernel_rfl)
def Dimpl_weighs (n : Nat) (a0 : (List Int)) (a1 : (List Int)) : Option Bool :=
  (lget a0 0).bind fun v0 => (Dimpl_sign v0).bind fun v1 => loopN (Dimpl_weighs_1 n a1 v1 a0 (a0.length : Int)) n (0, 0)
theorem Timpl_weighs {Y} (n : Nat) (a0 : (List Int)) (a1 : (List Int)) (r : Bool) (h : Dimpl_weighs n a0 a1 = some r) : Big Tryz.prog H Y (.call 173 [.sl false 1 a0.length ((eInt).f a0), .sl false 1 a1.length ((eInt).f a1)] (lk []) (bl r) (lk [])) := by
  unfold Dimpl_weighs at h
  refine x_call (fn := Tryz.f173) (c := bodyOf Tryz.f173) (bs0 := []) Tryz.func173 (by kernel_rfl) (by kernel_rfl) ?_
  obtain ⟨v0, hv0, h⟩ := bind_some h
  obtain ⟨v1, hv1, h⟩ := bind_some h
  exact x_to 24 [(2, .val (.cptr (eInt.c v0 ++ (eInt).f ((a0).drop (Int.toNat 0 + 1))))), (1, .call [] [] (i64 v1) [])] (ocons (ix eInt hv0) (ocons (Timpl_sign (Y := Y) v0 _ hv1) onil)) (Timpl_weighs_1 n a1 v1 a0 (a0.length : Int) n (0, 0) r h) (by kernel_rfl)
/-! impl.clash3 -/
def Dimpl_clash3 (n : Nat) (a0 : Pl) (a1 : Pl) (a2 : Pl) : Option Bool :=
  (Dimpl_normal a0).bind fun v0 => (Dimpl_normal a1).bind fun v1 => (Dimpl_normal a2).bind fun v2 => (Dimpl_det v0 v1 v2).bind fun v3 => frk (v3 != 0) (some false) ((Dimpl_crossOf v0 v1).bind fun v4 => (Dimpl_crossOf v1 v2).bind fun v5 => (Dimpl_dot v5 v4).bind fun v6 => (Dimpl_crossOf v2 v0).bind fun v7 => (Dimpl_dot v7 v4).bind fun v8 => (Dimpl_dot v4 v4).bind fun v9 => (Dimpl_weighs n [v6, v8, v9] [a0.D, a1.D, a2.D]).bind fun v10 => some v10)
theorem Timpl_clash3 {Y} (n : Nat) (a0 : Pl) (a1 : Pl) (a2 : Pl) (r : Bool) (h : Dimpl_clash3 n a0 a1 a2 = some r) : Big Tryz.prog H Y (.call 147 [.agg [i64 a0.A, i64 a0.B, i64 a0.C, i64 a0.D], .agg [i64 a1.A, i64 a1.B, i64 a1.C, i64 a1.D], .agg [i64 a2.A, i64 a2.B, i64 a2.C, i64 a2.D]] (lk []) (bl r) (lk [])) := by
  unfold Dimpl_clash3 at h
  refine x_call (fn := Tryz.f147) (c := bodyOf Tryz.f147) (bs0 := []) Tryz.func147 (by kernel_rfl) (by kernel_rfl) ?_
  obtain ⟨v0, hv0, h⟩ := bind_some h
  obtain ⟨v1, hv1, h⟩ := bind_some h
  obtain ⟨v2, hv2, h⟩ := bind_some h
  obtain ⟨v3, hv3, h⟩ := bind_some h
  refine x_frk 31 [(5, .call [] [] (.agg [i64 v0.1, i64 v0.2.1, i64 v0.2.2]) []), (1, .call [] [] (.agg [i64 v1.1, i64 v1.2.1, i64 v1.2.2]) []), (1, .call [] [] (.agg [i64 v2.1, i64 v2.2.1, i64 v2.2.2]) []), (9, .call [] [] (i64 v3) [])] (ocons (Timpl_normal (Y := Y) a0 _ hv0) (ocons (Timpl_normal (Y := Y) a1 _ hv1) (ocons (Timpl_normal (Y := Y) a2 _ hv2) (ocons (Timpl_det (Y := Y) v0 v1 v2 _ hv3) onil)))) h (by kernel_rfl) (fun h => ?_) (fun h => ?_)
  · replace h := Option.some.inj h; subst h
    exact x_end 4 [] [] onil onil (by kernel_rfl)
  · obtain ⟨v4, hv4, h⟩ := bind_some h
    obtain ⟨v5, hv5, h⟩ := bind_some h
    obtain ⟨v6, hv6, h⟩ := bind_some h
    obtain ⟨v7, hv7, h⟩ := bind_some h
    obtain ⟨v8, hv8, h⟩ := bind_some h
    obtain ⟨v9, hv9, h⟩ := bind_some h
    obtain ⟨v10, hv10, h⟩ := bind_some h
    replace h := Option.some.inj h; subst h
    exact x_end 35 [(2, .call [] [] (.agg [i64 v4.1, i64 v4.2.1, i64 v4.2.2]) []), (4, .call [] [] (.agg [i64 v5.1, i64 v5.2.1, i64 v5.2.2]) []), (1, .call [] [] (i64 v6) []), (2, .call [] [] (.agg [i64 v7.1, i64 v7.2.1, i64 v7.2.2]) []), (1, .call [] [] (i64 v8) []), (2, .call [] [] (i64 v9) []), (8, .call [] [(eInt).f [a0.D, a1.D, a2.D], (eInt).f [v6, v8, v9]] (bl v10) [])] [] (ocons (Timpl_crossOf (Y := Y) v0 v1 _ hv4) (ocons (Timpl_crossOf (Y := Y) v1 v2 _ hv5) (ocons (Timpl_dot (Y := Y) v5 v4 _ hv6) (ocons (Timpl_crossOf (Y := Y) v2 v0 _ hv7) (ocons (Timpl_dot (Y := Y) v7 v4 _ hv8) (ocons (Timpl_dot (Y := Y) v4 v4 _ hv9) (ocons (Timpl_weighs (Y := Y) n [v6, v8, v9] [a0.D, a1.D, a2.D] _ hv10) (ocons (len_row (L := [v6, v8, v9]) eInt) (ocons (Enc.share eInt eInt sInt [v6, v8, v9]) (ocons (len_row (L := [a0.D, a1.D, a2.D]) eInt) (ocons (Enc.share eInt eInt sInt [a0.D, a1.D, a2.D]) onil))))))))))) onil (by kernel_rfl)
/-! impl.det3 -/
def Dimpl_det3 (a0 : Pl) (a1 : Pl) (a2 : Pl) : Option Int :=
  (Dimpl_normal a0).bind fun v0 => (Dimpl_normal a1).bind fun v1 => (Dimpl_normal a2).bind fun v2 => (Dimpl_det v0 v1 v2).bind fun v3 => some v3
theorem Timpl_det3 {Y} (a0 : Pl) (a1 : Pl) (a2 : Pl) (r : Int) (h : Dimpl_det3 a0 a1 a2 = some r) : Big Tryz.prog H Y (.call 175 [.agg [i64 a0.A, i64 a0.B, i64 a0.C, i64 a0.D], .agg [i64 a1.A, i64 a1.B, i64 a1.C, i64 a1.D], .agg [i64 a2.A, i64 a2.B, i64 a2.C, i64 a2.D]] (lk []) (i64 r) (lk [])) := by
  unfold Dimpl_det3 at h
  refine x_call (fn := Tryz.f175) (c := bodyOf Tryz.f175) (bs0 := []) Tryz.func175 (by kernel_rfl) (by kernel_rfl) ?_
  obtain ⟨v0, hv0, h⟩ := bind_some h
  obtain ⟨v1, hv1, h⟩ := bind_some h
  obtain ⟨v2, hv2, h⟩ := bind_some h
  obtain ⟨v3, hv3, h⟩ := bind_some h
  replace h := Option.some.inj h; subst h
  exact x_end 18 [(5, .call [] [] (.agg [i64 v0.1, i64 v0.2.1, i64 v0.2.2]) []), (1, .call [] [] (.agg [i64 v1.1, i64 v1.2.1, i64 v1.2.2]) []), (1, .call [] [] (.agg [i64 v2.1, i64 v2.2.1, i64 v2.2.2]) []), (0, .call [] [] (i64 v3) [])] [] (ocons (Timpl_normal (Y := Y) a0 _ hv0) (ocons (Timpl_normal (Y := Y) a1 _ hv1) (ocons (Timpl_normal (Y := Y) a2 _ hv2) (ocons (Timpl_det (Y := Y) v0 v1 v2 _ hv3) onil)))) onil (by kernel_rfl)
/-! impl.clash4 -/
def Dimpl_clash4 (n : Nat) (a0 : Pl) (a1 : Pl) (a2 : Pl) (a3 : Pl) : Option Bool :=
  (Dimpl_det3 a1 a2 a3).bind fun v0 => (Dimpl_det3 a0 a2 a3).bind fun v1 => (Dimpl_det3 a0 a1 a3).bind fun v2 => (Dimpl_det3 a0 a1 a2).bind fun v3 => (Dimpl_weighs n [v0, w64 (0 - v1), v2, w64 (0 - v3)] [a0.D, a1.D, a2.D, a3.D]).bind fun v4 => some v4
theorem Timpl_clash4 {Y} (n : Nat) (a0 : Pl) (a1 : Pl) (a2 : Pl) (a3 : Pl) (r : Bool) (h : Dimpl_clash4 n a0 a1 a2 a3 = some r) : Big Tryz.prog H Y (.call 148 [.agg [i64 a0.A, i64 a0.B, i64 a0.C, i64 a0.D], .agg [i64 a1.A, i64 a1.B, i64 a1.C, i64 a1.D], .agg [i64 a2.A, i64 a2.B, i64 a2.C, i64 a2.D], .agg [i64 a3.A, i64 a3.B, i64 a3.C, i64 a3.D]] (lk []) (bl r) (lk [])) := by
  unfold Dimpl_clash4 at h
  refine x_call (fn := Tryz.f148) (c := bodyOf Tryz.f148) (bs0 := []) Tryz.func148 (by kernel_rfl) (by kernel_rfl) ?_
  obtain ⟨v0, hv0, h⟩ := bind_some h
  obtain ⟨v1, hv1, h⟩ := bind_some h
  obtain ⟨v2, hv2, h⟩ := bind_some h
  obtain ⟨v3, hv3, h⟩ := bind_some h
  obtain ⟨v4, hv4, h⟩ := bind_some h
  replace h := Option.some.inj h; subst h
  exact x_end 46 [(8, .call [] [] (i64 v0) []), (3, .call [] [] (i64 v1) []), (4, .call [] [] (i64 v2) []), (3, .call [] [] (i64 v3) []), (13, .call [] [(eInt).f [a0.D, a1.D, a2.D, a3.D], (eInt).f [v0, w64 (0 - v1), v2, w64 (0 - v3)]] (bl v4) [])] [] (ocons (Timpl_det3 (Y := Y) a1 a2 a3 _ hv0) (ocons (Timpl_det3 (Y := Y) a0 a2 a3 _ hv1) (ocons (Timpl_det3 (Y := Y) a0 a1 a3 _ hv2) (ocons (Timpl_det3 (Y := Y) a0 a1 a2 _ hv3) (ocons (Timpl_weighs (Y := Y) n [v0, w64 (0 - v1), v2, w64 (0 - v3)] [a0.D, a1.D, a2.D, a3.D] _ hv4) (ocons (len_row (L := [v0, w64 (0 - v1), v2, w64 (0 - v3)]) eInt) (ocons (Enc.share eInt eInt sInt [v0, w64 (0 - v1), v2, w64 (0 - v3)]) (ocons (len_row (L := [a0.D, a1.D, a2.D, a3.D]) eInt) (ocons (Enc.share eInt eInt sInt [a0.D, a1.D, a2.D, a3.D]) onil))))))))) onil (by kernel_rfl)
/-! impl.room -/
def Dimpl_room_0 (n : Nat) (rec1 : Int → Option Bool) (_rec0 : Int → Option Bool) (_t13 : Int) (_t23 : List Pl) (_t24 b6_0 b6_1 b6_2 b6_3 : Int) (_t0 : List Pl) (_t11 : List Pl) (_t12 b3_0 b3_1 b3_2 b3_3 t25 : Int) (t36 : List Pl) (t37 b8_0 b8_1 b8_2 b8_3 : Int) (rec2 : Int → Option Bool) (a : Int) : Option Bool :=
  match a with
  | t38 => frk (decide (t38 < t37)) ((lget t36 t38).bind fun v6 => (Dimpl_clash4 n v6 (Pl.mk b8_0 b8_1 b8_2 b8_3) (Pl.mk b6_0 b6_1 b6_2 b6_3) (Pl.mk b3_0 b3_1 b3_2 b3_3)).bind fun v7 => frk v7 (some false) (rec2 (w64 (t38 + 1)))) (rec1 (w64 (t25 + 1)))
theorem Timpl_room_0 {Y} (n : Nat) (rec1 : Int → Option Bool) (rec0 : Int → Option Bool) (t13 : Int) (t23 : List Pl) (t24 b6_0 b6_1 b6_2 b6_3 : Int) (t0 : List Pl) (t11 : List Pl) (t12 b3_0 b3_1 b3_2 b3_3 : Int) (hrec1 : ∀ (a : Int) (r : Bool), rec1 a = some r → Wk Tryz.prog H Y 110 [.code (cp [1, 0, 1, 0, 0, 1, 1, 0, 0, 1, 1, 1, 0] (bodyOf Tryz.f110)), .blk 2, .blk 1, .code (cp [1, 0, 1, 0, 0, 1, 1, 1] (bodyOf Tryz.f110)), .lp (cp [1, 0, 1, 0] (bodyOf Tryz.f110)), .blk 0, .code (cp [1, 1] (bodyOf Tryz.f110))] (FinX Tryz.prog Tryz.f110 [] (bl r) []) ⟨[(0, .sl false 4 t0.length ((ePl).f t0)), (3, .ptr 3 0), (6, .ptr 6 0), (11, .sl false 4 t11.length ((ePl).f t11)), (12, i64 t12), (13, i64 t13), (23, .sl false 4 t23.length ((ePl).f t23)), (24, i64 t24), (25, i64 a)], [(3, ⟨true, 0, [i64 b3_0, i64 b3_1, i64 b3_2, i64 b3_3]⟩), (6, ⟨true, 0, [i64 b6_0, i64 b6_1, i64 b6_2, i64 b6_3]⟩)]⟩) (_hrec0 : ∀ (a : Int) (r : Bool), rec0 a = some r → Wk Tryz.prog H Y 110 [.code (cp [1, 0, 1, 0] (bodyOf Tryz.f110)), .blk 0, .code (cp [1, 1] (bodyOf Tryz.f110))] (FinX Tryz.prog Tryz.f110 [] (bl r) []) ⟨[(0, .sl false 4 t0.length ((ePl).f t0)), (3, .ptr 3 0), (11, .sl false 4 t11.length ((ePl).f t11)), (12, i64 t12), (13, i64 a)], [(3, ⟨true, 0, [i64 b3_0, i64 b3_1, i64 b3_2, i64 b3_3]⟩)]⟩) (t25 : Int) (t36 : List Pl) (t37 b8_0 b8_1 b8_2 b8_3 : Int) : ∀ (m : Nat) (a : Int) (r : Bool), loopN (Dimpl_room_0 n rec1 rec0 t13 t23 t24 b6_0 b6_1 b6_2 b6_3 t0 t11 t12 b3_0 b3_1 b3_2 b3_3 t25 t36 t37 b8_0 b8_1 b8_2 b8_3) m a = some r → Wk Tryz.prog H Y 110 [.code (cp [1, 0, 1, 0, 0, 1, 1, 0, 0, 1, 1, 1, 0, 0, 1, 1, 0, 0, 1, 1, 1, 0] (bodyOf Tryz.f110)), .blk 4, .blk 3, .code (cp [1, 0, 1, 0, 0, 1, 1, 0, 0, 1, 1, 1, 0, 0, 1, 1, 1] (bodyOf Tryz.f110)), .lp (cp [1, 0, 1, 0, 0, 1, 1, 0, 0, 1, 1, 1, 0] (bodyOf Tryz.f110)), .blk 2, .blk 1, .code (cp [1, 0, 1, 0, 0, 1, 1, 1] (bodyOf Tryz.f110)), .lp (cp [1, 0, 1, 0] (bodyOf Tryz.f110)), .blk 0, .code (cp [1, 1] (bodyOf Tryz.f110))] (FinX Tryz.prog Tryz.f110 [] (bl r) []) ⟨[(0, .sl false 4 t0.length ((ePl).f t0)), (3, .ptr 3 0), (6, .ptr 6 0), (8, .ptr 8 0), (11, .sl false 4 t11.length ((ePl).f t11)), (12, i64 t12), (13, i64 t13), (23, .sl false 4 t23.length ((ePl).f t23)), (24, i64 t24), (25, i64 t25), (36, .sl false 4 t36.length ((ePl).f t36)), (37, i64 t37), (38, i64 a)], [(3, ⟨true, 0, [i64 b3_0, i64 b3_1, i64 b3_2, i64 b3_3]⟩), (6, ⟨true, 0, [i64 b6_0, i64 b6_1, i64 b6_2, i64 b6_3]⟩), (8, ⟨true, 0, [i64 b8_0, i64 b8_1, i64 b8_2, i64 b8_3]⟩)]⟩ := by
  refine loopN_ind (fun _rec2 hrec2 a r h => ?_)
  obtain ⟨t38, rfl⟩ : ∃ x, x = a := ⟨a, rfl⟩
  unfold Dimpl_room_0 at h
  refine x_frk 6 [] onil h (by kernel_rfl) (fun h => ?_) (fun h => ?_)
  · obtain ⟨v6, hv6, h⟩ := bind_some h
    obtain ⟨v7, hv7, h⟩ := bind_some h
    refine x_frk 18 [(0, .val (.cptr (ePl.c v6 ++ (ePl).f ((t36).drop (Int.toNat t38 + 1))))), (7, .call [] [] (bl v7) [])] (ocons (ix ePl hv6) (ocons (Timpl_clash4 (Y := Y) n v6 (Pl.mk b8_0 b8_1 b8_2 b8_3) (Pl.mk b6_0 b6_1 b6_2 b6_3) (Pl.mk b3_0 b3_1 b3_2 b3_3) _ hv7) onil)) h (by kernel_rfl) (fun h => ?_) (fun h => ?_)
    · replace h := Option.some.inj h; subst h
      exact x_end 4 [] [] onil onil (by kernel_rfl)
    · exact x_to 7 [] onil (hrec2 (w64 (t38 + 1)) r h) (by kernel_rfl)
  · exact x_to 7 [] onil (hrec1 (w64 (t25 + 1)) r h) (by kernel_rfl)
def Dimpl_room_1 (n : Nat) (rec0 : Int → Option Bool) (t0 : List Pl) (t11 : List Pl) (t12 b3_0 b3_1 b3_2 b3_3 t13 : Int) (t23 : List Pl) (t24 b6_0 b6_1 b6_2 b6_3 : Int) (rec1 : Int → Option Bool) (a : Int) : Option Bool :=
  match a with
  | t25 => frk (decide (t25 < t24)) ((lget t23 t25).bind fun v3 => (Dimpl_clash3 n v3 (Pl.mk b6_0 b6_1 b6_2 b6_3) (Pl.mk b3_0 b3_1 b3_2 b3_3)).bind fun v4 => frk v4 (some false) ((lsl t0 0 t25).bind fun v5 => loopN (Dimpl_room_0 n rec1 rec0 t13 t23 t24 b6_0 b6_1 b6_2 b6_3 t0 t11 t12 b3_0 b3_1 b3_2 b3_3 t25 v5 (v5.length : Int) v3.A v3.B v3.C v3.D) n 0)) (rec0 (w64 (t13 + 1)))
theorem Timpl_room_1 {Y} (n : Nat) (rec0 : Int → Option Bool) (t0 : List Pl) (t11 : List Pl) (t12 b3_0 b3_1 b3_2 b3_3 : Int) (hrec0 : ∀ (a : Int) (r : Bool), rec0 a = some r → Wk Tryz.prog H Y 110 [.code (cp [1, 0, 1, 0] (bodyOf Tryz.f110)), .blk 0, .code (cp [1, 1] (bodyOf Tryz.f110))] (FinX Tryz.prog Tryz.f110 [] (bl r) []) ⟨[(0, .sl false 4 t0.length ((ePl).f t0)), (3, .ptr 3 0), (11, .sl false 4 t11.length ((ePl).f t11)), (12, i64 t12), (13, i64 a)], [(3, ⟨true, 0, [i64 b3_0, i64 b3_1, i64 b3_2, i64 b3_3]⟩)]⟩) (t13 : Int) (t23 : List Pl) (t24 b6_0 b6_1 b6_2 b6_3 : Int) : ∀ (m : Nat) (a : Int) (r : Bool), loopN (Dimpl_room_1 n rec0 t0 t11 t12 b3_0 b3_1 b3_2 b3_3 t13 t23 t24 b6_0 b6_1 b6_2 b6_3) m a = some r → Wk Tryz.prog H Y 110 [.code (cp [1, 0, 1, 0, 0, 1, 1, 0, 0, 1, 1, 1, 0] (bodyOf Tryz.f110)), .blk 2, .blk 1, .code (cp [1, 0, 1, 0, 0, 1, 1, 1] (bodyOf Tryz.f110)), .lp (cp [1, 0, 1, 0] (bodyOf Tryz.f110)), .blk 0, .code (cp [1, 1] (bodyOf Tryz.f110))] (FinX Tryz.prog Tryz.f110 [] (bl r) []) ⟨[(0, .sl false 4 t0.length ((ePl).f t0)), (3, .ptr 3 0), (6, .ptr 6 0), (11, .sl false 4 t11.length ((ePl).f t11)), (12, i64 t12), (13, i64 t13), (23, .sl false 4 t23.length ((ePl).f t23)), (24, i64 t24), (25, i64 a)], [(3, ⟨true, 0, [i64 b3_0, i64 b3_1, i64 b3_2, i64 b3_3]⟩), (6, ⟨true, 0, [i64 b6_0, i64 b6_1, i64 b6_2, i64 b6_3]⟩)]⟩ := by
  refine loopN_ind (fun rec1 hrec1 a r h => ?_)
  obtain ⟨t25, rfl⟩ : ∃ x, x = a := ⟨a, rfl⟩
  unfold Dimpl_room_1 at h
  refine x_frk 6 [] onil h (by kernel_rfl) (fun h => ?_) (fun h => ?_)
  · obtain ⟨v3, hv3, h⟩ := bind_some h
    obtain ⟨v4, hv4, h⟩ := bind_some h
    refine x_frk 20 [(1, .val (.cptr (ePl.c v3 ++ (ePl).f ((t23).drop (Int.toNat t25 + 1))))), (7, .call [] [] (bl v4) [])] (ocons (ix ePl hv3) (ocons (Timpl_clash3 (Y := Y) n v3 (Pl.mk b6_0 b6_1 b6_2 b6_3) (Pl.mk b3_0 b3_1 b3_2 b3_3) _ hv4) onil)) h (by kernel_rfl) (fun h => ?_) (fun h => ?_)
    · replace h := Option.some.inj h; subst h
      exact x_end 4 [] [] onil onil (by kernel_rfl)
    · obtain ⟨v5, hv5, h⟩ := bind_some h
      exact x_to 10 [(2, .val (.sl false 4 v5.length ((ePl).f v5)))] (ocons (slF ePl hv5) onil) (Timpl_room_0 n rec1 rec0 t13 t23 t24 b6_0 b6_1 b6_2 b6_3 t0 t11 t12 b3_0 b3_1 b3_2 b3_3 hrec1 hrec0 t25 v5 (v5.length : Int) v3.A v3.B v3.C v3.D n 0 r h) (by kernel_rfl)
  · exact x_to 7 [] onil (hrec0 (w64 (t13 + 1)) r h) (by kernel_rfl)
def Dimpl_room_2 (n : Nat) (t0 : List Pl) (t11 : List Pl) (t12 b3_0 b3_1 b3_2 b3_3 : Int) (rec0 : Int → Option Bool) (a : Int) : Option Bool :=
  match a with
  | t13 => frk (decide (t13 < t12)) ((lget t11 t13).bind fun v0 => (Dimpl_clash2 n v0 (Pl.mk b3_0 b3_1 b3_2 b3_3)).bind fun v1 => frk v1 (some false) ((lsl t0 0 t13).bind fun v2 => loopN (Dimpl_room_1 n rec0 t0 t11 t12 b3_0 b3_1 b3_2 b3_3 t13 v2 (v2.length : Int) v0.A v0.B v0.C v0.D) n 0)) (some true)
theorem Timpl_room_2 {Y} (n : Nat) (t0 : List Pl) (t11 : List Pl) (t12 b3_0 b3_1 b3_2 b3_3 : Int) : ∀ (m : Nat) (a : Int) (r : Bool), loopN (Dimpl_room_2 n t0 t11 t12 b3_0 b3_1 b3_2 b3_3) m a = some r → Wk Tryz.prog H Y 110 [.code (cp [1, 0, 1, 0] (bodyOf Tryz.f110)), .blk 0, .code (cp [1, 1] (bodyOf Tryz.f110))] (FinX Tryz.prog Tryz.f110 [] (bl r) []) ⟨[(0, .sl false 4 t0.length ((ePl).f t0)), (3, .ptr 3 0), (11, .sl false 4 t11.length ((ePl).f t11)), (12, i64 t12), (13, i64 a)], [(3, ⟨true, 0, [i64 b3_0, i64 b3_1, i64 b3_2, i64 b3_3]⟩)]⟩ := by
  refine loopN_ind (fun rec0 hrec0 a r h => ?_)
  obtain ⟨t13, rfl⟩ : ∃ x, x = a := ⟨a, rfl⟩
  unfold Dimpl_room_2 at h
  refine x_frk 6 [] onil h (by kernel_rfl) (fun h => ?_) (fun h => ?_)
  · obtain ⟨v0, hv0, h⟩ := bind_some h
    obtain ⟨v1, hv1, h⟩ := bind_some h
    refine x_frk 19 [(1, .val (.cptr (ePl.c v0 ++ (ePl).f ((t11).drop (Int.toNat t13 + 1))))), (6, .call [] [] (bl v1) [])] (ocons (ix ePl hv0) (ocons (Timpl_clash2 (Y := Y) n v0 (Pl.mk b3_0 b3_1 b3_2 b3_3) _ hv1) onil)) h (by kernel_rfl) (fun h => ?_) (fun h => ?_)
    · replace h := Option.some.inj h; subst h
      exact x_end 4 [] [] onil onil (by kernel_rfl)
    · obtain ⟨v2, hv2, h⟩ := bind_some h
      exact x_to 10 [(2, .val (.sl false 4 v2.length ((ePl).f v2)))] (ocons (slF ePl hv2) onil) (Timpl_room_1 n rec0 t0 t11 t12 b3_0 b3_1 b3_2 b3_3 hrec0 t13 v2 (v2.length : Int) v0.A v0.B v0.C v0.D n 0 r h) (by kernel_rfl)
  · replace h := Option.some.inj h; subst h
    exact x_end 5 [] [] onil onil (by kernel_rfl)
def Dimpl_room (n : Nat) (a0 : (List Pl)) (a1 : Pl) : Option Bool :=
  loopN (Dimpl_room_2 n a0 a0 (a0.length : Int) a1.A a1.B a1.C a1.D) n 0
theorem Timpl_room {Y} (n : Nat) (a0 : (List Pl)) (a1 : Pl) (r : Bool) (h : Dimpl_room n a0 a1 = some r) : Big Tryz.prog H Y (.call 110 [.sl false 4 a0.length ((ePl).f a0), .agg [i64 a1.A, i64 a1.B, i64 a1.C, i64 a1.D]] (lk []) (bl r) (lk [])) := by
  unfold Dimpl_room at h
  refine x_call (fn := Tryz.f110) (c := bodyOf Tryz.f110) (bs0 := []) Tryz.func110 (by kernel_rfl) (by kernel_rfl) ?_
  exact x_to 13 [] onil (Timpl_room_2 n a0 a0 (a0.length : Int) a1.A a1.B a1.C a1.D n 0 r h) (by kernel_rfl)
/-! impl.with -/
def Dimpl_with (a0 : (List Pl)) (a1 : Pl) : Option (List Pl) :=
  chk (apB 32 (0 + a0.length)) (chk (apB 32 (([] ++ a0).length + 1)) (some (([] ++ a0) ++ [a1])))
theorem Timpl_with {Y} (a0 : (List Pl)) (a1 : Pl) (r : (List Pl)) (h : Dimpl_with a0 a1 = some r) : Big Tryz.prog H Y (.call 104 [.sl false 4 a0.length ((ePl).f a0), .agg [i64 a1.A, i64 a1.B, i64 a1.C, i64 a1.D]] (lk []) (.sl true 4 r.length ((ePl).f r)) (lk [])) := by
  unfold Dimpl_with at h
  refine x_call (fn := Tryz.f104) (c := bodyOf Tryz.f104) (bs0 := []) Tryz.func104 (by kernel_rfl) (by kernel_rfl) ?_
  obtain ⟨c0, h⟩ := chk_some h
  obtain ⟨c1, h⟩ := chk_some h
  replace h := Option.some.inj h; subst h
  exact x_end 15 [(4, .app false (List.length ([] ++ a0)) ((ePl).f ([] ++ a0))), (2, .app false (List.length (([] ++ a0) ++ [a1])) ((ePl).f (([] ++ a0) ++ [a1])))] [] (ocons (len_row' (L := []) ePl) (ocons (app_one (L := []) (M := a0) ePl c0) (ocons (app_new (L := []) (M := a0) ePl) (ocons (app_m (L := []) (M := a0) ePl rfl) (ocons (len_row' (L := a0) ePl) (ocons (len_row' (L := ([] ++ a0)) ePl) (ocons (app_one (L := ([] ++ a0)) (M := [a1]) ePl c1) (ocons (app_new (L := ([] ++ a0)) (M := [a1]) ePl) (ocons (app_m (L := ([] ++ a0)) (M := [a1]) ePl rfl) (ocons (len_row' (L := [a1]) ePl) (ocons (Enc.noOwn ePl (fun _ => rfl) [a1]) onil))))))))))) (ocons (len_row (L := (([] ++ a0) ++ [a1])) ePl) onil) (by kernel_rfl)
/-! impl.checker).right -/
def Dimpl_checker_right_1 (_n : Nat) (self : (Int × Sol × (List Pl)) → Option (Bool × Int)) (t2 : List Pl) (t59 _b4_0 : Bool) (b4_1 b4_2 b4_3 b4_4 : Int) (b4_5 : List Sol) (b7_0 b7_1 b7_2 b7_3 b1000_0 : Int) : Option (Bool × Int) :=
  frk t59 (some (false, b1000_0)) ((lget b4_5 0).bind fun v5 => (Dimpl_with t2 (Pl.mk b4_1 b4_2 b4_3 b4_4)).bind fun v6 => (self (b1000_0, v5, v6)).bind fun v7 => frk v7.1 ((lget b4_5 1).bind fun v8 => (Dimpl_with t2 (Pl.mk b7_0 b7_1 b7_2 b7_3)).bind fun v9 => (self (v7.2, v8, v9)).bind fun v10 => some v10) (some (false, v7.2)))
theorem Timpl_checker_right_1 {Y} (n : Nat) (self : (Int × Sol × (List Pl)) → Option (Bool × Int)) (hself : ∀ (a : (Int × Sol × (List Pl))) (r : (Bool × Int)), self a = some r → Big Tryz.prog H Y (.call 81 [.ptr 1000 0, .agg [bl a.2.1.inn, i64 a.2.1.pl.A, i64 a.2.1.pl.B, i64 a.2.1.pl.C, i64 a.2.1.pl.D, .sl false 6 a.2.1.kids.length ((eSol false).f a.2.1.kids)], .sl false 4 a.2.2.length ((ePl).f a.2.2)] (lk [(1000, ⟨true, 0, [i64 a.1]⟩)]) (bl r.1) (lk [(1000, ⟨true, 0, [i64 r.2]⟩)]))) (t2 : List Pl) (t59 b4_0 : Bool) (b4_1 b4_2 b4_3 b4_4 : Int) (b4_5 : List Sol) (b7_0 b7_1 b7_2 b7_3 b1000_0 : Int) (r : (Bool × Int)) (h : Dimpl_checker_right_1 n self t2 t59 b4_0 b4_1 b4_2 b4_3 b4_4 b4_5 b7_0 b7_1 b7_2 b7_3 b1000_0 = some r) : Wk Tryz.prog H Y 81 [.code (cp [1, 1, 1, 1, 1, 0, 1] (bodyOf Tryz.f81)), .code (cp [1, 1, 1, 1, 1, 1] (bodyOf Tryz.f81))] (FinX Tryz.prog Tryz.f81 [(1000, ⟨true, 0, [.bad]⟩)] (bl r.1) [(1000, ⟨true, 0, [i64 r.2]⟩)]) ⟨[(0, .ptr 1000 0), (2, .sl false 4 t2.length ((ePl).f t2)), (4, .ptr 4 0), (7, .ptr 7 0), (59, bl t59)], [(4, ⟨true, 0, [bl b4_0, i64 b4_1, i64 b4_2, i64 b4_3, i64 b4_4, .sl false 6 b4_5.length ((eSol false).f b4_5)]⟩), (7, ⟨true, 0, [i64 b7_0, i64 b7_1, i64 b7_2, i64 b7_3]⟩), (1000, ⟨true, 0, [i64 b1000_0]⟩)]⟩ := by
  unfold Dimpl_checker_right_1 at h
  refine x_frk 0 [] onil h (by kernel_rfl) (fun h => ?_) (fun h => ?_)
  · replace h := Option.some.inj h; subst h
    exact x_end 4 [] [] onil onil (by kernel_rfl)
  · obtain ⟨v5, hv5, h⟩ := bind_some h
    obtain ⟨v6, hv6, h⟩ := bind_some h
    obtain ⟨v7, hv7, h⟩ := bind_some h
    refine x_frk 14 [(3, .val (.cptr ((eSol false).c v5 ++ (eSol false).f ((b4_5).drop (Int.toNat 0 + 1))))), (4, .call [] [] (.sl false 4 v6.length ((ePl).f v6)) []), (0, .call [] [] (bl v7.1) [(1000, ⟨true, 0, [i64 v7.2]⟩)])] (ocons (ix (eSol false) hv5) (ocons (shSl (L := v6) ePl ePl sPl (Timpl_with (Y := Y) t2 (Pl.mk b4_1 b4_2 b4_3 b4_4) _ hv6)) (ocons (hself (b1000_0, v5, v6) _ hv7) onil))) h (by kernel_rfl) (fun h => ?_) (fun h => ?_)
    · obtain ⟨v8, hv8, h⟩ := bind_some h
      obtain ⟨v9, hv9, h⟩ := bind_some h
      obtain ⟨v10, hv10, h⟩ := bind_some h
      replace h := Option.some.inj h; subst h
      exact x_end 12 [(3, .val (.cptr ((eSol false).c v8 ++ (eSol false).f ((b4_5).drop (Int.toNat 1 + 1))))), (3, .call [] [] (.sl false 4 v9.length ((ePl).f v9)) []), (0, .call [] [] (bl v10.1) [(1000, ⟨true, 0, [i64 v10.2]⟩)])] [] (ocons (ix (eSol false) hv8) (ocons (shSl (L := v9) ePl ePl sPl (Timpl_with (Y := Y) t2 (Pl.mk b7_0 b7_1 b7_2 b7_3) _ hv9)) (ocons (hself (v7.2, v8, v9) _ hv10) onil))) onil (by kernel_rfl)
    · replace h := Option.some.inj h; subst h
      exact x_end 12 [] [] onil onil (by kernel_rfl)
def Dimpl_checker_right_0 (n : Nat) (self : (Int × Sol × (List Pl)) → Option (Bool × Int)) (t2 : List Pl) (t45 b4_0 : Bool) (b4_1 b4_2 b4_3 b4_4 : Int) (b4_5 : List Sol) (b1000_0 : Int) : Option (Bool × Int) :=
  frk t45 (some (false, b1000_0)) ((Dimpl_flip (Pl.mk b4_1 b4_2 b4_3 b4_4)).bind fun v2 => (Dimpl_room n t2 (Pl.mk b4_1 b4_2 b4_3 b4_4)).bind fun v3 => frk (!v3) (some (false, b1000_0)) ((Dimpl_room n t2 v2).bind fun v4 => Dimpl_checker_right_1 n self t2 (!v4) b4_0 b4_1 b4_2 b4_3 b4_4 b4_5 v2.A v2.B v2.C v2.D b1000_0))
theorem Timpl_checker_right_0 {Y} (n : Nat) (self : (Int × Sol × (List Pl)) → Option (Bool × Int)) (hself : ∀ (a : (Int × Sol × (List Pl))) (r : (Bool × Int)), self a = some r → Big Tryz.prog H Y (.call 81 [.ptr 1000 0, .agg [bl a.2.1.inn, i64 a.2.1.pl.A, i64 a.2.1.pl.B, i64 a.2.1.pl.C, i64 a.2.1.pl.D, .sl false 6 a.2.1.kids.length ((eSol false).f a.2.1.kids)], .sl false 4 a.2.2.length ((ePl).f a.2.2)] (lk [(1000, ⟨true, 0, [i64 a.1]⟩)]) (bl r.1) (lk [(1000, ⟨true, 0, [i64 r.2]⟩)]))) (t2 : List Pl) (t45 b4_0 : Bool) (b4_1 b4_2 b4_3 b4_4 : Int) (b4_5 : List Sol) (b1000_0 : Int) (r : (Bool × Int)) (h : Dimpl_checker_right_0 n self t2 t45 b4_0 b4_1 b4_2 b4_3 b4_4 b4_5 b1000_0 = some r) : Wk Tryz.prog H Y 81 [.code (cp [1, 1, 1, 0, 1] (bodyOf Tryz.f81)), .code (cp [1, 1, 1, 1] (bodyOf Tryz.f81))] (FinX Tryz.prog Tryz.f81 [(1000, ⟨true, 0, [.bad]⟩)] (bl r.1) [(1000, ⟨true, 0, [i64 r.2]⟩)]) ⟨[(0, .ptr 1000 0), (2, .sl false 4 t2.length ((ePl).f t2)), (4, .ptr 4 0), (45, bl t45)], [(4, ⟨true, 0, [bl b4_0, i64 b4_1, i64 b4_2, i64 b4_3, i64 b4_4, .sl false 6 b4_5.length ((eSol false).f b4_5)]⟩), (1000, ⟨true, 0, [i64 b1000_0]⟩)]⟩ := by
  unfold Dimpl_checker_right_0 at h
  refine x_frk 0 [] onil h (by kernel_rfl) (fun h => ?_) (fun h => ?_)
  · replace h := Option.some.inj h; subst h
    exact x_end 4 [] [] onil onil (by kernel_rfl)
  · obtain ⟨v2, hv2, h⟩ := bind_some h
    obtain ⟨v3, hv3, h⟩ := bind_some h
    refine x_frk 18 [(2, .call [] [] (.agg [i64 v2.A, i64 v2.B, i64 v2.C, i64 v2.D]) []), (5, .call [] [] (bl v3) [])] (ocons (Timpl_flip (Y := Y) (Pl.mk b4_1 b4_2 b4_3 b4_4) _ hv2) (ocons (Timpl_room (Y := Y) n t2 (Pl.mk b4_1 b4_2 b4_3 b4_4) _ hv3) onil)) h (by kernel_rfl) (fun h => ?_) (fun h => ?_)
    · replace h := Option.some.inj h; subst h
      exact x_end 11 [] [] onil onil (by kernel_rfl)
    · obtain ⟨v4, hv4, h⟩ := bind_some h
      exact x_to 6 [(2, .call [] [] (bl v4) [])] (ocons (Timpl_room (Y := Y) n t2 v2 _ hv4) onil) (Timpl_checker_right_1 n self hself t2 (!v4) b4_0 b4_1 b4_2 b4_3 b4_4 b4_5 v2.A v2.B v2.C v2.D b1000_0 r h) (by kernel_rfl)
def Dimpl_checker_right_b (n : Nat) (self : (Int × Sol × (List Pl)) → Option (Bool × Int)) (a : (Int × Sol × (List Pl))) : Option (Bool × Int) :=
  match a with
  | (a0, a1, a2) => (Dimpl_Solid_isLeaf a1).bind fun v0 => frk v0 (some ((a1.pl.A == 0 && (a1.pl.B == 0 && (a1.pl.C == 0 && (a1.pl.D == 0 && true)))), a0)) (frk a1.inn (some (false, w64 (a0 + 1))) (frk ((a1.kids.length : Int) != 2) (some (false, w64 (a0 + 1))) (frk (decide ((w64 (a0 + 1)) > 300)) (some (false, w64 (a0 + 1))) (frk (decide ((a2.length : Int) ≥ 24)) (some (false, w64 (a0 + 1))) ((Dimpl_PlaneOk n a1.pl).bind fun v1 => Dimpl_checker_right_0 n self a2 (!v1) a1.inn a1.pl.A a1.pl.B a1.pl.C a1.pl.D a1.kids (w64 (a0 + 1)))))))
def Dimpl_checker_right (n : Nat) (a0 : Int) (a1 : Sol) (a2 : (List Pl)) : Option (Bool × Int) := loopN (Dimpl_checker_right_b n) n (a0, a1, a2)
theorem Timpl_checker_right_b {Y} (n : Nat) : ∀ (m : Nat) (a : (Int × Sol × (List Pl))) (r : (Bool × Int)), loopN (Dimpl_checker_right_b n) m a = some r → ∀ (_ : Unit), Big Tryz.prog H Y (.call 81 [.ptr 1000 0, .agg [bl a.2.1.inn, i64 a.2.1.pl.A, i64 a.2.1.pl.B, i64 a.2.1.pl.C, i64 a.2.1.pl.D, .sl false 6 a.2.1.kids.length ((eSol false).f a.2.1.kids)], .sl false 4 a.2.2.length ((ePl).f a.2.2)] (lk [(1000, ⟨true, 0, [i64 a.1]⟩)]) (bl r.1) (lk [(1000, ⟨true, 0, [i64 r.2]⟩)])) := by
  refine loopN_ind (fun self hs a r h => ?_)
  have hself : ∀ (a : (Int × Sol × (List Pl))) (r : (Bool × Int)), self a = some r → Big Tryz.prog H Y (.call 81 [.ptr 1000 0, .agg [bl a.2.1.inn, i64 a.2.1.pl.A, i64 a.2.1.pl.B, i64 a.2.1.pl.C, i64 a.2.1.pl.D, .sl false 6 a.2.1.kids.length ((eSol false).f a.2.1.kids)], .sl false 4 a.2.2.length ((ePl).f a.2.2)] (lk [(1000, ⟨true, 0, [i64 a.1]⟩)]) (bl r.1) (lk [(1000, ⟨true, 0, [i64 r.2]⟩)])) := fun a r h => hs a r h ()
  intro _
  obtain ⟨a0, a1, a2⟩ := a
  unfold Dimpl_checker_right_b at h
  refine x_call (fn := Tryz.f81) (c := bodyOf Tryz.f81) (bs0 := [(1000, ⟨true, 0, [.bad]⟩)]) Tryz.func81 (by kernel_rfl) (by kernel_rfl) ?_
  obtain ⟨v0, hv0, h⟩ := bind_some h
  refine x_frk 10 [(2, .call [] [] (bl v0) [])] (ocons (Timpl_Solid_isLeaf (Y := Y) a1 [] _ hv0) onil) h (by kernel_rfl) (fun h => ?_) (fun h => ?_)
  · replace h := Option.some.inj h; subst h
    exact x_end 8 [] [] onil onil (by kernel_rfl)
  · refine x_frk 18 [] onil h (by kernel_rfl) (fun h => ?_) (fun h => ?_)
    · replace h := Option.some.inj h; subst h
      exact x_end 29 [] [] onil onil (by kernel_rfl)
    · refine x_frk 6 [] onil h (by kernel_rfl) (fun h => ?_) (fun h => ?_)
      · replace h := Option.some.inj h; subst h
        exact x_end 23 [] [] onil onil (by kernel_rfl)
      · refine x_frk 7 [] onil h (by kernel_rfl) (fun h => ?_) (fun h => ?_)
        · replace h := Option.some.inj h; subst h
          exact x_end 16 [] [] onil onil (by kernel_rfl)
        · refine x_frk 5 [] onil h (by kernel_rfl) (fun h => ?_) (fun h => ?_)
          · replace h := Option.some.inj h; subst h
            exact x_end 11 [] [] onil onil (by kernel_rfl)
          · obtain ⟨v1, hv1, h⟩ := bind_some h
            exact x_to 6 [(2, .call [] [] (bl v1) [])] (ocons (Timpl_PlaneOk (Y := Y) n a1.pl _ hv1) onil) (Timpl_checker_right_0 n self hself a2 (!v1) a1.inn a1.pl.A a1.pl.B a1.pl.C a1.pl.D a1.kids (w64 (a0 + 1)) r h) (by kernel_rfl)
theorem Timpl_checker_right {Y} (n : Nat) (a0 : Int) (a1 : Sol) (a2 : (List Pl)) (r : (Bool × Int)) (h : Dimpl_checker_right n a0 a1 a2 = some r) : Big Tryz.prog H Y (.call 81 [.ptr 1000 0, .agg [bl a1.inn, i64 a1.pl.A, i64 a1.pl.B, i64 a1.pl.C, i64 a1.pl.D, .sl false 6 a1.kids.length ((eSol false).f a1.kids)], .sl false 4 a2.length ((ePl).f a2)] (lk [(1000, ⟨true, 0, [i64 a0]⟩)]) (bl r.1) (lk [(1000, ⟨true, 0, [i64 r.2]⟩)])) := Timpl_checker_right_b n n (a0, a1, a2) r h ()
/-! impl.SolidOk -/
def Dimpl_SolidOk (n : Nat) (a0 : Sol) : Option Bool :=
  (Dimpl_checker_right n 0 a0 []).bind fun v0 => some v0.1
theorem Timpl_SolidOk {Y} (n : Nat) (a0 : Sol) (r : Bool) (h : Dimpl_SolidOk n a0 = some r) : Big Tryz.prog H Y (.call 36 [.agg [bl a0.inn, i64 a0.pl.A, i64 a0.pl.B, i64 a0.pl.C, i64 a0.pl.D, .sl false 6 a0.kids.length ((eSol false).f a0.kids)]] (lk []) (bl r) (lk [])) := by
  unfold Dimpl_SolidOk at h
  refine x_call (fn := Tryz.f36) (c := bodyOf Tryz.f36) (bs0 := []) Tryz.func36 (by kernel_rfl) (by kernel_rfl) ?_
  obtain ⟨v0, hv0, h⟩ := bind_some h
  replace h := Option.some.inj h; subst h
  exact x_end 15 [(4, .call [(false, 4)] [] (bl v0.1) [(1000, ⟨true, 0, [i64 v0.2]⟩)])] [] (ocons (Timpl_checker_right (Y := Y) n 0 a0 [] _ hv0) onil) onil (by kernel_rfl)
/-! impl.spotAt -/
def Dimpl_spotAt (a0 : Pt) : Option Spot :=
  some (Spot.mk a0.X a0.Y a0.Z 1)
theorem Timpl_spotAt {Y} (a0 : Pt) (r : Spot) (h : Dimpl_spotAt a0 = some r) : Big Tryz.prog H Y (.call 84 [.agg [i64 a0.X, i64 a0.Y, i64 a0.Z]] (lk []) (.agg [i64 r.X, i64 r.Y, i64 r.Z, i64 r.W]) (lk [])) := by
  unfold Dimpl_spotAt at h
  refine x_call (fn := Tryz.f84) (c := bodyOf Tryz.f84) (bs0 := []) Tryz.func84 (by kernel_rfl) (by kernel_rfl) ?_
  replace h := Option.some.inj h; subst h
  exact x_end 16 [] [] onil onil (by kernel_rfl)
/-! impl.sideAt -/
def Dimpl_sideAt (a0 : Pl) (a1 : Spot) : Option Int :=
  (Dimpl_sign (w64 ((w64 ((w64 ((w64 (a0.A * a1.X)) + (w64 (a0.B * a1.Y)))) + (w64 (a0.C * a1.Z)))) + (w64 (a0.D * a1.W))))).bind fun v0 => some v0
theorem Timpl_sideAt {Y} (a0 : Pl) (a1 : Spot) (r : Int) (h : Dimpl_sideAt a0 a1 = some r) : Big Tryz.prog H Y (.call 130 [.agg [i64 a0.A, i64 a0.B, i64 a0.C, i64 a0.D], .agg [i64 a1.X, i64 a1.Y, i64 a1.Z, i64 a1.W]] (lk []) (i64 r) (lk [])) := by
  unfold Dimpl_sideAt at h
  refine x_call (fn := Tryz.f130) (c := bodyOf Tryz.f130) (bs0 := []) Tryz.func130 (by kernel_rfl) (by kernel_rfl) ?_
  obtain ⟨v0, hv0, h⟩ := bind_some h
  replace h := Option.some.inj h; subst h
  exact x_end 34 [(26, .call [] [] (i64 v0) [])] [] (ocons (Timpl_sign (Y := Y) (w64 ((w64 ((w64 ((w64 (a0.A * a1.X)) + (w64 (a0.B * a1.Y)))) + (w64 (a0.C * a1.Z)))) + (w64 (a0.D * a1.W)))) _ hv0) onil) onil (by kernel_rfl)
/-! impl.Solid).around -/
def Dimpl_Solid_around_0 (_n : Nat) (self : (Sol × Spot) → Option (Int × Int)) (_t0_0 : Bool) (_t0_1 _t0_2 _t0_3 _t0_4 : Int) (t0_5 : List Sol) (t7 t8 : Int) (t36 : Bool) (b3_0 b3_1 b3_2 b3_3 : Int) : Option (Int × Int) :=
  frk t36 ((lget t0_5 1).bind fun v4 => (self (v4, (Spot.mk b3_0 b3_1 b3_2 b3_3))).bind fun v5 => some (w64 (t7 + v5.1), w64 (t8 + v5.2))) (some (t7, t8))
theorem Timpl_Solid_around_0 {Y} (n : Nat) (self : (Sol × Spot) → Option (Int × Int)) (hself : ∀ (a : (Sol × Spot)) (q0 : List AV) (r : (Int × Int)), self a = some r → Big Tryz.prog H Y (.call 83 [.cptr ([bl a.1.inn, i64 a.1.pl.A, i64 a.1.pl.B, i64 a.1.pl.C, i64 a.1.pl.D, .sl false 6 a.1.kids.length ((eSol false).f a.1.kids)] ++ q0), .agg [i64 a.2.X, i64 a.2.Y, i64 a.2.Z, i64 a.2.W]] (lk []) (.tup [i64 r.1, i64 r.2]) (lk []))) (t0_0 : Bool) (t0_1 t0_2 t0_3 t0_4 : Int) (t0_5 : List Sol) (t0_r : List AV) (t7 t8 : Int) (t36 : Bool) (b3_0 b3_1 b3_2 b3_3 : Int) (q0 : List AV) (r : (Int × Int)) (h : Dimpl_Solid_around_0 n self t0_0 t0_1 t0_2 t0_3 t0_4 t0_5 t7 t8 t36 b3_0 b3_1 b3_2 b3_3 = some r) : Wk Tryz.prog H Y 83 [.code (cp [1, 1, 1, 1, 1, 0, 1] (bodyOf Tryz.f83)), .code (cp [1, 1, 1, 1, 1, 1] (bodyOf Tryz.f83))] (FinX Tryz.prog Tryz.f83 [] (.tup [i64 r.1, i64 r.2]) []) ⟨[(0, .cptr ([bl t0_0, i64 t0_1, i64 t0_2, i64 t0_3, i64 t0_4, .sl false 6 t0_5.length ((eSol false).f t0_5)] ++ t0_r)), (3, .ptr 3 0), (7, i64 t7), (8, i64 t8), (36, bl t36)], [(3, ⟨true, 0, [i64 b3_0, i64 b3_1, i64 b3_2, i64 b3_3]⟩)]⟩ := by
  unfold Dimpl_Solid_around_0 at h
  refine x_frk 0 [] onil h (by kernel_rfl) (fun h => ?_) (fun h => ?_)
  · obtain ⟨v4, hv4, h⟩ := bind_some h
    obtain ⟨v5, hv5, h⟩ := bind_some h
    replace h := Option.some.inj h; subst h
    exact x_end 35 [(4, .val (.cptr ((eSol false).c v4 ++ (eSol false).f ((t0_5).drop (Int.toNat 1 + 1))))), (1, .call [] [] (.tup [i64 v5.1, i64 v5.2]) [])] [] (ocons (ix (eSol false) hv4) (ocons (hself (v4, (Spot.mk b3_0 b3_1 b3_2 b3_3)) ((eSol false).f ((t0_5).drop (Int.toNat 1 + 1))) _ hv5) onil)) onil (by kernel_rfl)
  · replace h := Option.some.inj h; subst h
    exact x_end 8 [] [] onil onil (by kernel_rfl)
def Dimpl_Solid_around_b (n : Nat) (self : (Sol × Spot) → Option (Int × Int)) (a : (Sol × Spot)) : Option (Int × Int) :=
  match a with
  | (a0, a1) => (Dimpl_Solid_isLeaf a0).bind fun v0 => frk v0 (frk a0.inn (some (1, 0)) (some (0, 1))) ((Dimpl_sideAt a0.pl a1).bind fun v1 => frk (decide (v1 ≥ 0)) ((lget a0.kids 0).bind fun v2 => (self (v2, a1)).bind fun v3 => Dimpl_Solid_around_0 n self a0.inn a0.pl.A a0.pl.B a0.pl.C a0.pl.D a0.kids v3.1 v3.2 (decide (v1 ≤ 0)) a1.X a1.Y a1.Z a1.W) (Dimpl_Solid_around_0 n self a0.inn a0.pl.A a0.pl.B a0.pl.C a0.pl.D a0.kids 0 0 (decide (v1 ≤ 0)) a1.X a1.Y a1.Z a1.W))
def Dimpl_Solid_around (n : Nat) (a0 : Sol) (a1 : Spot) : Option (Int × Int) := loopN (Dimpl_Solid_around_b n) n (a0, a1)
theorem Timpl_Solid_around_b {Y} (n : Nat) : ∀ (m : Nat) (a : (Sol × Spot)) (r : (Int × Int)), loopN (Dimpl_Solid_around_b n) m a = some r → ∀ (q0 : List AV), Big Tryz.prog H Y (.call 83 [.cptr ([bl a.1.inn, i64 a.1.pl.A, i64 a.1.pl.B, i64 a.1.pl.C, i64 a.1.pl.D, .sl false 6 a.1.kids.length ((eSol false).f a.1.kids)] ++ q0), .agg [i64 a.2.X, i64 a.2.Y, i64 a.2.Z, i64 a.2.W]] (lk []) (.tup [i64 r.1, i64 r.2]) (lk [])) := by
  refine loopN_ind (fun self hs a r h => ?_)
  have hself : ∀ (a : (Sol × Spot)) (q0 : List AV) (r : (Int × Int)), self a = some r → Big Tryz.prog H Y (.call 83 [.cptr ([bl a.1.inn, i64 a.1.pl.A, i64 a.1.pl.B, i64 a.1.pl.C, i64 a.1.pl.D, .sl false 6 a.1.kids.length ((eSol false).f a.1.kids)] ++ q0), .agg [i64 a.2.X, i64 a.2.Y, i64 a.2.Z, i64 a.2.W]] (lk []) (.tup [i64 r.1, i64 r.2]) (lk [])) := fun a q0 r h => hs a r h q0
  intro q0
  obtain ⟨a0, a1⟩ := a
  unfold Dimpl_Solid_around_b at h
  refine x_call (fn := Tryz.f83) (c := bodyOf Tryz.f83) (bs0 := []) Tryz.func83 (by kernel_rfl) (by kernel_rfl) ?_
  obtain ⟨v0, hv0, h⟩ := bind_some h
  refine x_frk 12 [(4, .call [] [] (bl v0) [])] (ocons (Timpl_Solid_isLeaf (Y := Y) a0 q0 _ hv0) onil) h (by kernel_rfl) (fun h => ?_) (fun h => ?_)
  · refine x_frk 8 [] onil h (by kernel_rfl) (fun h => ?_) (fun h => ?_)
    · replace h := Option.some.inj h; subst h
      exact x_end 5 [] [] onil onil (by kernel_rfl)
    · replace h := Option.some.inj h; subst h
      exact x_end 6 [] [] onil onil (by kernel_rfl)
  · obtain ⟨v1, hv1, h⟩ := bind_some h
    refine x_frk 22 [(5, .call [] [] (i64 v1) [])] (ocons (Timpl_sideAt (Y := Y) a0.pl a1 _ hv1) onil) h (by kernel_rfl) (fun h => ?_) (fun h => ?_)
    · obtain ⟨v2, hv2, h⟩ := bind_some h
      obtain ⟨v3, hv3, h⟩ := bind_some h
      exact x_to 20 [(4, .val (.cptr ((eSol false).c v2 ++ (eSol false).f ((a0.kids).drop (Int.toNat 0 + 1))))), (1, .call [] [] (.tup [i64 v3.1, i64 v3.2]) [])] (ocons (ix (eSol false) hv2) (ocons (hself (v2, a1) ((eSol false).f ((a0.kids).drop (Int.toNat 0 + 1))) _ hv3) onil)) (Timpl_Solid_around_0 n self hself a0.inn a0.pl.A a0.pl.B a0.pl.C a0.pl.D a0.kids q0 v3.1 v3.2 (decide (v1 ≤ 0)) a1.X a1.Y a1.Z a1.W q0 r h) (by kernel_rfl)
    · exact x_to 7 [] onil (Timpl_Solid_around_0 n self hself a0.inn a0.pl.A a0.pl.B a0.pl.C a0.pl.D a0.kids q0 0 0 (decide (v1 ≤ 0)) a1.X a1.Y a1.Z a1.W q0 r h) (by kernel_rfl)
theorem Timpl_Solid_around {Y} (n : Nat) (a0 : Sol) (a1 : Spot) (q0 : List AV) (r : (Int × Int)) (h : Dimpl_Solid_around n a0 a1 = some r) : Big Tryz.prog H Y (.call 83 [.cptr ([bl a0.inn, i64 a0.pl.A, i64 a0.pl.B, i64 a0.pl.C, i64 a0.pl.D, .sl false 6 a0.kids.length ((eSol false).f a0.kids)] ++ q0), .agg [i64 a1.X, i64 a1.Y, i64 a1.Z, i64 a1.W]] (lk []) (.tup [i64 r.1, i64 r.2]) (lk [])) := Timpl_Solid_around_b n n (a0, a1) r h q0
/-! impl.where -/
def Dimpl_where (a0 a1 : Int) : Option Int :=
  frk (a0 == 0) (some (-1)) (frk (a1 == 0) (some 1) (some 0))
theorem Timpl_where {Y} (a0 a1 r : Int) (h : Dimpl_where a0 a1 = some r) : Big Tryz.prog H Y (.call 82 [i64 a0, i64 a1] (lk []) (i64 r) (lk [])) := by
  unfold Dimpl_where at h
  refine x_call (fn := Tryz.f82) (c := bodyOf Tryz.f82) (bs0 := []) Tryz.func82 (by kernel_rfl) (by kernel_rfl) ?_
  refine x_frk 12 [] onil h (by kernel_rfl) (fun h => ?_) (fun h => ?_)
  · replace h := Option.some.inj h; subst h
    exact x_end 4 [] [] onil onil (by kernel_rfl)
  · refine x_frk 6 [] onil h (by kernel_rfl) (fun h => ?_) (fun h => ?_)
    · replace h := Option.some.inj h; subst h
      exact x_end 4 [] [] onil onil (by kernel_rfl)
    · replace h := Option.some.inj h; subst h
      exact x_end 6 [] [] onil onil (by kernel_rfl)
/-! impl.Solid).whereOf -/
def Dimpl_Solid_whereOf (n : Nat) (a0 : Sol) (a1 : Pt) : Option Int :=
  (Dimpl_spotAt a1).bind fun v0 => (Dimpl_Solid_around n a0 v0).bind fun v1 => (Dimpl_where v1.1 v1.2).bind fun v2 => some v2
theorem Timpl_Solid_whereOf {Y} (n : Nat) (a0 : Sol) (a1 : Pt) (q0 : List AV) (r : Int) (h : Dimpl_Solid_whereOf n a0 a1 = some r) : Big Tryz.prog H Y (.call 37 [.cptr ([bl a0.inn, i64 a0.pl.A, i64 a0.pl.B, i64 a0.pl.C, i64 a0.pl.D, .sl false 6 a0.kids.length ((eSol false).f a0.kids)] ++ q0), .agg [i64 a1.X, i64 a1.Y, i64 a1.Z]] (lk []) (i64 r) (lk [])) := by
  unfold Dimpl_Solid_whereOf at h
  refine x_call (fn := Tryz.f37) (c := bodyOf Tryz.f37) (bs0 := []) Tryz.func37 (by kernel_rfl) (by kernel_rfl) ?_
  obtain ⟨v0, hv0, h⟩ := bind_some h
  obtain ⟨v1, hv1, h⟩ := bind_some h
  obtain ⟨v2, hv2, h⟩ := bind_some h
  replace h := Option.some.inj h; subst h
  exact x_end 16 [(4, .call [] [] (.agg [i64 v0.X, i64 v0.Y, i64 v0.Z, i64 v0.W]) []), (0, .call [] [] (.tup [i64 v1.1, i64 v1.2]) []), (2, .call [] [] (i64 v2) [])] [] (ocons (Timpl_spotAt (Y := Y) a1 _ hv0) (ocons (Timpl_Solid_around (Y := Y) n a0 v0 q0 _ hv1) (ocons (Timpl_where (Y := Y) v1.1 v1.2 _ hv2) onil))) onil (by kernel_rfl)
/-! impl.CountIn -/
def Dimpl_CountIn_1 (n : Nat) (rec1 : (Int × Int × Int × Int) → Option (Int × Int)) (_rec0 : (Int × Int × Int × Int × Int) → Option (Int × Int)) (t10 _b4_1 : Int) (b3_0 : Bool) (b3_1 b3_2 b3_3 b3_4 : Int) (b3_5 : List Sol) (_b4_2 b5_0 _b5_1 _b5_2 t11 b4_0 : Int) (rec2 : (Int × Int × Int) → Option (Int × Int)) (a : (Int × Int × Int)) : Option (Int × Int) :=
  match a with
  | (t8, t9, t12) => frk (decide (t12 ≤ b5_0)) ((Dimpl_Solid_whereOf n (Sol.mk b3_0 (Pl.mk b3_1 b3_2 b3_3 b3_4) b3_5) (Pt.mk t12 t11 t10)).bind fun v2 => frk (v2 == 1) (rec2 (w64 (t8 + 1), t9, w64 (t12 + 1))) (frk (v2 == 0) (rec2 (t8, w64 (t9 + 1), w64 (t12 + 1))) (rec2 (t8, t9, w64 (t12 + 1))))) (rec1 (t8, t9, w64 (t11 + 1), b4_0))
theorem Timpl_CountIn_1 {Y} (n : Nat) (rec1 : (Int × Int × Int × Int) → Option (Int × Int)) (rec0 : (Int × Int × Int × Int × Int) → Option (Int × Int)) (t10 b4_1 : Int) (b3_0 : Bool) (b3_1 b3_2 b3_3 b3_4 : Int) (b3_5 : List Sol) (b4_2 b5_0 b5_1 b5_2 : Int) (hrec1 : ∀ (a : (Int × Int × Int × Int)) (r : (Int × Int)), rec1 a = some r → Wk Tryz.prog H Y 8 [.code (cp [1, 1, 1, 0, 1, 0, 0, 1, 0, 0, 1, 0] (bodyOf Tryz.f8)), .blk 2, .blk 1, .code (cp [1, 1, 1, 0, 1, 0, 0, 1, 1] (bodyOf Tryz.f8)), .lp (cp [1, 1, 1, 0, 1, 0] (bodyOf Tryz.f8)), .blk 0, .code (cp [1, 1, 1, 1] (bodyOf Tryz.f8))] (FinX Tryz.prog Tryz.f8 [] (.tup [i64 r.1, i64 r.2]) []) ⟨[(3, .ptr 3 0), (4, .ptr 4 0), (5, .ptr 5 0), (8, i64 a.1), (9, i64 a.2.1), (10, i64 t10), (11, i64 a.2.2.1)], [(3, ⟨true, 0, [bl b3_0, i64 b3_1, i64 b3_2, i64 b3_3, i64 b3_4, .sl false 6 b3_5.length ((eSol false).f b3_5)]⟩), (4, ⟨true, 0, [i64 a.2.2.2, i64 b4_1, i64 b4_2]⟩), (5, ⟨true, 0, [i64 b5_0, i64 b5_1, i64 b5_2]⟩)]⟩) (_hrec0 : ∀ (a : (Int × Int × Int × Int × Int)) (r : (Int × Int)), rec0 a = some r → Wk Tryz.prog H Y 8 [.code (cp [1, 1, 1, 0, 1, 0] (bodyOf Tryz.f8)), .blk 0, .code (cp [1, 1, 1, 1] (bodyOf Tryz.f8))] (FinX Tryz.prog Tryz.f8 [] (.tup [i64 r.1, i64 r.2]) []) ⟨[(3, .ptr 3 0), (4, .ptr 4 0), (5, .ptr 5 0), (8, i64 a.1), (9, i64 a.2.1), (10, i64 a.2.2.1)], [(3, ⟨true, 0, [bl b3_0, i64 b3_1, i64 b3_2, i64 b3_3, i64 b3_4, .sl false 6 b3_5.length ((eSol false).f b3_5)]⟩), (4, ⟨true, 0, [i64 a.2.2.2.1, i64 a.2.2.2.2, i64 b4_2]⟩), (5, ⟨true, 0, [i64 b5_0, i64 b5_1, i64 b5_2]⟩)]⟩) (t11 b4_0 : Int) : ∀ (m : Nat) (a : (Int × Int × Int)) (r : (Int × Int)), loopN (Dimpl_CountIn_1 n rec1 rec0 t10 b4_1 b3_0 b3_1 b3_2 b3_3 b3_4 b3_5 b4_2 b5_0 b5_1 b5_2 t11 b4_0) m a = some r → Wk Tryz.prog H Y 8 [.code (cp [1, 1, 1, 0, 1, 0, 0, 1, 0, 0, 1, 0, 0, 1, 0, 0, 1, 0] (bodyOf Tryz.f8)), .blk 4, .blk 3, .code (cp [1, 1, 1, 0, 1, 0, 0, 1, 0, 0, 1, 0, 0, 1, 1] (bodyOf Tryz.f8)), .lp (cp [1, 1, 1, 0, 1, 0, 0, 1, 0, 0, 1, 0] (bodyOf Tryz.f8)), .blk 2, .blk 1, .code (cp [1, 1, 1, 0, 1, 0, 0, 1, 1] (bodyOf Tryz.f8)), .lp (cp [1, 1, 1, 0, 1, 0] (bodyOf Tryz.f8)), .blk 0, .code (cp [1, 1, 1, 1] (bodyOf Tryz.f8))] (FinX Tryz.prog Tryz.f8 [] (.tup [i64 r.1, i64 r.2]) []) ⟨[(3, .ptr 3 0), (4, .ptr 4 0), (5, .ptr 5 0), (8, i64 a.1), (9, i64 a.2.1), (10, i64 t10), (11, i64 t11), (12, i64 a.2.2)], [(3, ⟨true, 0, [bl b3_0, i64 b3_1, i64 b3_2, i64 b3_3, i64 b3_4, .sl false 6 b3_5.length ((eSol false).f b3_5)]⟩), (4, ⟨true, 0, [i64 b4_0, i64 b4_1, i64 b4_2]⟩), (5, ⟨true, 0, [i64 b5_0, i64 b5_1, i64 b5_2]⟩)]⟩ := by
  refine loopN_ind (fun _rec2 hrec2 a r h => ?_)
  obtain ⟨t8, t9, t12⟩ := a
  unfold Dimpl_CountIn_1 at h
  refine x_frk 9 [] onil h (by kernel_rfl) (fun h => ?_) (fun h => ?_)
  · obtain ⟨v2, hv2, h⟩ := bind_some h
    refine x_frk 17 [(4, .call [] [] (i64 v2) [])] (ocons (Timpl_Solid_whereOf (Y := Y) n (Sol.mk b3_0 (Pl.mk b3_1 b3_2 b3_3 b3_4) b3_5) (Pt.mk t12 t11 t10) [] _ hv2) onil) h (by kernel_rfl) (fun h => ?_) (fun h => ?_)
    · exact x_to 13 [] onil (hrec2 (w64 (t8 + 1), t9, w64 (t12 + 1)) r h) (by kernel_rfl)
    · refine x_frk 5 [] onil h (by kernel_rfl) (fun h => ?_) (fun h => ?_)
      · exact x_to 13 [] onil (hrec2 (t8, w64 (t9 + 1), w64 (t12 + 1)) r h) (by kernel_rfl)
      · exact x_to 9 [] onil (hrec2 (t8, t9, w64 (t12 + 1)) r h) (by kernel_rfl)
  · exact x_to 8 [] onil (hrec1 (t8, t9, w64 (t11 + 1), b4_0) r h) (by kernel_rfl)
def Dimpl_CountIn_2 (n : Nat) (rec0 : (Int × Int × Int × Int × Int) → Option (Int × Int)) (b3_0 : Bool) (b3_1 b3_2 b3_3 b3_4 : Int) (b3_5 : List Sol) (b4_2 b5_0 b5_1 b5_2 t10 b4_1 : Int) (rec1 : (Int × Int × Int × Int) → Option (Int × Int)) (a : (Int × Int × Int × Int)) : Option (Int × Int) :=
  match a with
  | (t8, t9, t11, b4_0) => frk (decide (t11 ≤ b5_1)) (loopN (Dimpl_CountIn_1 n rec1 rec0 t10 b4_1 b3_0 b3_1 b3_2 b3_3 b3_4 b3_5 b4_2 b5_0 b5_1 b5_2 t11 b4_0) n (t8, t9, b4_0)) (rec0 (t8, t9, w64 (t10 + 1), b4_0, b4_1))
theorem Timpl_CountIn_2 {Y} (n : Nat) (rec0 : (Int × Int × Int × Int × Int) → Option (Int × Int)) (b3_0 : Bool) (b3_1 b3_2 b3_3 b3_4 : Int) (b3_5 : List Sol) (b4_2 b5_0 b5_1 b5_2 : Int) (hrec0 : ∀ (a : (Int × Int × Int × Int × Int)) (r : (Int × Int)), rec0 a = some r → Wk Tryz.prog H Y 8 [.code (cp [1, 1, 1, 0, 1, 0] (bodyOf Tryz.f8)), .blk 0, .code (cp [1, 1, 1, 1] (bodyOf Tryz.f8))] (FinX Tryz.prog Tryz.f8 [] (.tup [i64 r.1, i64 r.2]) []) ⟨[(3, .ptr 3 0), (4, .ptr 4 0), (5, .ptr 5 0), (8, i64 a.1), (9, i64 a.2.1), (10, i64 a.2.2.1)], [(3, ⟨true, 0, [bl b3_0, i64 b3_1, i64 b3_2, i64 b3_3, i64 b3_4, .sl false 6 b3_5.length ((eSol false).f b3_5)]⟩), (4, ⟨true, 0, [i64 a.2.2.2.1, i64 a.2.2.2.2, i64 b4_2]⟩), (5, ⟨true, 0, [i64 b5_0, i64 b5_1, i64 b5_2]⟩)]⟩) (t10 b4_1 : Int) : ∀ (m : Nat) (a : (Int × Int × Int × Int)) (r : (Int × Int)), loopN (Dimpl_CountIn_2 n rec0 b3_0 b3_1 b3_2 b3_3 b3_4 b3_5 b4_2 b5_0 b5_1 b5_2 t10 b4_1) m a = some r → Wk Tryz.prog H Y 8 [.code (cp [1, 1, 1, 0, 1, 0, 0, 1, 0, 0, 1, 0] (bodyOf Tryz.f8)), .blk 2, .blk 1, .code (cp [1, 1, 1, 0, 1, 0, 0, 1, 1] (bodyOf Tryz.f8)), .lp (cp [1, 1, 1, 0, 1, 0] (bodyOf Tryz.f8)), .blk 0, .code (cp [1, 1, 1, 1] (bodyOf Tryz.f8))] (FinX Tryz.prog Tryz.f8 [] (.tup [i64 r.1, i64 r.2]) []) ⟨[(3, .ptr 3 0), (4, .ptr 4 0), (5, .ptr 5 0), (8, i64 a.1), (9, i64 a.2.1), (10, i64 t10), (11, i64 a.2.2.1)], [(3, ⟨true, 0, [bl b3_0, i64 b3_1, i64 b3_2, i64 b3_3, i64 b3_4, .sl false 6 b3_5.length ((eSol false).f b3_5)]⟩), (4, ⟨true, 0, [i64 a.2.2.2, i64 b4_1, i64 b4_2]⟩), (5, ⟨true, 0, [i64 b5_0, i64 b5_1, i64 b5_2]⟩)]⟩ := by
  refine loopN_ind (fun rec1 hrec1 a r h => ?_)
  obtain ⟨t8, t9, t11, b4_0⟩ := a
  unfold Dimpl_CountIn_2 at h
  refine x_frk 9 [] onil h (by kernel_rfl) (fun h => ?_) (fun h => ?_)
  · exact x_to 10 [] onil (Timpl_CountIn_1 n rec1 rec0 t10 b4_1 b3_0 b3_1 b3_2 b3_3 b3_4 b3_5 b4_2 b5_0 b5_1 b5_2 hrec1 hrec0 t11 b4_0 n (t8, t9, b4_0) r h) (by kernel_rfl)
  · exact x_to 8 [] onil (hrec0 (t8, t9, w64 (t10 + 1), b4_0, b4_1) r h) (by kernel_rfl)
def Dimpl_CountIn_3 (n : Nat) (b3_0 : Bool) (b3_1 b3_2 b3_3 b3_4 : Int) (b3_5 : List Sol) (b4_2 b5_0 b5_1 b5_2 : Int) (rec0 : (Int × Int × Int × Int × Int) → Option (Int × Int)) (a : (Int × Int × Int × Int × Int)) : Option (Int × Int) :=
  match a with
  | (t8, t9, t10, b4_0, b4_1) => frk (decide (t10 ≤ b5_2)) (loopN (Dimpl_CountIn_2 n rec0 b3_0 b3_1 b3_2 b3_3 b3_4 b3_5 b4_2 b5_0 b5_1 b5_2 t10 b4_1) n (t8, t9, b4_1, b4_0)) (some (t8, t9))
theorem Timpl_CountIn_3 {Y} (n : Nat) (b3_0 : Bool) (b3_1 b3_2 b3_3 b3_4 : Int) (b3_5 : List Sol) (b4_2 b5_0 b5_1 b5_2 : Int) : ∀ (m : Nat) (a : (Int × Int × Int × Int × Int)) (r : (Int × Int)), loopN (Dimpl_CountIn_3 n b3_0 b3_1 b3_2 b3_3 b3_4 b3_5 b4_2 b5_0 b5_1 b5_2) m a = some r → Wk Tryz.prog H Y 8 [.code (cp [1, 1, 1, 0, 1, 0] (bodyOf Tryz.f8)), .blk 0, .code (cp [1, 1, 1, 1] (bodyOf Tryz.f8))] (FinX Tryz.prog Tryz.f8 [] (.tup [i64 r.1, i64 r.2]) []) ⟨[(3, .ptr 3 0), (4, .ptr 4 0), (5, .ptr 5 0), (8, i64 a.1), (9, i64 a.2.1), (10, i64 a.2.2.1)], [(3, ⟨true, 0, [bl b3_0, i64 b3_1, i64 b3_2, i64 b3_3, i64 b3_4, .sl false 6 b3_5.length ((eSol false).f b3_5)]⟩), (4, ⟨true, 0, [i64 a.2.2.2.1, i64 a.2.2.2.2, i64 b4_2]⟩), (5, ⟨true, 0, [i64 b5_0, i64 b5_1, i64 b5_2]⟩)]⟩ := by
  refine loopN_ind (fun rec0 hrec0 a r h => ?_)
  obtain ⟨t8, t9, t10, b4_0, b4_1⟩ := a
  unfold Dimpl_CountIn_3 at h
  refine x_frk 9 [] onil h (by kernel_rfl) (fun h => ?_) (fun h => ?_)
  · exact x_to 10 [] onil (Timpl_CountIn_2 n rec0 b3_0 b3_1 b3_2 b3_3 b3_4 b3_5 b4_2 b5_0 b5_1 b5_2 hrec0 t10 b4_1 n (t8, t9, b4_1, b4_0) r h) (by kernel_rfl)
  · replace h := Option.some.inj h; subst h
    exact x_end 8 [] [] onil onil (by kernel_rfl)
def Dimpl_CountIn_0 (n : Nat) (t21 b3_0 : Bool) (b3_1 b3_2 b3_3 b3_4 : Int) (b3_5 : List Sol) (b4_0 b4_1 b4_2 b5_0 b5_1 b5_2 : Int) : Option (Int × Int) :=
  frk t21 (some (0, 0)) (loopN (Dimpl_CountIn_3 n b3_0 b3_1 b3_2 b3_3 b3_4 b3_5 b4_2 b5_0 b5_1 b5_2) n (0, 0, b4_2, b4_0, b4_1))
theorem Timpl_CountIn_0 {Y} (n : Nat) (t21 b3_0 : Bool) (b3_1 b3_2 b3_3 b3_4 : Int) (b3_5 : List Sol) (b4_0 b4_1 b4_2 b5_0 b5_1 b5_2 : Int) (r : (Int × Int)) (h : Dimpl_CountIn_0 n t21 b3_0 b3_1 b3_2 b3_3 b3_4 b3_5 b4_0 b4_1 b4_2 b5_0 b5_1 b5_2 = some r) : Wk Tryz.prog H Y 8 [.code (cp [1, 0, 1] (bodyOf Tryz.f8)), .code (cp [1, 1] (bodyOf Tryz.f8))] (FinX Tryz.prog Tryz.f8 [] (.tup [i64 r.1, i64 r.2]) []) ⟨[(3, .ptr 3 0), (4, .ptr 4 0), (5, .ptr 5 0), (21, bl t21)], [(3, ⟨true, 0, [bl b3_0, i64 b3_1, i64 b3_2, i64 b3_3, i64 b3_4, .sl false 6 b3_5.length ((eSol false).f b3_5)]⟩), (4, ⟨true, 0, [i64 b4_0, i64 b4_1, i64 b4_2]⟩), (5, ⟨true, 0, [i64 b5_0, i64 b5_1, i64 b5_2]⟩)]⟩ := by
  unfold Dimpl_CountIn_0 at h
  refine x_frk 0 [] onil h (by kernel_rfl) (fun h => ?_) (fun h => ?_)
  · replace h := Option.some.inj h; subst h
    exact x_end 5 [] [] onil onil (by kernel_rfl)
  · exact x_to 14 [] onil (Timpl_CountIn_3 n b3_0 b3_1 b3_2 b3_3 b3_4 b3_5 b4_2 b5_0 b5_1 b5_2 n (0, 0, b4_2, b4_0, b4_1) r h) (by kernel_rfl)
def Dimpl_CountIn (n : Nat) (a0 : Sol) (a1 : Pt) (a2 : Pt) : Option (Int × Int) :=
  (Dimpl_isGrid a1 a2).bind fun v0 => frk (!v0) (some (0, 0)) ((Dimpl_SolidOk n a0).bind fun v1 => Dimpl_CountIn_0 n (!v1) a0.inn a0.pl.A a0.pl.B a0.pl.C a0.pl.D a0.kids a1.X a1.Y a1.Z a2.X a2.Y a2.Z)
theorem Timpl_CountIn {Y} (n : Nat) (a0 : Sol) (a1 : Pt) (a2 : Pt) (r : (Int × Int)) (h : Dimpl_CountIn n a0 a1 a2 = some r) : Big Tryz.prog H Y (.call 8 [.agg [bl a0.inn, i64 a0.pl.A, i64 a0.pl.B, i64 a0.pl.C, i64 a0.pl.D, .sl false 6 a0.kids.length ((eSol false).f a0.kids)], .agg [i64 a1.X, i64 a1.Y, i64 a1.Z], .agg [i64 a2.X, i64 a2.Y, i64 a2.Z]] (lk []) (.tup [i64 r.1, i64 r.2]) (lk [])) := by
  unfold Dimpl_CountIn at h
  refine x_call (fn := Tryz.f8) (c := bodyOf Tryz.f8) (bs0 := []) Tryz.func8 (by kernel_rfl) (by kernel_rfl) ?_
  obtain ⟨v0, hv0, h⟩ := bind_some h
  refine x_frk 16 [(7, .call [] [] (bl v0) [])] (ocons (Timpl_isGrid (Y := Y) a1 a2 _ hv0) onil) h (by kernel_rfl) (fun h => ?_) (fun h => ?_)
  · replace h := Option.some.inj h; subst h
    exact x_end 11 [] [] onil onil (by kernel_rfl)
  · obtain ⟨v1, hv1, h⟩ := bind_some h
    exact x_to 5 [(1, .call [] [] (bl v1) [])] (ocons (Timpl_SolidOk (Y := Y) n a0 _ hv1) onil) (Timpl_CountIn_0 n (!v1) a0.inn a0.pl.A a0.pl.B a0.pl.C a0.pl.D a0.kids a1.X a1.Y a1.Z a2.X a2.Y a2.Z r h) (by kernel_rfl)
/-! spec.l8Leaf -/
def Dspec_l8Leaf (a0 : Sol) : Option Bool :=
  some ((a0.kids.length : Int) == 0)
theorem Tspec_l8Leaf {Y} (a0 : Sol) (r : Bool) (h : Dspec_l8Leaf a0 = some r) : Big Tryz.prog H Y (.call 88 [.agg [bl a0.inn, i64 a0.pl.A, i64 a0.pl.B, i64 a0.pl.C, i64 a0.pl.D, .sl false 6 a0.kids.length ((eSol false).f a0.kids)]] (lk []) (bl r) (lk [])) := by
  unfold Dspec_l8Leaf at h
  refine x_call (fn := Tryz.f88) (c := bodyOf Tryz.f88) (bs0 := []) Tryz.func88 (by kernel_rfl) (by kernel_rfl) ?_
  replace h := Option.some.inj h; subst h
  exact x_end 13 [] [] onil onil (by kernel_rfl)
/-! spec.l8Count -/
def Dspec_l8Count_1 (_n : Nat) (self : (Sol × Int) → Option Int) (t1 : Int) (_b2_0 : Bool) (_b2_1 _b2_2 _b2_3 _b2_4 : Int) (b2_5 : List Sol) (rec0 : (Int × Int) → Option Int) (a : (Int × Int)) : Option Int :=
  match a with
  | (t5, t6) => frk (decide (t6 < (b2_5.length : Int))) ((lget b2_5 t6).bind fun v1 => (self (v1, w64 (t1 - t5))).bind fun v2 => rec0 (w64 (t5 + v2), w64 (t6 + 1))) (some t5)
theorem Tspec_l8Count_1 {Y} (n : Nat) (self : (Sol × Int) → Option Int) (hself : ∀ (a : (Sol × Int)) (r : Int), self a = some r → Big Tryz.prog H Y (.call 40 [.agg [bl a.1.inn, i64 a.1.pl.A, i64 a.1.pl.B, i64 a.1.pl.C, i64 a.1.pl.D, .sl false 6 a.1.kids.length ((eSol false).f a.1.kids)], i64 a.2] (lk []) (i64 r) (lk []))) (t1 : Int) (b2_0 : Bool) (b2_1 b2_2 b2_3 b2_4 : Int) (b2_5 : List Sol) : ∀ (m : Nat) (a : (Int × Int)) (r : Int), loopN (Dspec_l8Count_1 n self t1 b2_0 b2_1 b2_2 b2_3 b2_4 b2_5) m a = some r → Wk Tryz.prog H Y 40 [.code (cp [1, 1, 1, 0, 1, 0] (bodyOf Tryz.f40)), .blk 0, .code (cp [1, 1, 1, 1] (bodyOf Tryz.f40))] (FinX Tryz.prog Tryz.f40 [] (i64 r) []) ⟨[(1, i64 t1), (2, .ptr 2 0), (5, i64 a.1), (6, i64 a.2)], [(2, ⟨true, 0, [bl b2_0, i64 b2_1, i64 b2_2, i64 b2_3, i64 b2_4, .sl false 6 b2_5.length ((eSol false).f b2_5)]⟩)]⟩ := by
  refine loopN_ind (fun _rec0 hrec0 a r h => ?_)
  obtain ⟨t5, t6⟩ := a
  unfold Dspec_l8Count_1 at h
  refine x_frk 10 [] onil h (by kernel_rfl) (fun h => ?_) (fun h => ?_)
  · obtain ⟨v1, hv1, h⟩ := bind_some h
    obtain ⟨v2, hv2, h⟩ := bind_some h
    exact x_to 24 [(4, .val (.cptr ((eSol false).c v1 ++ (eSol false).f ((b2_5).drop (Int.toNat t6 + 1))))), (4, .call [] [] (i64 v2) [])] (ocons (ix (eSol false) hv1) (ocons (hself (v1, w64 (t1 - t5)) _ hv2) onil)) (hrec0 (w64 (t5 + v2), w64 (t6 + 1)) r h) (by kernel_rfl)
  · replace h := Option.some.inj h; subst h
    exact x_end 6 [] [] onil onil (by kernel_rfl)
def Dspec_l8Count_0 (n : Nat) (self : (Sol × Int) → Option Int) (t1 : Int) (t12 b2_0 : Bool) (b2_1 b2_2 b2_3 b2_4 : Int) (b2_5 : List Sol) : Option Int :=
  frk t12 (some 0) (loopN (Dspec_l8Count_1 n self t1 b2_0 b2_1 b2_2 b2_3 b2_4 b2_5) n (1, 0))
theorem Tspec_l8Count_0 {Y} (n : Nat) (self : (Sol × Int) → Option Int) (hself : ∀ (a : (Sol × Int)) (r : Int), self a = some r → Big Tryz.prog H Y (.call 40 [.agg [bl a.1.inn, i64 a.1.pl.A, i64 a.1.pl.B, i64 a.1.pl.C, i64 a.1.pl.D, .sl false 6 a.1.kids.length ((eSol false).f a.1.kids)], i64 a.2] (lk []) (i64 r) (lk []))) (t1 : Int) (t12 b2_0 : Bool) (b2_1 b2_2 b2_3 b2_4 : Int) (b2_5 : List Sol) (r : Int) (h : Dspec_l8Count_0 n self t1 t12 b2_0 b2_1 b2_2 b2_3 b2_4 b2_5 = some r) : Wk Tryz.prog H Y 40 [.code (cp [1, 0, 1] (bodyOf Tryz.f40)), .code (cp [1, 1] (bodyOf Tryz.f40))] (FinX Tryz.prog Tryz.f40 [] (i64 r) []) ⟨[(1, i64 t1), (2, .ptr 2 0), (12, bl t12)], [(2, ⟨true, 0, [bl b2_0, i64 b2_1, i64 b2_2, i64 b2_3, i64 b2_4, .sl false 6 b2_5.length ((eSol false).f b2_5)]⟩)]⟩ := by
  unfold Dspec_l8Count_0 at h
  refine x_frk 0 [] onil h (by kernel_rfl) (fun h => ?_) (fun h => ?_)
  · replace h := Option.some.inj h; subst h
    exact x_end 4 [] [] onil onil (by kernel_rfl)
  · exact x_to 11 [] onil (Tspec_l8Count_1 n self hself t1 b2_0 b2_1 b2_2 b2_3 b2_4 b2_5 n (1, 0) r h) (by kernel_rfl)
def Dspec_l8Count_b (n : Nat) (self : (Sol × Int) → Option Int) (a : (Sol × Int)) : Option Int :=
  match a with
  | (a0, a1) => (Dspec_l8Leaf a0).bind fun v0 => frk v0 (some 0) (Dspec_l8Count_0 n self a1 (decide (a1 ≤ 0)) a0.inn a0.pl.A a0.pl.B a0.pl.C a0.pl.D a0.kids)
def Dspec_l8Count (n : Nat) (a0 : Sol) (a1 : Int) : Option Int := loopN (Dspec_l8Count_b n) n (a0, a1)
theorem Tspec_l8Count_b {Y} (n : Nat) : ∀ (m : Nat) (a : (Sol × Int)) (r : Int), loopN (Dspec_l8Count_b n) m a = some r → ∀ (_ : Unit), Big Tryz.prog H Y (.call 40 [.agg [bl a.1.inn, i64 a.1.pl.A, i64 a.1.pl.B, i64 a.1.pl.C, i64 a.1.pl.D, .sl false 6 a.1.kids.length ((eSol false).f a.1.kids)], i64 a.2] (lk []) (i64 r) (lk [])) := by
  refine loopN_ind (fun self hs a r h => ?_)
  have hself : ∀ (a : (Sol × Int)) (r : Int), self a = some r → Big Tryz.prog H Y (.call 40 [.agg [bl a.1.inn, i64 a.1.pl.A, i64 a.1.pl.B, i64 a.1.pl.C, i64 a.1.pl.D, .sl false 6 a.1.kids.length ((eSol false).f a.1.kids)], i64 a.2] (lk []) (i64 r) (lk [])) := fun a r h => hs a r h ()
  intro _
  obtain ⟨a0, a1⟩ := a
  unfold Dspec_l8Count_b at h
  refine x_call (fn := Tryz.f40) (c := bodyOf Tryz.f40) (bs0 := []) Tryz.func40 (by kernel_rfl) (by kernel_rfl) ?_
  obtain ⟨v0, hv0, h⟩ := bind_some h
  refine x_frk 11 [(3, .call [] [] (bl v0) [])] (ocons (Tspec_l8Leaf (Y := Y) a0 _ hv0) onil) h (by kernel_rfl) (fun h => ?_) (fun h => ?_)
  · replace h := Option.some.inj h; subst h
    exact x_end 9 [] [] onil onil (by kernel_rfl)
  · exact x_to 4 [] onil (Tspec_l8Count_0 n self hself a1 (decide (a1 ≤ 0)) a0.inn a0.pl.A a0.pl.B a0.pl.C a0.pl.D a0.kids r h) (by kernel_rfl)
theorem Tspec_l8Count {Y} (n : Nat) (a0 : Sol) (a1 r : Int) (h : Dspec_l8Count n a0 a1 = some r) : Big Tryz.prog H Y (.call 40 [.agg [bl a0.inn, i64 a0.pl.A, i64 a0.pl.B, i64 a0.pl.C, i64 a0.pl.D, .sl false 6 a0.kids.length ((eSol false).f a0.kids)], i64 a1] (lk []) (i64 r) (lk [])) := Tspec_l8Count_b n n (a0, a1) r h ()
/-! spec.l8Look -/
def Dspec_l8Look_0 (_n : Nat) (self : (Sol × (List Pl)) → Option Bool) (t1 : List Pl) (t42 _b2_0 : Bool) (b2_1 b2_2 b2_3 b2_4 : Int) (b2_5 : List Sol) : Option Bool :=
  frk t42 (some false) ((lget b2_5 0).bind fun v5 => (Dspec_l8Path t1 (Pl.mk b2_1 b2_2 b2_3 b2_4)).bind fun v6 => (self (v5, v6)).bind fun v7 => frk v7 ((lget b2_5 1).bind fun v8 => (Dspec_l3Flip (Pl.mk b2_1 b2_2 b2_3 b2_4)).bind fun v9 => (Dspec_l8Path t1 v9).bind fun v10 => (self (v8, v10)).bind fun v11 => some v11) (some false))
theorem Tspec_l8Look_0 {Y} (n : Nat) (self : (Sol × (List Pl)) → Option Bool) (hself : ∀ (a : (Sol × (List Pl))) (r : Bool), self a = some r → Big Tryz.prog H Y (.call 41 [.agg [bl a.1.inn, i64 a.1.pl.A, i64 a.1.pl.B, i64 a.1.pl.C, i64 a.1.pl.D, .sl false 6 a.1.kids.length ((eSol false).f a.1.kids)], .sl false 4 a.2.length ((ePl).f a.2)] (lk []) (bl r) (lk []))) (t1 : List Pl) (t42 b2_0 : Bool) (b2_1 b2_2 b2_3 b2_4 : Int) (b2_5 : List Sol) (r : Bool) (h : Dspec_l8Look_0 n self t1 t42 b2_0 b2_1 b2_2 b2_3 b2_4 b2_5 = some r) : Wk Tryz.prog H Y 41 [.code (cp [1, 1, 0, 1] (bodyOf Tryz.f41)), .code (cp [1, 1, 1] (bodyOf Tryz.f41))] (FinX Tryz.prog Tryz.f41 [] (bl r) []) ⟨[(1, .sl false 4 t1.length ((ePl).f t1)), (2, .ptr 2 0), (42, bl t42)], [(2, ⟨true, 0, [bl b2_0, i64 b2_1, i64 b2_2, i64 b2_3, i64 b2_4, .sl false 6 b2_5.length ((eSol false).f b2_5)]⟩)]⟩ := by
  unfold Dspec_l8Look_0 at h
  refine x_frk 0 [] onil h (by kernel_rfl) (fun h => ?_) (fun h => ?_)
  · replace h := Option.some.inj h; subst h
    exact x_end 4 [] [] onil onil (by kernel_rfl)
  · obtain ⟨v5, hv5, h⟩ := bind_some h
    obtain ⟨v6, hv6, h⟩ := bind_some h
    obtain ⟨v7, hv7, h⟩ := bind_some h
    refine x_frk 13 [(2, .val (.cptr ((eSol false).c v5 ++ (eSol false).f ((b2_5).drop (Int.toNat 0 + 1))))), (4, .call [] [] (.sl false 4 v6.length ((ePl).f v6)) []), (0, .call [] [] (bl v7) [])] (ocons (ix (eSol false) hv5) (ocons (shSl (L := v6) ePl ePl sPl (Tspec_l8Path (Y := Y) t1 (Pl.mk b2_1 b2_2 b2_3 b2_4) _ hv6)) (ocons (hself (v5, v6) _ hv7) onil))) h (by kernel_rfl) (fun h => ?_) (fun h => ?_)
    · obtain ⟨v8, hv8, h⟩ := bind_some h
      obtain ⟨v9, hv9, h⟩ := bind_some h
      obtain ⟨v10, hv10, h⟩ := bind_some h
      obtain ⟨v11, hv11, h⟩ := bind_some h
      replace h := Option.some.inj h; subst h
      exact x_end 13 [(2, .val (.cptr ((eSol false).c v8 ++ (eSol false).f ((b2_5).drop (Int.toNat 1 + 1))))), (4, .call [] [] (.agg [i64 v9.A, i64 v9.B, i64 v9.C, i64 v9.D]) []), (0, .call [] [] (.sl false 4 v10.length ((ePl).f v10)) []), (0, .call [] [] (bl v11) [])] [] (ocons (ix (eSol false) hv8) (ocons (Tspec_l3Flip (Y := Y) (Pl.mk b2_1 b2_2 b2_3 b2_4) _ hv9) (ocons (shSl (L := v10) ePl ePl sPl (Tspec_l8Path (Y := Y) t1 v9 _ hv10)) (ocons (hself (v8, v10) _ hv11) onil)))) onil (by kernel_rfl)
    · replace h := Option.some.inj h; subst h
      exact x_end 13 [] [] onil onil (by kernel_rfl)
def Dspec_l8Look_b (n : Nat) (self : (Sol × (List Pl)) → Option Bool) (a : (Sol × (List Pl))) : Option Bool :=
  match a with
  | (a0, a1) => (Dspec_l8Leaf a0).bind fun v0 => frk v0 (some (a0.pl.A == 0 && (a0.pl.B == 0 && (a0.pl.C == 0 && (a0.pl.D == 0 && true))))) (frk ((a0.kids.length : Int) != 2) (some false) (frk a0.inn (some false) ((Dspec_PlaneOk n a0.pl).bind fun v1 => frk (!v1) (some false) (frk ((a1.length : Int) == 24) (some false) ((Dspec_l6With n a1 a0.pl).bind fun v2 => frk v2 (some false) ((Dspec_l3Flip a0.pl).bind fun v3 => (Dspec_l6With n a1 v3).bind fun v4 => Dspec_l8Look_0 n self a1 v4 a0.inn a0.pl.A a0.pl.B a0.pl.C a0.pl.D a0.kids))))))
def Dspec_l8Look (n : Nat) (a0 : Sol) (a1 : (List Pl)) : Option Bool := loopN (Dspec_l8Look_b n) n (a0, a1)
theorem Tspec_l8Look_b {Y} (n : Nat) : ∀ (m : Nat) (a : (Sol × (List Pl))) (r : Bool), loopN (Dspec_l8Look_b n) m a = some r → ∀ (_ : Unit), Big Tryz.prog H Y (.call 41 [.agg [bl a.1.inn, i64 a.1.pl.A, i64 a.1.pl.B, i64 a.1.pl.C, i64 a.1.pl.D, .sl false 6 a.1.kids.length ((eSol false).f a.1.kids)], .sl false 4 a.2.length ((ePl).f a.2)] (lk []) (bl r) (lk [])) := by
  refine loopN_ind (fun self hs a r h => ?_)
  have hself : ∀ (a : (Sol × (List Pl))) (r : Bool), self a = some r → Big Tryz.prog H Y (.call 41 [.agg [bl a.1.inn, i64 a.1.pl.A, i64 a.1.pl.B, i64 a.1.pl.C, i64 a.1.pl.D, .sl false 6 a.1.kids.length ((eSol false).f a.1.kids)], .sl false 4 a.2.length ((ePl).f a.2)] (lk []) (bl r) (lk [])) := fun a r h => hs a r h ()
  intro _
  obtain ⟨a0, a1⟩ := a
  unfold Dspec_l8Look_b at h
  refine x_call (fn := Tryz.f41) (c := bodyOf Tryz.f41) (bs0 := []) Tryz.func41 (by kernel_rfl) (by kernel_rfl) ?_
  obtain ⟨v0, hv0, h⟩ := bind_some h
  refine x_frk 11 [(3, .call [] [] (bl v0) [])] (ocons (Tspec_l8Leaf (Y := Y) a0 _ hv0) onil) h (by kernel_rfl) (fun h => ?_) (fun h => ?_)
  · replace h := Option.some.inj h; subst h
    exact x_end 8 [] [] onil onil (by kernel_rfl)
  · refine x_frk 9 [] onil h (by kernel_rfl) (fun h => ?_) (fun h => ?_)
    · replace h := Option.some.inj h; subst h
      exact x_end 33 [] [] onil onil (by kernel_rfl)
    · refine x_frk 4 [] onil h (by kernel_rfl) (fun h => ?_) (fun h => ?_)
      · replace h := Option.some.inj h; subst h
        exact x_end 29 [] [] onil onil (by kernel_rfl)
      · obtain ⟨v1, hv1, h⟩ := bind_some h
        refine x_frk 6 [(2, .call [] [] (bl v1) [])] (ocons (Tspec_PlaneOk (Y := Y) n a0.pl _ hv1) onil) h (by kernel_rfl) (fun h => ?_) (fun h => ?_)
        · replace h := Option.some.inj h; subst h
          exact x_end 23 [] [] onil onil (by kernel_rfl)
        · refine x_frk 5 [] onil h (by kernel_rfl) (fun h => ?_) (fun h => ?_)
          · replace h := Option.some.inj h; subst h
            exact x_end 18 [] [] onil onil (by kernel_rfl)
          · obtain ⟨v2, hv2, h⟩ := bind_some h
            refine x_frk 6 [(3, .call [] [] (bl v2) [])] (ocons (Tspec_l6With (Y := Y) n a1 a0.pl _ hv2) onil) h (by kernel_rfl) (fun h => ?_) (fun h => ?_)
            · replace h := Option.some.inj h; subst h
              exact x_end 12 [] [] onil onil (by kernel_rfl)
            · obtain ⟨v3, hv3, h⟩ := bind_some h
              obtain ⟨v4, hv4, h⟩ := bind_some h
              exact x_to 7 [(3, .call [] [] (.agg [i64 v3.A, i64 v3.B, i64 v3.C, i64 v3.D]) []), (0, .call [] [] (bl v4) [])] (ocons (Tspec_l3Flip (Y := Y) a0.pl _ hv3) (ocons (Tspec_l6With (Y := Y) n a1 v3 _ hv4) onil)) (Tspec_l8Look_0 n self hself a1 v4 a0.inn a0.pl.A a0.pl.B a0.pl.C a0.pl.D a0.kids r h) (by kernel_rfl)
theorem Tspec_l8Look {Y} (n : Nat) (a0 : Sol) (a1 : (List Pl)) (r : Bool) (h : Dspec_l8Look n a0 a1 = some r) : Big Tryz.prog H Y (.call 41 [.agg [bl a0.inn, i64 a0.pl.A, i64 a0.pl.B, i64 a0.pl.C, i64 a0.pl.D, .sl false 6 a0.kids.length ((eSol false).f a0.kids)], .sl false 4 a1.length ((ePl).f a1)] (lk []) (bl r) (lk [])) := Tspec_l8Look_b n n (a0, a1) r h ()
/-! spec.SolidOk -/
def Dspec_SolidOk (n : Nat) (a0 : Sol) : Option Bool :=
  (Dspec_l8Count n a0 301).bind fun v0 => frk (decide (v0 ≤ 300)) ((Dspec_l8Look n a0 []).bind fun v1 => some v1) (some false)
theorem Tspec_SolidOk {Y} (n : Nat) (a0 : Sol) (r : Bool) (h : Dspec_SolidOk n a0 = some r) : Big Tryz.prog H Y (.call 10 [.agg [bl a0.inn, i64 a0.pl.A, i64 a0.pl.B, i64 a0.pl.C, i64 a0.pl.D, .sl false 6 a0.kids.length ((eSol false).f a0.kids)]] (lk []) (bl r) (lk [])) := by
  unfold Dspec_SolidOk at h
  refine x_call (fn := Tryz.f10) (c := bodyOf Tryz.f10) (bs0 := []) Tryz.func10 (by kernel_rfl) (by kernel_rfl) ?_
  obtain ⟨v0, hv0, h⟩ := bind_some h
  refine x_frk 11 [(3, .call [] [] (i64 v0) [])] (ocons (Tspec_l8Count (Y := Y) n a0 301 _ hv0) onil) h (by kernel_rfl) (fun h => ?_) (fun h => ?_)
  · obtain ⟨v1, hv1, h⟩ := bind_some h
    replace h := Option.some.inj h; subst h
    exact x_end 6 [(2, .call [] [(ePl).f []] (bl v1) [])] [] (ocons (Tspec_l8Look (Y := Y) n a0 [] _ hv1) (ocons (len_row (L := []) ePl) (ocons (Enc.share ePl ePl sPl []) onil))) onil (by kernel_rfl)
  · replace h := Option.some.inj h; subst h
    exact x_end 6 [] [] onil onil (by kernel_rfl)
/-! spec.PtOk -/
def Dspec_PtOk (a0 : Pt) : Option Bool :=
  (Dspec_l1In a0.X (-1000000) 1000000).bind fun v0 => frk v0 ((Dspec_l1In a0.Y (-1000000) 1000000).bind fun v1 => frk v1 ((Dspec_l1In a0.Z (-1000000) 1000000).bind fun v2 => some v2) (some false)) (some false)
theorem Tspec_PtOk {Y} (a0 : Pt) (r : Bool) (h : Dspec_PtOk a0 = some r) : Big Tryz.prog H Y (.call 11 [.agg [i64 a0.X, i64 a0.Y, i64 a0.Z]] (lk []) (bl r) (lk [])) := by
  unfold Dspec_PtOk at h
  refine x_call (fn := Tryz.f11) (c := bodyOf Tryz.f11) (bs0 := []) Tryz.func11 (by kernel_rfl) (by kernel_rfl) ?_
  obtain ⟨v0, hv0, h⟩ := bind_some h
  refine x_frk 11 [(4, .call [] [] (bl v0) [])] (ocons (Tspec_l1In (Y := Y) a0.X (-1000000) 1000000 _ hv0) onil) h (by kernel_rfl) (fun h => ?_) (fun h => ?_)
  · obtain ⟨v1, hv1, h⟩ := bind_some h
    refine x_frk 5 [(2, .call [] [] (bl v1) [])] (ocons (Tspec_l1In (Y := Y) a0.Y (-1000000) 1000000 _ hv1) onil) h (by kernel_rfl) (fun h => ?_) (fun h => ?_)
    · obtain ⟨v2, hv2, h⟩ := bind_some h
      replace h := Option.some.inj h; subst h
      exact x_end 6 [(2, .call [] [] (bl v2) [])] [] (ocons (Tspec_l1In (Y := Y) a0.Z (-1000000) 1000000 _ hv2) onil) onil (by kernel_rfl)
    · replace h := Option.some.inj h; subst h
      exact x_end 6 [] [] onil onil (by kernel_rfl)
  · replace h := Option.some.inj h; subst h
    exact x_end 11 [] [] onil onil (by kernel_rfl)
/-! spec.l17Way -/
def Dspec_l17Way (a0 a1 : Int) : Option Bool :=
  frk (decide (a0 ≤ a1)) (some (decide ((w64 (a1 - a0)) < 16))) (some false)
theorem Tspec_l17Way {Y} (a0 a1 : Int) (r : Bool) (h : Dspec_l17Way a0 a1 = some r) : Big Tryz.prog H Y (.call 38 [i64 a0, i64 a1] (lk []) (bl r) (lk [])) := by
  unfold Dspec_l17Way at h
  refine x_call (fn := Tryz.f38) (c := bodyOf Tryz.f38) (bs0 := []) Tryz.func38 (by kernel_rfl) (by kernel_rfl) ?_
  refine x_frk 10 [] onil h (by kernel_rfl) (fun h => ?_) (fun h => ?_)
  · replace h := Option.some.inj h; subst h
    exact x_end 7 [] [] onil onil (by kernel_rfl)
  · replace h := Option.some.inj h; subst h
    exact x_end 7 [] [] onil onil (by kernel_rfl)
/-! spec.l5Spot -/
def Dspec_l5Spot_0 (_n : Nat) (t0 t1 t2 t3 t9 _b8_0 _b8_1 _b8_2 _b8_3 : Int) : Option Spot :=
  (qt .i64 t0 t9).bind fun v3 => (qt .i64 t1 t9).bind fun v4 => (qt .i64 t2 t9).bind fun v5 => (qt .i64 t3 t9).bind fun v6 => some (Spot.mk v3 v4 v5 v6)
theorem Tspec_l5Spot_0 {Y} (n : Nat) (t0 t1 t2 t3 t9 b8_0 b8_1 b8_2 b8_3 : Int) (r : Spot) (h : Dspec_l5Spot_0 n t0 t1 t2 t3 t9 b8_0 b8_1 b8_2 b8_3 = some r) : Wk Tryz.prog H Y 86 [.code (cp [1, 1, 1, 0] (bodyOf Tryz.f86)), .code (cp [1, 1, 1, 1] (bodyOf Tryz.f86))] (FinX Tryz.prog Tryz.f86 [] (.agg [i64 r.X, i64 r.Y, i64 r.Z, i64 r.W]) []) ⟨[(0, i64 t0), (1, i64 t1), (2, i64 t2), (3, i64 t3), (8, .ptr 8 0), (9, i64 t9)], [(8, ⟨true, 0, [i64 b8_0, i64 b8_1, i64 b8_2, i64 b8_3]⟩)]⟩ := by
  unfold Dspec_l5Spot_0 at h
  obtain ⟨v3, hv3, h⟩ := bind_some h
  obtain ⟨v4, hv4, h⟩ := bind_some h
  obtain ⟨v5, hv5, h⟩ := bind_some h
  obtain ⟨v6, hv6, h⟩ := bind_some h
  replace h := Option.some.inj h; subst h
  exact x_end 16 [(2, .val (i64 v3)), (2, .val (i64 v4)), (2, .val (i64 v5)), (2, .val (i64 v6))] [] (ocons (qtOk hv3) (ocons (qtOk hv4) (ocons (qtOk hv5) (ocons (qtOk hv6) onil)))) onil (by kernel_rfl)
def Dspec_l5Spot (n : Nat) (a0 a1 a2 a3 : Int) : Option Spot :=
  (Dspec_l3Gcd n a0 a1).bind fun v0 => (Dspec_l3Gcd n a2 a3).bind fun v1 => (Dspec_l3Gcd n v0 v1).bind fun v2 => frk (decide (a3 < 0)) (Dspec_l5Spot_0 n a0 a1 a2 a3 (w64 (0 - v2)) 0 0 0 0) (Dspec_l5Spot_0 n a0 a1 a2 a3 v2 0 0 0 0)
theorem Tspec_l5Spot {Y} (n : Nat) (a0 a1 a2 a3 : Int) (r : Spot) (h : Dspec_l5Spot n a0 a1 a2 a3 = some r) : Big Tryz.prog H Y (.call 86 [i64 a0, i64 a1, i64 a2, i64 a3] (lk []) (.agg [i64 r.X, i64 r.Y, i64 r.Z, i64 r.W]) (lk [])) := by
  unfold Dspec_l5Spot at h
  refine x_call (fn := Tryz.f86) (c := bodyOf Tryz.f86) (bs0 := []) Tryz.func86 (by kernel_rfl) (by kernel_rfl) ?_
  obtain ⟨v0, hv0, h⟩ := bind_some h
  obtain ⟨v1, hv1, h⟩ := bind_some h
  obtain ⟨v2, hv2, h⟩ := bind_some h
  refine x_frk 21 [(3, .call [] [] (i64 v0) []), (2, .call [] [] (i64 v1) []), (0, .call [] [] (i64 v2) [])] (ocons (Tspec_l3Gcd (Y := Y) n a0 a1 _ hv0) (ocons (Tspec_l3Gcd (Y := Y) n a2 a3 _ hv1) (ocons (Tspec_l3Gcd (Y := Y) n v0 v1 _ hv2) onil))) h (by kernel_rfl) (fun h => ?_) (fun h => ?_)
  · exact x_to 6 [] onil (Tspec_l5Spot_0 n a0 a1 a2 a3 (w64 (0 - v2)) 0 0 0 0 r h) (by kernel_rfl)
  · exact x_to 2 [] onil (Tspec_l5Spot_0 n a0 a1 a2 a3 v2 0 0 0 0 r h) (by kernel_rfl)
/-! spec.l5Side -/
def Dspec_l5Side (a0 : Pl) (a1 : Spot) : Option Int :=
  (Dspec_l3Sign (w64 ((w64 ((w64 ((w64 (a0.A * a1.X)) + (w64 (a0.B * a1.Y)))) + (w64 (a0.C * a1.Z)))) + (w64 (a0.D * a1.W))))).bind fun v0 => some v0
theorem Tspec_l5Side {Y} (a0 : Pl) (a1 : Spot) (r : Int) (h : Dspec_l5Side a0 a1 = some r) : Big Tryz.prog H Y (.call 131 [.agg [i64 a0.A, i64 a0.B, i64 a0.C, i64 a0.D], .agg [i64 a1.X, i64 a1.Y, i64 a1.Z, i64 a1.W]] (lk []) (i64 r) (lk [])) := by
  unfold Dspec_l5Side at h
  refine x_call (fn := Tryz.f131) (c := bodyOf Tryz.f131) (bs0 := []) Tryz.func131 (by kernel_rfl) (by kernel_rfl) ?_
  obtain ⟨v0, hv0, h⟩ := bind_some h
  replace h := Option.some.inj h; subst h
  exact x_end 34 [(26, .call [] [] (i64 v0) [])] [] (ocons (Tspec_l3Sign (Y := Y) (w64 ((w64 ((w64 ((w64 (a0.A * a1.X)) + (w64 (a0.B * a1.Y)))) + (w64 (a0.C * a1.Z)))) + (w64 (a0.D * a1.W)))) _ hv0) onil) onil (by kernel_rfl)
/-! spec.l10Around -/
def Dspec_l10Around_0 (_n : Nat) (self : (Sol × Spot) → Option (Int × Int)) (t7 t8 : Int) (t31 _b2_0 : Bool) (_b2_1 _b2_2 _b2_3 _b2_4 : Int) (b2_5 : List Sol) (b3_0 b3_1 b3_2 b3_3 : Int) : Option (Int × Int) :=
  frk t31 ((lget b2_5 1).bind fun v4 => (self (v4, (Spot.mk b3_0 b3_1 b3_2 b3_3))).bind fun v5 => some (w64 (t7 + v5.1), w64 (t8 + v5.2))) (some (t7, t8))
theorem Tspec_l10Around_0 {Y} (n : Nat) (self : (Sol × Spot) → Option (Int × Int)) (hself : ∀ (a : (Sol × Spot)) (r : (Int × Int)), self a = some r → Big Tryz.prog H Y (.call 85 [.agg [bl a.1.inn, i64 a.1.pl.A, i64 a.1.pl.B, i64 a.1.pl.C, i64 a.1.pl.D, .sl false 6 a.1.kids.length ((eSol false).f a.1.kids)], .agg [i64 a.2.X, i64 a.2.Y, i64 a.2.Z, i64 a.2.W]] (lk []) (.tup [i64 r.1, i64 r.2]) (lk []))) (t7 t8 : Int) (t31 b2_0 : Bool) (b2_1 b2_2 b2_3 b2_4 : Int) (b2_5 : List Sol) (b3_0 b3_1 b3_2 b3_3 : Int) (r : (Int × Int)) (h : Dspec_l10Around_0 n self t7 t8 t31 b2_0 b2_1 b2_2 b2_3 b2_4 b2_5 b3_0 b3_1 b3_2 b3_3 = some r) : Wk Tryz.prog H Y 85 [.code (cp [1, 1, 1, 1, 1, 1, 0, 1] (bodyOf Tryz.f85)), .code (cp [1, 1, 1, 1, 1, 1, 1] (bodyOf Tryz.f85))] (FinX Tryz.prog Tryz.f85 [] (.tup [i64 r.1, i64 r.2]) []) ⟨[(2, .ptr 2 0), (3, .ptr 3 0), (7, i64 t7), (8, i64 t8), (31, bl t31)], [(2, ⟨true, 0, [bl b2_0, i64 b2_1, i64 b2_2, i64 b2_3, i64 b2_4, .sl false 6 b2_5.length ((eSol false).f b2_5)]⟩), (3, ⟨true, 0, [i64 b3_0, i64 b3_1, i64 b3_2, i64 b3_3]⟩)]⟩ := by
  unfold Dspec_l10Around_0 at h
  refine x_frk 0 [] onil h (by kernel_rfl) (fun h => ?_) (fun h => ?_)
  · obtain ⟨v4, hv4, h⟩ := bind_some h
    obtain ⟨v5, hv5, h⟩ := bind_some h
    replace h := Option.some.inj h; subst h
    exact x_end 34 [(2, .val (.cptr ((eSol false).c v4 ++ (eSol false).f ((b2_5).drop (Int.toNat 1 + 1))))), (2, .call [] [] (.tup [i64 v5.1, i64 v5.2]) [])] [] (ocons (ix (eSol false) hv4) (ocons (hself (v4, (Spot.mk b3_0 b3_1 b3_2 b3_3)) _ hv5) onil)) onil (by kernel_rfl)
  · replace h := Option.some.inj h; subst h
    exact x_end 8 [] [] onil onil (by kernel_rfl)
def Dspec_l10Around_b (n : Nat) (self : (Sol × Spot) → Option (Int × Int)) (a : (Sol × Spot)) : Option (Int × Int) :=
  match a with
  | (a0, a1) => (Dspec_l8Leaf a0).bind fun v0 => frk v0 (frk a0.inn (some (1, 0)) (some (0, 1))) ((Dspec_l5Side a0.pl a1).bind fun v1 => frk (decide (v1 ≥ 0)) ((lget a0.kids 0).bind fun v2 => (self (v2, a1)).bind fun v3 => Dspec_l10Around_0 n self v3.1 v3.2 (decide (v1 ≤ 0)) a0.inn a0.pl.A a0.pl.B a0.pl.C a0.pl.D a0.kids a1.X a1.Y a1.Z a1.W) (Dspec_l10Around_0 n self 0 0 (decide (v1 ≤ 0)) a0.inn a0.pl.A a0.pl.B a0.pl.C a0.pl.D a0.kids a1.X a1.Y a1.Z a1.W))
def Dspec_l10Around (n : Nat) (a0 : Sol) (a1 : Spot) : Option (Int × Int) := loopN (Dspec_l10Around_b n) n (a0, a1)
theorem Tspec_l10Around_b {Y} (n : Nat) : ∀ (m : Nat) (a : (Sol × Spot)) (r : (Int × Int)), loopN (Dspec_l10Around_b n) m a = some r → ∀ (_ : Unit), Big Tryz.prog H Y (.call 85 [.agg [bl a.1.inn, i64 a.1.pl.A, i64 a.1.pl.B, i64 a.1.pl.C, i64 a.1.pl.D, .sl false 6 a.1.kids.length ((eSol false).f a.1.kids)], .agg [i64 a.2.X, i64 a.2.Y, i64 a.2.Z, i64 a.2.W]] (lk []) (.tup [i64 r.1, i64 r.2]) (lk [])) := by
  refine loopN_ind (fun self hs a r h => ?_)
  have hself : ∀ (a : (Sol × Spot)) (r : (Int × Int)), self a = some r → Big Tryz.prog H Y (.call 85 [.agg [bl a.1.inn, i64 a.1.pl.A, i64 a.1.pl.B, i64 a.1.pl.C, i64 a.1.pl.D, .sl false 6 a.1.kids.length ((eSol false).f a.1.kids)], .agg [i64 a.2.X, i64 a.2.Y, i64 a.2.Z, i64 a.2.W]] (lk []) (.tup [i64 r.1, i64 r.2]) (lk [])) := fun a r h => hs a r h ()
  intro _
  obtain ⟨a0, a1⟩ := a
  unfold Dspec_l10Around_b at h
  refine x_call (fn := Tryz.f85) (c := bodyOf Tryz.f85) (bs0 := []) Tryz.func85 (by kernel_rfl) (by kernel_rfl) ?_
  obtain ⟨v0, hv0, h⟩ := bind_some h
  refine x_frk 13 [(5, .call [] [] (bl v0) [])] (ocons (Tspec_l8Leaf (Y := Y) a0 _ hv0) onil) h (by kernel_rfl) (fun h => ?_) (fun h => ?_)
  · refine x_frk 6 [] onil h (by kernel_rfl) (fun h => ?_) (fun h => ?_)
    · replace h := Option.some.inj h; subst h
      exact x_end 5 [] [] onil onil (by kernel_rfl)
    · replace h := Option.some.inj h; subst h
      exact x_end 6 [] [] onil onil (by kernel_rfl)
  · obtain ⟨v1, hv1, h⟩ := bind_some h
    refine x_frk 23 [(3, .call [] [] (i64 v1) [])] (ocons (Tspec_l5Side (Y := Y) a0.pl a1 _ hv1) onil) h (by kernel_rfl) (fun h => ?_) (fun h => ?_)
    · obtain ⟨v2, hv2, h⟩ := bind_some h
      obtain ⟨v3, hv3, h⟩ := bind_some h
      exact x_to 19 [(2, .val (.cptr ((eSol false).c v2 ++ (eSol false).f ((a0.kids).drop (Int.toNat 0 + 1))))), (2, .call [] [] (.tup [i64 v3.1, i64 v3.2]) [])] (ocons (ix (eSol false) hv2) (ocons (hself (v2, a1) _ hv3) onil)) (Tspec_l10Around_0 n self hself v3.1 v3.2 (decide (v1 ≤ 0)) a0.inn a0.pl.A a0.pl.B a0.pl.C a0.pl.D a0.kids a1.X a1.Y a1.Z a1.W r h) (by kernel_rfl)
    · exact x_to 7 [] onil (Tspec_l10Around_0 n self hself 0 0 (decide (v1 ≤ 0)) a0.inn a0.pl.A a0.pl.B a0.pl.C a0.pl.D a0.kids a1.X a1.Y a1.Z a1.W r h) (by kernel_rfl)
theorem Tspec_l10Around {Y} (n : Nat) (a0 : Sol) (a1 : Spot) (r : (Int × Int)) (h : Dspec_l10Around n a0 a1 = some r) : Big Tryz.prog H Y (.call 85 [.agg [bl a0.inn, i64 a0.pl.A, i64 a0.pl.B, i64 a0.pl.C, i64 a0.pl.D, .sl false 6 a0.kids.length ((eSol false).f a0.kids)], .agg [i64 a1.X, i64 a1.Y, i64 a1.Z, i64 a1.W]] (lk []) (.tup [i64 r.1, i64 r.2]) (lk [])) := Tspec_l10Around_b n n (a0, a1) r h ()
/-! spec.l10Where -/
def Dspec_l10Where (a0 a1 : Int) : Option Int :=
  frk (a0 == 0) (some (-1)) (frk (a1 == 0) (some 1) (some 0))
theorem Tspec_l10Where {Y} (a0 a1 r : Int) (h : Dspec_l10Where a0 a1 = some r) : Big Tryz.prog H Y (.call 87 [i64 a0, i64 a1] (lk []) (i64 r) (lk [])) := by
  unfold Dspec_l10Where at h
  refine x_call (fn := Tryz.f87) (c := bodyOf Tryz.f87) (bs0 := []) Tryz.func87 (by kernel_rfl) (by kernel_rfl) ?_
  refine x_frk 12 [] onil h (by kernel_rfl) (fun h => ?_) (fun h => ?_)
  · replace h := Option.some.inj h; subst h
    exact x_end 4 [] [] onil onil (by kernel_rfl)
  · refine x_frk 6 [] onil h (by kernel_rfl) (fun h => ?_) (fun h => ?_)
    · replace h := Option.some.inj h; subst h
      exact x_end 4 [] [] onil onil (by kernel_rfl)
    · replace h := Option.some.inj h; subst h
      exact x_end 6 [] [] onil onil (by kernel_rfl)
/-! spec.l17At -/
def Dspec_l17At (n : Nat) (a0 : Sol) (a1 a2 a3 : Int) : Option Int :=
  (Dspec_l5Spot n a1 a2 a3 1).bind fun v0 => (Dspec_l10Around n a0 v0).bind fun v1 => (Dspec_l10Where v1.1 v1.2).bind fun v2 => some v2
theorem Tspec_l17At {Y} (n : Nat) (a0 : Sol) (a1 a2 a3 r : Int) (h : Dspec_l17At n a0 a1 a2 a3 = some r) : Big Tryz.prog H Y (.call 39 [.agg [bl a0.inn, i64 a0.pl.A, i64 a0.pl.B, i64 a0.pl.C, i64 a0.pl.D, .sl false 6 a0.kids.length ((eSol false).f a0.kids)], i64 a1, i64 a2, i64 a3] (lk []) (i64 r) (lk [])) := by
  unfold Dspec_l17At at h
  refine x_call (fn := Tryz.f39) (c := bodyOf Tryz.f39) (bs0 := []) Tryz.func39 (by kernel_rfl) (by kernel_rfl) ?_
  obtain ⟨v0, hv0, h⟩ := bind_some h
  obtain ⟨v1, hv1, h⟩ := bind_some h
  obtain ⟨v2, hv2, h⟩ := bind_some h
  replace h := Option.some.inj h; subst h
  exact x_end 26 [(6, .call [] [] (.agg [i64 v0.X, i64 v0.Y, i64 v0.Z, i64 v0.W]) []), (0, .call [] [] (.tup [i64 v1.1, i64 v1.2]) []), (7, .call [] [] (i64 v2) [])] [] (ocons (Tspec_l5Spot (Y := Y) n a1 a2 a3 1 _ hv0) (ocons (Tspec_l10Around (Y := Y) n a0 v0 _ hv1) (ocons (Tspec_l10Where (Y := Y) v1.1 v1.2 _ hv2) onil))) onil (by kernel_rfl)
/-! spec.CountIn -/
def Dspec_CountIn_1 (n : Nat) (rec1 : (Int × Int × Int × Int) → Option (Int × Int)) (_rec0 : (Int × Int × Int × Int × Int) → Option (Int × Int)) (t10 _b4_1 : Int) (b3_0 : Bool) (b3_1 b3_2 b3_3 b3_4 : Int) (b3_5 : List Sol) (_b4_0 _b5_0 _b5_1 b5_2 t11 b4_2 : Int) (rec2 : (Int × Int × Int) → Option (Int × Int)) (a : (Int × Int × Int)) : Option (Int × Int) :=
  match a with
  | (t8, t9, t12) => frk (decide (t12 ≤ b5_2)) ((Dspec_l17At n (Sol.mk b3_0 (Pl.mk b3_1 b3_2 b3_3 b3_4) b3_5) t10 t11 t12).bind fun v6 => frk (v6 == 1) (rec2 (w64 (t8 + 1), t9, w64 (t12 + 1))) (frk (v6 == 0) (rec2 (t8, w64 (t9 + 1), w64 (t12 + 1))) (rec2 (t8, t9, w64 (t12 + 1))))) (rec1 (t8, t9, w64 (t11 + 1), b4_2))
theorem Tspec_CountIn_1 {Y} (n : Nat) (rec1 : (Int × Int × Int × Int) → Option (Int × Int)) (rec0 : (Int × Int × Int × Int × Int) → Option (Int × Int)) (t10 b4_1 : Int) (b3_0 : Bool) (b3_1 b3_2 b3_3 b3_4 : Int) (b3_5 : List Sol) (b4_0 b5_0 b5_1 b5_2 : Int) (hrec1 : ∀ (a : (Int × Int × Int × Int)) (r : (Int × Int)), rec1 a = some r → Wk Tryz.prog H Y 9 [.code (cp [1, 1, 1, 1, 0, 1, 0, 0, 1, 0, 0, 1, 0] (bodyOf Tryz.f9)), .blk 2, .blk 1, .code (cp [1, 1, 1, 1, 0, 1, 0, 0, 1, 1] (bodyOf Tryz.f9)), .lp (cp [1, 1, 1, 1, 0, 1, 0] (bodyOf Tryz.f9)), .blk 0, .code (cp [1, 1, 1, 1, 1] (bodyOf Tryz.f9))] (FinX Tryz.prog Tryz.f9 [] (.tup [i64 r.1, i64 r.2]) []) ⟨[(3, .ptr 3 0), (4, .ptr 4 0), (5, .ptr 5 0), (8, i64 a.1), (9, i64 a.2.1), (10, i64 t10), (11, i64 a.2.2.1)], [(3, ⟨true, 0, [bl b3_0, i64 b3_1, i64 b3_2, i64 b3_3, i64 b3_4, .sl false 6 b3_5.length ((eSol false).f b3_5)]⟩), (4, ⟨true, 0, [i64 b4_0, i64 b4_1, i64 a.2.2.2]⟩), (5, ⟨true, 0, [i64 b5_0, i64 b5_1, i64 b5_2]⟩)]⟩) (_hrec0 : ∀ (a : (Int × Int × Int × Int × Int)) (r : (Int × Int)), rec0 a = some r → Wk Tryz.prog H Y 9 [.code (cp [1, 1, 1, 1, 0, 1, 0] (bodyOf Tryz.f9)), .blk 0, .code (cp [1, 1, 1, 1, 1] (bodyOf Tryz.f9))] (FinX Tryz.prog Tryz.f9 [] (.tup [i64 r.1, i64 r.2]) []) ⟨[(3, .ptr 3 0), (4, .ptr 4 0), (5, .ptr 5 0), (8, i64 a.1), (9, i64 a.2.1), (10, i64 a.2.2.1)], [(3, ⟨true, 0, [bl b3_0, i64 b3_1, i64 b3_2, i64 b3_3, i64 b3_4, .sl false 6 b3_5.length ((eSol false).f b3_5)]⟩), (4, ⟨true, 0, [i64 b4_0, i64 a.2.2.2.1, i64 a.2.2.2.2]⟩), (5, ⟨true, 0, [i64 b5_0, i64 b5_1, i64 b5_2]⟩)]⟩) (t11 b4_2 : Int) : ∀ (m : Nat) (a : (Int × Int × Int)) (r : (Int × Int)), loopN (Dspec_CountIn_1 n rec1 rec0 t10 b4_1 b3_0 b3_1 b3_2 b3_3 b3_4 b3_5 b4_0 b5_0 b5_1 b5_2 t11 b4_2) m a = some r → Wk Tryz.prog H Y 9 [.code (cp [1, 1, 1, 1, 0, 1, 0, 0, 1, 0, 0, 1, 0, 0, 1, 0, 0, 1, 0] (bodyOf Tryz.f9)), .blk 4, .blk 3, .code (cp [1, 1, 1, 1, 0, 1, 0, 0, 1, 0, 0, 1, 0, 0, 1, 1] (bodyOf Tryz.f9)), .lp (cp [1, 1, 1, 1, 0, 1, 0, 0, 1, 0, 0, 1, 0] (bodyOf Tryz.f9)), .blk 2, .blk 1, .code (cp [1, 1, 1, 1, 0, 1, 0, 0, 1, 1] (bodyOf Tryz.f9)), .lp (cp [1, 1, 1, 1, 0, 1, 0] (bodyOf Tryz.f9)), .blk 0, .code (cp [1, 1, 1, 1, 1] (bodyOf Tryz.f9))] (FinX Tryz.prog Tryz.f9 [] (.tup [i64 r.1, i64 r.2]) []) ⟨[(3, .ptr 3 0), (4, .ptr 4 0), (5, .ptr 5 0), (8, i64 a.1), (9, i64 a.2.1), (10, i64 t10), (11, i64 t11), (12, i64 a.2.2)], [(3, ⟨true, 0, [bl b3_0, i64 b3_1, i64 b3_2, i64 b3_3, i64 b3_4, .sl false 6 b3_5.length ((eSol false).f b3_5)]⟩), (4, ⟨true, 0, [i64 b4_0, i64 b4_1, i64 b4_2]⟩), (5, ⟨true, 0, [i64 b5_0, i64 b5_1, i64 b5_2]⟩)]⟩ := by
  refine loopN_ind (fun _rec2 hrec2 a r h => ?_)
  obtain ⟨t8, t9, t12⟩ := a
  unfold Dspec_CountIn_1 at h
  refine x_frk 9 [] onil h (by kernel_rfl) (fun h => ?_) (fun h => ?_)
  · obtain ⟨v6, hv6, h⟩ := bind_some h
    refine x_frk 17 [(4, .call [] [] (i64 v6) [])] (ocons (Tspec_l17At (Y := Y) n (Sol.mk b3_0 (Pl.mk b3_1 b3_2 b3_3 b3_4) b3_5) t10 t11 t12 _ hv6) onil) h (by kernel_rfl) (fun h => ?_) (fun h => ?_)
    · exact x_to 13 [] onil (hrec2 (w64 (t8 + 1), t9, w64 (t12 + 1)) r h) (by kernel_rfl)
    · refine x_frk 5 [] onil h (by kernel_rfl) (fun h => ?_) (fun h => ?_)
      · exact x_to 13 [] onil (hrec2 (t8, w64 (t9 + 1), w64 (t12 + 1)) r h) (by kernel_rfl)
      · exact x_to 9 [] onil (hrec2 (t8, t9, w64 (t12 + 1)) r h) (by kernel_rfl)
  · exact x_to 8 [] onil (hrec1 (t8, t9, w64 (t11 + 1), b4_2) r h) (by kernel_rfl)
def Dspec_CountIn_2 (n : Nat) (rec0 : (Int × Int × Int × Int × Int) → Option (Int × Int)) (b3_0 : Bool) (b3_1 b3_2 b3_3 b3_4 : Int) (b3_5 : List Sol) (b4_0 b5_0 b5_1 b5_2 t10 b4_1 : Int) (rec1 : (Int × Int × Int × Int) → Option (Int × Int)) (a : (Int × Int × Int × Int)) : Option (Int × Int) :=
  match a with
  | (t8, t9, t11, b4_2) => frk (decide (t11 ≤ b5_1)) (loopN (Dspec_CountIn_1 n rec1 rec0 t10 b4_1 b3_0 b3_1 b3_2 b3_3 b3_4 b3_5 b4_0 b5_0 b5_1 b5_2 t11 b4_2) n (t8, t9, b4_2)) (rec0 (t8, t9, w64 (t10 + 1), b4_1, b4_2))
theorem Tspec_CountIn_2 {Y} (n : Nat) (rec0 : (Int × Int × Int × Int × Int) → Option (Int × Int)) (b3_0 : Bool) (b3_1 b3_2 b3_3 b3_4 : Int) (b3_5 : List Sol) (b4_0 b5_0 b5_1 b5_2 : Int) (hrec0 : ∀ (a : (Int × Int × Int × Int × Int)) (r : (Int × Int)), rec0 a = some r → Wk Tryz.prog H Y 9 [.code (cp [1, 1, 1, 1, 0, 1, 0] (bodyOf Tryz.f9)), .blk 0, .code (cp [1, 1, 1, 1, 1] (bodyOf Tryz.f9))] (FinX Tryz.prog Tryz.f9 [] (.tup [i64 r.1, i64 r.2]) []) ⟨[(3, .ptr 3 0), (4, .ptr 4 0), (5, .ptr 5 0), (8, i64 a.1), (9, i64 a.2.1), (10, i64 a.2.2.1)], [(3, ⟨true, 0, [bl b3_0, i64 b3_1, i64 b3_2, i64 b3_3, i64 b3_4, .sl false 6 b3_5.length ((eSol false).f b3_5)]⟩), (4, ⟨true, 0, [i64 b4_0, i64 a.2.2.2.1, i64 a.2.2.2.2]⟩), (5, ⟨true, 0, [i64 b5_0, i64 b5_1, i64 b5_2]⟩)]⟩) (t10 b4_1 : Int) : ∀ (m : Nat) (a : (Int × Int × Int × Int)) (r : (Int × Int)), loopN (Dspec_CountIn_2 n rec0 b3_0 b3_1 b3_2 b3_3 b3_4 b3_5 b4_0 b5_0 b5_1 b5_2 t10 b4_1) m a = some r → Wk Tryz.prog H Y 9 [.code (cp [1, 1, 1, 1, 0, 1, 0, 0, 1, 0, 0, 1, 0] (bodyOf Tryz.f9)), .blk 2, .blk 1, .code (cp [1, 1, 1, 1, 0, 1, 0, 0, 1, 1] (bodyOf Tryz.f9)), .lp (cp [1, 1, 1, 1, 0, 1, 0] (bodyOf Tryz.f9)), .blk 0, .code (cp [1, 1, 1, 1, 1] (bodyOf Tryz.f9))] (FinX Tryz.prog Tryz.f9 [] (.tup [i64 r.1, i64 r.2]) []) ⟨[(3, .ptr 3 0), (4, .ptr 4 0), (5, .ptr 5 0), (8, i64 a.1), (9, i64 a.2.1), (10, i64 t10), (11, i64 a.2.2.1)], [(3, ⟨true, 0, [bl b3_0, i64 b3_1, i64 b3_2, i64 b3_3, i64 b3_4, .sl false 6 b3_5.length ((eSol false).f b3_5)]⟩), (4, ⟨true, 0, [i64 b4_0, i64 b4_1, i64 a.2.2.2]⟩), (5, ⟨true, 0, [i64 b5_0, i64 b5_1, i64 b5_2]⟩)]⟩ := by
  refine loopN_ind (fun rec1 hrec1 a r h => ?_)
  obtain ⟨t8, t9, t11, b4_2⟩ := a
  unfold Dspec_CountIn_2 at h
  refine x_frk 9 [] onil h (by kernel_rfl) (fun h => ?_) (fun h => ?_)
  · exact x_to 10 [] onil (Tspec_CountIn_1 n rec1 rec0 t10 b4_1 b3_0 b3_1 b3_2 b3_3 b3_4 b3_5 b4_0 b5_0 b5_1 b5_2 hrec1 hrec0 t11 b4_2 n (t8, t9, b4_2) r h) (by kernel_rfl)
  · exact x_to 8 [] onil (hrec0 (t8, t9, w64 (t10 + 1), b4_1, b4_2) r h) (by kernel_rfl)
def Dspec_CountIn_3 (n : Nat) (b3_0 : Bool) (b3_1 b3_2 b3_3 b3_4 : Int) (b3_5 : List Sol) (b4_0 b5_0 b5_1 b5_2 : Int) (rec0 : (Int × Int × Int × Int × Int) → Option (Int × Int)) (a : (Int × Int × Int × Int × Int)) : Option (Int × Int) :=
  match a with
  | (t8, t9, t10, b4_1, b4_2) => frk (decide (t10 ≤ b5_0)) (loopN (Dspec_CountIn_2 n rec0 b3_0 b3_1 b3_2 b3_3 b3_4 b3_5 b4_0 b5_0 b5_1 b5_2 t10 b4_1) n (t8, t9, b4_1, b4_2)) (some (t8, t9))
theorem Tspec_CountIn_3 {Y} (n : Nat) (b3_0 : Bool) (b3_1 b3_2 b3_3 b3_4 : Int) (b3_5 : List Sol) (b4_0 b5_0 b5_1 b5_2 : Int) : ∀ (m : Nat) (a : (Int × Int × Int × Int × Int)) (r : (Int × Int)), loopN (Dspec_CountIn_3 n b3_0 b3_1 b3_2 b3_3 b3_4 b3_5 b4_0 b5_0 b5_1 b5_2) m a = some r → Wk Tryz.prog H Y 9 [.code (cp [1, 1, 1, 1, 0, 1, 0] (bodyOf Tryz.f9)), .blk 0, .code (cp [1, 1, 1, 1, 1] (bodyOf Tryz.f9))] (FinX Tryz.prog Tryz.f9 [] (.tup [i64 r.1, i64 r.2]) []) ⟨[(3, .ptr 3 0), (4, .ptr 4 0), (5, .ptr 5 0), (8, i64 a.1), (9, i64 a.2.1), (10, i64 a.2.2.1)], [(3, ⟨true, 0, [bl b3_0, i64 b3_1, i64 b3_2, i64 b3_3, i64 b3_4, .sl false 6 b3_5.length ((eSol false).f b3_5)]⟩), (4, ⟨true, 0, [i64 b4_0, i64 a.2.2.2.1, i64 a.2.2.2.2]⟩), (5, ⟨true, 0, [i64 b5_0, i64 b5_1, i64 b5_2]⟩)]⟩ := by
  refine loopN_ind (fun rec0 hrec0 a r h => ?_)
  obtain ⟨t8, t9, t10, b4_1, b4_2⟩ := a
  unfold Dspec_CountIn_3 at h
  refine x_frk 9 [] onil h (by kernel_rfl) (fun h => ?_) (fun h => ?_)
  · exact x_to 10 [] onil (Tspec_CountIn_2 n rec0 b3_0 b3_1 b3_2 b3_3 b3_4 b3_5 b4_0 b5_0 b5_1 b5_2 hrec0 t10 b4_1 n (t8, t9, b4_1, b4_2) r h) (by kernel_rfl)
  · replace h := Option.some.inj h; subst h
    exact x_end 8 [] [] onil onil (by kernel_rfl)
def Dspec_CountIn_0 (n : Nat) (t49 b3_0 : Bool) (b3_1 b3_2 b3_3 b3_4 : Int) (b3_5 : List Sol) (b4_0 b4_1 b4_2 b5_0 b5_1 b5_2 : Int) : Option (Int × Int) :=
  frk t49 (some (0, 0)) (loopN (Dspec_CountIn_3 n b3_0 b3_1 b3_2 b3_3 b3_4 b3_5 b4_0 b5_0 b5_1 b5_2) n (0, 0, b4_0, b4_1, b4_2))
theorem Tspec_CountIn_0 {Y} (n : Nat) (t49 b3_0 : Bool) (b3_1 b3_2 b3_3 b3_4 : Int) (b3_5 : List Sol) (b4_0 b4_1 b4_2 b5_0 b5_1 b5_2 : Int) (r : (Int × Int)) (h : Dspec_CountIn_0 n t49 b3_0 b3_1 b3_2 b3_3 b3_4 b3_5 b4_0 b4_1 b4_2 b5_0 b5_1 b5_2 = some r) : Wk Tryz.prog H Y 9 [.code (cp [1, 0, 1] (bodyOf Tryz.f9)), .code (cp [1, 1] (bodyOf Tryz.f9))] (FinX Tryz.prog Tryz.f9 [] (.tup [i64 r.1, i64 r.2]) []) ⟨[(3, .ptr 3 0), (4, .ptr 4 0), (5, .ptr 5 0), (49, bl t49)], [(3, ⟨true, 0, [bl b3_0, i64 b3_1, i64 b3_2, i64 b3_3, i64 b3_4, .sl false 6 b3_5.length ((eSol false).f b3_5)]⟩), (4, ⟨true, 0, [i64 b4_0, i64 b4_1, i64 b4_2]⟩), (5, ⟨true, 0, [i64 b5_0, i64 b5_1, i64 b5_2]⟩)]⟩ := by
  unfold Dspec_CountIn_0 at h
  refine x_frk 0 [] onil h (by kernel_rfl) (fun h => ?_) (fun h => ?_)
  · replace h := Option.some.inj h; subst h
    exact x_end 5 [] [] onil onil (by kernel_rfl)
  · exact x_to 17 [] onil (Tspec_CountIn_3 n b3_0 b3_1 b3_2 b3_3 b3_4 b3_5 b4_0 b5_0 b5_1 b5_2 n (0, 0, b4_0, b4_1, b4_2) r h) (by kernel_rfl)
def Dspec_CountIn (n : Nat) (a0 : Sol) (a1 : Pt) (a2 : Pt) : Option (Int × Int) :=
  (Dspec_SolidOk n a0).bind fun v0 => frk (!v0) (some (0, 0)) ((Dspec_PtOk a1).bind fun v1 => frk (!v1) (some (0, 0)) ((Dspec_PtOk a2).bind fun v2 => frk (!v2) (some (0, 0)) ((Dspec_l17Way a1.X a2.X).bind fun v3 => frk (!v3) (some (0, 0)) ((Dspec_l17Way a1.Y a2.Y).bind fun v4 => frk (!v4) (some (0, 0)) ((Dspec_l17Way a1.Z a2.Z).bind fun v5 => Dspec_CountIn_0 n (!v5) a0.inn a0.pl.A a0.pl.B a0.pl.C a0.pl.D a0.kids a1.X a1.Y a1.Z a2.X a2.Y a2.Z)))))
theorem Tspec_CountIn {Y} (n : Nat) (a0 : Sol) (a1 : Pt) (a2 : Pt) (r : (Int × Int)) (h : Dspec_CountIn n a0 a1 a2 = some r) : Big Tryz.prog H Y (.call 9 [.agg [bl a0.inn, i64 a0.pl.A, i64 a0.pl.B, i64 a0.pl.C, i64 a0.pl.D, .sl false 6 a0.kids.length ((eSol false).f a0.kids)], .agg [i64 a1.X, i64 a1.Y, i64 a1.Z], .agg [i64 a2.X, i64 a2.Y, i64 a2.Z]] (lk []) (.tup [i64 r.1, i64 r.2]) (lk [])) := by
  unfold Dspec_CountIn at h
  refine x_call (fn := Tryz.f9) (c := bodyOf Tryz.f9) (bs0 := []) Tryz.func9 (by kernel_rfl) (by kernel_rfl) ?_
  obtain ⟨v0, hv0, h⟩ := bind_some h
  refine x_frk 15 [(6, .call [] [] (bl v0) [])] (ocons (Tspec_SolidOk (Y := Y) n a0 _ hv0) onil) h (by kernel_rfl) (fun h => ?_) (fun h => ?_)
  · replace h := Option.some.inj h; subst h
    exact x_end 40 [] [] onil onil (by kernel_rfl)
  · obtain ⟨v1, hv1, h⟩ := bind_some h
    refine x_frk 5 [(1, .call [] [] (bl v1) [])] (ocons (Tspec_PtOk (Y := Y) a1 _ hv1) onil) h (by kernel_rfl) (fun h => ?_) (fun h => ?_)
    · replace h := Option.some.inj h; subst h
      exact x_end 35 [] [] onil onil (by kernel_rfl)
    · obtain ⟨v2, hv2, h⟩ := bind_some h
      refine x_frk 5 [(1, .call [] [] (bl v2) [])] (ocons (Tspec_PtOk (Y := Y) a2 _ hv2) onil) h (by kernel_rfl) (fun h => ?_) (fun h => ?_)
      · replace h := Option.some.inj h; subst h
        exact x_end 30 [] [] onil onil (by kernel_rfl)
      · obtain ⟨v3, hv3, h⟩ := bind_some h
        refine x_frk 8 [(4, .call [] [] (bl v3) [])] (ocons (Tspec_l17Way (Y := Y) a1.X a2.X _ hv3) onil) h (by kernel_rfl) (fun h => ?_) (fun h => ?_)
        · replace h := Option.some.inj h; subst h
          exact x_end 22 [] [] onil onil (by kernel_rfl)
        · obtain ⟨v4, hv4, h⟩ := bind_some h
          refine x_frk 8 [(4, .call [] [] (bl v4) [])] (ocons (Tspec_l17Way (Y := Y) a1.Y a2.Y _ hv4) onil) h (by kernel_rfl) (fun h => ?_) (fun h => ?_)
          · replace h := Option.some.inj h; subst h
            exact x_end 14 [] [] onil onil (by kernel_rfl)
          · obtain ⟨v5, hv5, h⟩ := bind_some h
            exact x_to 8 [(4, .call [] [] (bl v5) [])] (ocons (Tspec_l17Way (Y := Y) a1.Z a2.Z _ hv5) onil) (Tspec_CountIn_0 n (!v5) a0.inn a0.pl.A a0.pl.B a0.pl.C a0.pl.D a0.kids a1.X a1.Y a1.Z a2.X a2.Y a2.Z r h) (by kernel_rfl)
/-! impl.Slice, by hand: it has a builder of its own -/
section
open Go.RowKit
set_option maxHeartbeats 4000000 in
set_option maxRecDepth 1000000 in
theorem slice_walk (Wf : Int → Int → Option Int) (si : Bool) (sA sB sC sD : Int) (u : Value) (z lx ly lz hx hy hz : Int) (w : World) (g : Bool) (k : Option Bool)
  (cG : ∀ w1, Calls Tryz.prog 35 #[.agg #[.int .i64 lx, .int .i64 ly, .int .i64 z], .agg #[.int .i64 hx, .int .i64 hy, .int .i64 z]] w1 fun e w' => e = .returned (.bool g) ∧ Below w1.heap.size w1 w')
  (cS : ∀ w1 b, k = some b → Below w.heap.size w w1 → Calls Tryz.prog 36 #[.agg #[.bool si, .int .i64 sA, .int .i64 sB, .int .i64 sC, .int .i64 sD, u]] w1 fun e w' => e = .returned (.bool b) ∧ Below w1.heap.size w1 w')
  (cW : ∀ w1 x y c, Wf x y = some c → Below w.heap.size w w1 → w1.heap[w.heap.size]? = some (.cells #[.bool si, .int .i64 sA, .int .i64 sB, .int .i64 sC, .int .i64 sD, u] 28 (0, 0)) →
    Calls Tryz.prog 37 #[.pointer (some ⟨w.heap.size, 0, none⟩), .agg #[.int .i64 x, .int .i64 y, .int .i64 z]] w1 fun e w' => e = .returned (.int .i64 c) ∧ Below w1.heap.size w1 w')
  (hu : u.oneCell' = true) (r : ByteArray) (hr : sliceD Wf (some g) k lx ly hx hy = some r) :
  Calls Tryz.prog 12 #[.agg #[.bool si, .int .i64 sA, .int .i64 sB, .int .i64 sC, .int .i64 sD, u], .int .i64 z, .agg #[.int .i64 lx, .int .i64 ly, .int .i64 lz], .agg #[.int .i64 hx, .int .i64 hy, .int .i64 hz]] w fun e w' => e = .returned (.string r) ∧ Below w.heap.size w w' := by
  have HR : Aside (sliceD Wf (some g) k lx ly hx hy = some r) := hr
  have CS : Aside _ := cS
  have CW : Aside _ := cW
  have CG : Aside _ := cG
  clear hr cS cW cG
  go_enter Tryz.func12, Tryz.ntmps12
  go_wp2_with (go_at_call 35; refine (CG.out _).mono ?_)
  intro e W1; first | rintro rfl b1 | rintro ⟨rfl, b1⟩
  obtain ⟨s1, f4, f6, f7, Bw⟩ := alloc3 b1
  clear b1
  cases g with
  | false =>
    go_wp2
    go_ret
    have h := HR.out
    simp only [sliceD, Option.bind_some, if_true, Option.some.injEq] at h
    exact ⟨by rw [← h]; rfl, Bw⟩
  | true =>
    have h := HR.out
    simp only [sliceD, Option.bind_some, Bool.true_eq_false, if_false] at h
    cases k with
    | none => simp at h
    | some k =>
    simp only [Option.bind_some] at h
    have HR : Aside _ := h
    clear h
    have F4 : Aside _ := f4
    have F6 : Aside _ := f6
    have F7 : Aside _ := f7
    have BW : Aside _ := Bw
    have c40 : W1.cell? ⟨w.heap.size, 0, none⟩ = some (.bool si) := by rw [Lib.cell_of_heap f4]; rfl
    have c41 : W1.cell? ⟨w.heap.size, 1, none⟩ = some (.int .i64 sA) := by rw [Lib.cell_of_heap f4]; rfl
    have c42 : W1.cell? ⟨w.heap.size, 2, none⟩ = some (.int .i64 sB) := by rw [Lib.cell_of_heap f4]; rfl
    have c43 : W1.cell? ⟨w.heap.size, 3, none⟩ = some (.int .i64 sC) := by rw [Lib.cell_of_heap f4]; rfl
    have c44 : W1.cell? ⟨w.heap.size, 4, none⟩ = some (.int .i64 sD) := by rw [Lib.cell_of_heap f4]; rfl
    have c45 : W1.cell? ⟨w.heap.size, 5, none⟩ = some u := by rw [Lib.cell_of_heap f4]; rfl
    clear f4 f6 f7 Bw
    go_wp2_with (go_at_call 36; refine (CS.out _ _ rfl BW.out).mono ?_)
    intro e W2; first | rintro rfl b2 | rintro ⟨rfl, b2⟩
    clear c40 c41 c42 c43 c44 c45
    have s2 := b2.size
    have BW2 : Aside (Below w.heap.size w W2) := BW.out.trans (below_down b2 (by omega))
    have G4 : Aside _ := (b2.block _ (by omega)).trans F4.out
    have G6 : Aside _ := (b2.block _ (by omega)).trans F6.out
    have G7 : Aside _ := (b2.block _ (by omega)).trans F7.out
    clear b2 F4 F6 F7 BW
    cases k with
    | false =>
      go_wp2
      go_ret
      have h := HR.out
      simp only [if_true, Option.some.injEq] at h
      exact ⟨by rw [← h]; rfl, BW2.out⟩
    | true =>
      have hlt2 : w.heap.size + 1 + 1 < W2.heap.size := by omega
      have c71 : ∀ o, (W2.alloc o).cell? ⟨w.heap.size + 1 + 1, 1, none⟩ = some (.int .i64 hy) := fun o => by rw [Lib.cell_of_heap ((Lib.alloc_old W2 o _ hlt2).trans G7.out)]; rfl
      have h := HR.out
      simp only [Bool.true_eq_false, if_false, Option.ite_none_right_eq_some, Bool.and_eq_true] at h
      obtain ⟨⟨hwx, hwy⟩, h⟩ := h
      simp only [wayOk, Bool.and_eq_true, decide_eq_true_eq] at hwx hwy
      cases hg : sGrid Wf lx (hx - lx + 1).toNat (hy - ly + 1).toNat hy with
      | none => rw [hg] at h; simp at h
      | some l =>
      rw [hg] at h
      simp only [Option.bind_some, Option.some.injEq] at h
      subst h
      have HG : Aside _ := hg
      clear hg HR
      go_wp2
      go_loopg [10] 16 (fun g s10 wr => ∃ (ky : Nat) (y : Int), s10 = .int .i64 y ∧ ky ≤ g ∧ ky ≤ 16 ∧ Aside ((y = ly + ky - 1 ∧ y ≤ hy) ∧ ∃ acc rest : List UInt8, sGrid Wf lx (hx - lx + 1).toNat ky y = some rest ∧ acc ++ rest = l ∧ acc.length + 17 * ky ≤ 272 ∧ Lib.IsBuilder 77 5 W2.heap.size W2.heap.size (Lib.byteCells acc) wr ∧ Below W2.heap.size W2 wr))
      case atStart =>
        exact ⟨(hy - ly + 1).toNat, hy, rfl, by omega, by omega, (show Aside _ from ⟨by omega, [], l, HG.out, rfl, by simp; omega, Lib.fresh_isBuilder 77 5 W2, (Below.refl _ W2).alloc (Nat.le_refl _) _⟩)⟩
      case round =>
        obtain ⟨ky, y, rfl, hkg, hk16, A⟩ := hrel
        obtain ⟨hyk, acc, rest, e1, e2, e3, IB, BB⟩ := A.out
        clear A
        have hsz : W2.heap.size ≤ wr.heap.size := BB.size
        have c61 : wr.cell? ⟨w.heap.size + 1, 1, none⟩ = some (.int .i64 ly) := by rw [Lib.cell_of_heap ((BB.block _ (by omega)).trans G6.out)]; rfl
        by_cases hge : ly ≤ y
        · obtain ⟨m, rfl⟩ : ∃ m, ky = m + 1 := ⟨ky - 1, by omega⟩
          have c60 : wr.cell? ⟨w.heap.size + 1, 0, none⟩ = some (.int .i64 lx) := by rw [Lib.cell_of_heap ((BB.block _ (by omega)).trans G6.out)]; rfl
          simp only [sGrid] at e1
          cases hl : sLine Wf y (hx - lx + 1).toNat lx with
          | none => rw [hl] at e1; simp at e1
          | some a =>
          cases hg : sGrid Wf lx (hx - lx + 1).toNat m (y - 1) with
          | none => rw [hl, hg] at e1; simp at e1
          | some rr =>
          rw [hl, hg] at e1
          simp only [Option.bind_some, Option.some.injEq] at e1
          subst e1
          have E : Aside _ := And.intro e2 (And.intro hl hg)
          have hyb : -1000000000 ≤ y ∧ y ≤ 1000000000 := by omega
          have HYK : Aside _ := hyk
          clear hyk
          have IB : Aside _ := IB
          have BB : Aside _ := BB
          clear e2 hl hg
          go_wp2
          go_loopg [11] 16 (fun g s11 wi => ∃ (kx : Nat) (x : Int), s11 = .int .i64 x ∧ kx ≤ g ∧ kx ≤ 16 ∧ Aside ((x = hx - kx + 1 ∧ lx ≤ x) ∧ ∃ acc' ra : List UInt8, sLine Wf y kx x = some ra ∧ acc' ++ ra = acc ++ a ∧ acc'.length + kx + 17 * m + 1 ≤ 272 ∧ Lib.IsBuilder 77 5 W2.heap.size W2.heap.size (Lib.byteCells acc') wi ∧ Below W2.heap.size W2 wi))
          case atStart =>
            exact ⟨(hx - lx + 1).toNat, lx, rfl, by omega, by omega, (show Aside _ from ⟨by omega, acc, a, E.out.2.1, rfl, by omega, IB.out, BB.out⟩)⟩
          case round =>
            obtain ⟨kx, x, rfl, hxg, hx16, A⟩ := hrel
            obtain ⟨hxk, acc', ra, e1, e4, e5, I3, B3⟩ := A.out
            clear A
            have hsz3 : W2.heap.size ≤ wr.heap.size := B3.size
            have c70 : wr.cell? ⟨w.heap.size + 1 + 1, 0, none⟩ = some (.int .i64 hx) := by rw [Lib.cell_of_heap ((B3.block _ (by omega)).trans G7.out)]; rfl
            by_cases hle : x ≤ hx
            · obtain ⟨p, rfl⟩ : ∃ p, kx = p + 1 := ⟨kx - 1, by omega⟩
              simp only [sLine] at e1
              cases hw : Wf x y with
              | none => rw [hw] at e1; simp at e1
              | some c =>
              cases hl : sLine Wf y p (x + 1) with
              | none => rw [hw, hl] at e1; simp at e1
              | some r' =>
              rw [hw, hl] at e1
              simp only [Option.bind_some, Option.some.injEq] at e1
              subst e1
              have E2 : Aside _ := And.intro e4 hl
              have hxb : -1000000000 ≤ x ∧ x ≤ 1000000000 := by omega
              have HXK : Aside _ := hxk
              clear hxk
              have HW : Aside _ := hw
              have I3 : Aside _ := I3
              have B3 : Aside _ := B3
              clear e4 hl hw
              have q1 : Below w.heap.size w wr := BW2.out.trans (below_down B3.out (by omega))
              have q2 := (B3.out.block w.heap.size (by omega)).trans G4.out
              have HC : Aside (∀ _ : Unit, _) := fun _ => CW.out wr x y c HW.out q1 q2
              clear q1 q2
              go_wp2_with (go_at_call 37; refine (HC.out ()).mono ?_)
              intro e W4; first | rintro rfl b4 | rintro ⟨rfl, b4⟩
              have I4 : Aside _ := builder_kept I3.out b4
              have B4 : Aside (Below W2.heap.size W2 W4) := B3.out.trans (below_down b4 hsz3)
              clear b4 c70
              have WB : Aside (∀ c, _) := fun c => Tryz.writeByte W2.heap.size W2.heap.size _ c _ I4.out (by rw [Lib.byteCells_length]; omega) B4.out.size
              by_cases h1 : c = 1
              · subst h1
                go_wp2_with (go_at_call 43; refine (WB.out _).mono ?_)
                intro e W5; first | rintro rfl h5 b5 | rintro ⟨rfl, h5, b5⟩
                go_wp2
                go_roundg p
                case measure => omega
                case rel => exact ⟨p, x + 1, by go_num, Nat.le_refl _, by omega, (show Aside _ from ⟨by have := HXK.out; omega, acc' ++ [35], r', E2.out.2, by rw [← E2.out.1]; simp [chW, ], by simp; omega, by rw [Lib.byteCells_append]; exact Or.inr h5, B4.out.trans b5⟩)⟩
              · by_cases h0 : c = 0
                · subst h0
                  go_wp2_with (go_at_call 43; refine (WB.out _).mono ?_)
                  intro e W5; first | rintro rfl h5 b5 | rintro ⟨rfl, h5, b5⟩
                  go_wp2
                  go_roundg p
                  case measure => omega
                  case rel => exact ⟨p, x + 1, by go_num, Nat.le_refl _, by omega, (show Aside _ from ⟨by have := HXK.out; omega, acc' ++ [43], r', E2.out.2, by rw [← E2.out.1]; simp [chW, ], by simp; omega, by rw [Lib.byteCells_append]; exact Or.inr h5, B4.out.trans b5⟩)⟩
                · go_wp2_with (go_at_call 43; refine (WB.out _).mono ?_)
                  intro e W5; first | rintro rfl h5 b5 | rintro ⟨rfl, h5, b5⟩
                  go_wp2
                  go_roundg p
                  case measure => omega
                  case rel => exact ⟨p, x + 1, by go_num, Nat.le_refl _, by omega, (show Aside _ from ⟨by have := HXK.out; omega, acc' ++ [46], r', E2.out.2, by rw [← E2.out.1]; simp [chW, h1, h0], by simp; omega, by rw [Lib.byteCells_append]; exact Or.inr h5, B4.out.trans b5⟩)⟩
            · obtain rfl : kx = 0 := by omega
              simp only [sLine, Option.some.injEq] at e1
              subst e1
              rw [List.append_nil] at e4
              subst e4
              have WB : Aside (∀ c, _) := fun c => Tryz.writeByte W2.heap.size W2.heap.size _ c _ I3 (by rw [Lib.byteCells_length]; omega) hsz3
              have B3 : Aside _ := B3
              have HXK : Aside _ := hxk
              clear I3 hxk
              go_wp2_with (go_at_call 43; refine (WB.out _).mono ?_)
              intro e W5; first | rintro rfl h5 b5 | rintro ⟨rfl, h5, b5⟩
              go_wp2
              go_roundg m
              case measure => omega
              case rel => exact ⟨m, y - 1, by go_num, Nat.le_refl _, by omega, (show Aside _ from ⟨by have := HYK.out; omega, acc ++ a ++ [10], rr, E.out.2.2, by rw [← E.out.1]; simp, by simp at e5 ⊢; omega, by rw [Lib.byteCells_append]; exact Or.inr h5, B3.out.trans b5⟩)⟩
        · obtain rfl : ky = 0 := by omega
          simp only [sGrid, Option.some.injEq] at e1
          subst e1
          rw [List.append_nil] at e2
          subst e2
          have SB : Aside (∀ _ : Unit, _) := fun _ => Tryz.builderString W2.heap.size W2.heap.size acc _ IB hsz
          have BB : Aside _ := BB
          have HYK : Aside _ := hyk
          clear IB hyk
          go_wp2_with (go_at_call 44; refine (SB.out ()).mono ?_)
          intro e W6; first | rintro rfl b6 | rintro ⟨rfl, b6⟩
          go_wp2
          go_ret
          exact ⟨rfl, BW2.out.trans (below_down (BB.out.trans b6) (by omega))⟩
end
def Dimpl_Slice (n : Nat) (a0 : Sol) (a1 : Int) (a2 a3 : Pt) : Option ByteArray :=
  sliceD (fun x y => Dimpl_Solid_whereOf n a0 (Pt.mk x y a1)) (Dimpl_isGrid (Pt.mk a2.X a2.Y a1) (Pt.mk a3.X a3.Y a1)) (Dimpl_SolidOk n a0) a2.X a2.Y a3.X a3.Y
theorem slice_ok {n : Nat} {a0 : Sol} {a1 : Int} {a2 a3 : Pt} {r : ByteArray} (h : Dimpl_Slice n a0 a1 a2 a3 = some r) : CallOk Tryz.prog (Gd H 12) 12 [.agg [bl a0.inn, i64 a0.pl.A, i64 a0.pl.B, i64 a0.pl.C, i64 a0.pl.D, .sl false 6 a0.kids.length ((eSol false).f a0.kids)], i64 a1, .agg [i64 a2.X, i64 a2.Y, i64 a2.Z], .agg [i64 a3.X, i64 a3.Y, i64 a3.Z]] (lk []) (.lit (.string r)) (lk []) := by
  have snd : ∀ {f : FuncId} {args : List AV} {v : Value}, (∀ {Y}, Big Tryz.prog H Y (.call f args (lk []) (.lit v) (lk []))) → CallOk Tryz.prog (Gd H f) f args (lk []) (.lit v) (lk []) := fun hb =>
    (big_sound (Y := fun _ _ _ _ _ => False) eqW mixW (fun _ _ _ _ _ _ => trivial) (fun _ _ _ _ _ h => h.elim) (fun _ _ _ _ _ h => h.elim) hb).1
  refine call_dataV rfl fun w V K vs hV hl hv => ?_
  obtain ⟨x0, x1, x2, x3, rfl⟩ : ∃ x0 x1 x2 x3, vs = [x0, x1, x2, x3] := by
    match vs, hl with
    | [x0, x1, x2, x3], _ => exact ⟨_, _, _, _, rfl⟩
  obtain ⟨v0, p0, e0, r0⟩ := hv 0 _ rfl
  obtain ⟨v1, p1, e1, r1⟩ := hv 1 _ rfl
  obtain ⟨v2, p2, e2, r2⟩ := hv 2 _ rfl
  obtain ⟨v3, p3, e3, r3⟩ := hv 3 _ rfl
  obtain ⟨us, q0, ru⟩ := inv_aggl (ls := [.bool a0.inn, .int .i64 a0.pl.A, .int .i64 a0.pl.B, .int .i64 a0.pl.C, .int .i64 a0.pl.D]) (xs := [.sl false 6 a0.kids.length ((eSol false).f a0.kids)]) r0.share
  obtain ⟨q1, -, -⟩ := inv_lit r1
  obtain ⟨ub, q2, rb⟩ := inv_aggl (ls := [.int .i64 a2.X, .int .i64 a2.Y, .int .i64 a2.Z]) (xs := []) r2
  obtain ⟨uc, q3, rc⟩ := inv_aggl (ls := [.int .i64 a3.X, .int .i64 a3.Y, .int .i64 a3.Z]) (xs := []) r3
  obtain rfl : ub = [] := List.eq_nil_of_length_eq_zero rb.len
  obtain rfl : uc = [] := List.eq_nil_of_length_eq_zero rc.len
  obtain ⟨u, rfl⟩ : ∃ u, us = [u] := List.length_eq_one_iff.1 ru.len
  have o0 := Option.some.inj e0
  have o1 := Option.some.inj e1
  have o2 := Option.some.inj e2
  have o3 := Option.some.inj e3
  subst o0 o1 o2 o3 q0 q1 q2 q3
  have hu : u.oneCell' = true := by
    clear h
    generalize a0.kids.length = m, (eSol false).f a0.kids = ds at ru
    cases ru <;> rfl
  have hi : idsL [AV.sl false 6 a0.kids.length ((eSol false).f a0.kids)] = [] := rfl
  have hc : ∀ c ∈ [AV.sl false 6 a0.kids.length ((eSol false).f a0.kids)], ∀ b n, c ≠ .msl b n := by intro c hc b n e; subst e; simp at hc
  unfold Dimpl_Slice at h
  cases hg : Dimpl_isGrid (Pt.mk a2.X a2.Y a1) (Pt.mk a3.X a3.Y a1) with
  | none => rw [hg] at h; simp [sliceD] at h
  | some g =>
  rw [hg] at h
  refine slice_walk _ a0.inn a0.pl.A a0.pl.B a0.pl.C a0.pl.D u a1 a2.X a2.Y a2.Z a3.X a3.Y a3.Z w g _ (fun w1 => ?_) (fun w1 b hb bw => ?_) (fun w1 x y c hw bw h4 => ?_) hu r h
  · exact data_call (vs := [_, _]) (V := fun _ => 0) (snd (fun {Y} => Timpl_isGrid (Y := Y) _ _ g hg)) (fun _ _ => trivial) rfl (fun _ h => absurd h (by simp)) (.cons (.u (.agg (us := [_, _, _]) (.lit rfl (.lit rfl (.lit rfl .nil))))) (.cons (.u (.agg (us := [_, _, _]) (.lit rfl (.lit rfl (.lit rfl .nil))))) .nil))
  · exact data_call (vs := [_]) (V := V) (snd (fun {Y} => Timpl_SolidOk (Y := Y) n a0 b hb)) (fun _ _ => trivial) rfl (fun g hg => Nat.lt_of_lt_of_le (hV g hg) bw.size) (.cons (.u (.agg (us := [_, _, _, _, _, _]) (.lit rfl (.lit rfl (.lit rfl (.lit rfl (.lit rfl (rep_grow ru hi (fun _ => Nat.le_refl _) (next_below hV bw) true hc)))))))) .nil)
  · have hlt : w.heap.size < w1.heap.size := (Array.getElem?_eq_some_iff.1 h4).1
    have hV0 : V w.heap.size = 0 := Nat.eq_zero_of_not_pos fun h => Nat.lt_irrefl _ (hV _ h)
    have nx := next_below hV bw
    have cell : ∀ (j : Nat) (v : Value), [Value.bool a0.inn, .int .i64 a0.pl.A, .int .i64 a0.pl.B, .int .i64 a0.pl.C, .int .i64 a0.pl.D, u][j]? = some v → w1.cell? ⟨w.heap.size, 0 + j, none⟩ = some v := fun j v hj => by
      rw [Lib.cell_of_heap h4, Nat.zero_add, ← hj]; simp
    refine data_call (vs := [_, _]) (V := fun g => if g = w.heap.size then 6 else V g) (snd (fun {Y} => Timpl_Solid_whereOf (Y := Y) n a0 (Pt.mk x y a1) [] c hw)) (fun _ _ => trivial) rfl (fun g hg => ?_) (.cons (.u (.p (.cptr ⟨w.heap.size, 0, none⟩ [.bool a0.inn, .int .i64 a0.pl.A, .int .i64 a0.pl.B, .int .i64 a0.pl.C, .int .i64 a0.pl.D, u] rfl cell ?_ hlt ?_))) (.cons (.u (.agg (us := [_, _, _]) (.lit rfl (.lit rfl (.lit rfl .nil))))) .nil))
    · split at hg
      · rename_i e; rw [e]; exact hlt
      · exact Nat.lt_of_lt_of_le (hV g hg) bw.size
    · simp
    · exact .lit rfl (.lit rfl (.lit rfl (.lit rfl (.lit rfl (rep_grow ru hi (fun g => by split; rename_i e; rw [e, hV0]; omega; exact Nat.le_refl _) ⟨nx.cell, fun g => Nat.le_refl _, nx.sz⟩ false hc)))))
def YS : FuncId → List AV → (Nat → Option Box) → AV → (Nat → Option Box) → Prop := fun f args bx r bx' => f = 12 ∧ ∃ (n : Nat) (a0 : Sol) (a1 : Int) (a2 a3 : Pt) (r0 : ByteArray), Dimpl_Slice n a0 a1 a2 a3 = some r0 ∧ args = [.agg [bl a0.inn, i64 a0.pl.A, i64 a0.pl.B, i64 a0.pl.C, i64 a0.pl.D, .sl false 6 a0.kids.length ((eSol false).f a0.kids)], i64 a1, .agg [i64 a2.X, i64 a2.Y, i64 a2.Z], .agg [i64 a3.X, i64 a3.Y, i64 a3.Z]] ∧ bx = lk [] ∧ r = .lit (.string r0) ∧ bx' = lk []
theorem ys_ok : ∀ f args bx r bx', YS f args bx r bx' → CallOk Tryz.prog (Gd H f) f args bx r bx' := by
  rintro f args bx r bx' ⟨rfl, n, a0, a1, a2, a3, r0, h, rfl, rfl, rfl, rfl⟩
  exact slice_ok h
theorem Timpl_Slice (n : Nat) (a0 : Sol) (a1 : Int) (a2 a3 : Pt) (r : ByteArray) (h : Dimpl_Slice n a0 a1 a2 a3 = some r) : Big Tryz.prog H YS (.call 12 [.agg [bl a0.inn, i64 a0.pl.A, i64 a0.pl.B, i64 a0.pl.C, i64 a0.pl.D, .sl false 6 a0.kids.length ((eSol false).f a0.kids)], i64 a1, .agg [i64 a2.X, i64 a2.Y, i64 a2.Z], .agg [i64 a3.X, i64 a3.Y, i64 a3.Z]] (lk []) (.lit (.string r)) (lk [])) := Big.given Tryz.func12 rfl rfl ⟨rfl, n, a0, a1, a2, a3, r, h, rfl, rfl, rfl, rfl⟩

/-! laws.FnCounted -/
def Dlaws_FnCounted_1 (_n : Nat) (t6 t7 : Int) : Option Bool :=
  frk (t6 == 0) (some (t7 == 0)) (some false)
theorem Tlaws_FnCounted_1 (n : Nat) (t6 t7 : Int) (r : Bool) (h : Dlaws_FnCounted_1 n t6 t7 = some r) : Wk Tryz.prog H YS 3 [.code (cp [1, 1, 1, 1, 1, 1, 0, 1, 0, 0] (bodyOf Tryz.f3)), .code (cp [1, 1, 1, 1, 1, 1, 0, 1, 0, 1] (bodyOf Tryz.f3)), .code (cp [1, 1, 1, 1, 1, 1, 1] (bodyOf Tryz.f3))] (FinX Tryz.prog Tryz.f3 [] (bl r) []) ⟨[(6, i64 t6), (7, i64 t7)], []⟩ := by
  unfold Dlaws_FnCounted_1 at h
  refine x_frk 4 [] onil h (by kernel_rfl) (fun h => ?_) (fun h => ?_)
  · replace h := Option.some.inj h; subst h
    exact x_end 5 [] [] onil onil (by kernel_rfl)
  · replace h := Option.some.inj h; subst h
    exact x_end 5 [] [] onil onil (by kernel_rfl)
def Dlaws_FnCounted_3 (_n : Nat) (rec1 : (Int × Int × Int) → Option Bool) (_rec0 : (Int × Int × Int) → Option Bool) (_t12 : Int) (t13 : ByteArray) (_t6 _t7 : Int) (_b3_0 : Bool) (_b3_1 _b3_2 _b3_3 _b3_4 : Int) (_b3_5 : List Sol) (_b4_0 _b4_1 _b4_2 _b5_0 _b5_1 _b5_2 t10 t11 t14 : Int) : Option Bool :=
  (sget t13 t14).bind fun v9 => frk (v9 == 43) (rec1 (t10, w64 (t11 + 1), w64 (t14 + 1))) (rec1 (t10, t11, w64 (t14 + 1)))
theorem Tlaws_FnCounted_3 (n : Nat) (rec1 : (Int × Int × Int) → Option Bool) (rec0 : (Int × Int × Int) → Option Bool) (t12 : Int) (t13 : ByteArray) (t6 t7 : Int) (b3_0 : Bool) (b3_1 b3_2 b3_3 b3_4 : Int) (b3_5 : List Sol) (b4_0 b4_1 b4_2 b5_0 b5_1 b5_2 : Int) (hrec1 : ∀ (a : (Int × Int × Int)) (r : Bool), rec1 a = some r → Wk Tryz.prog H YS 3 [.code (cp [1, 1, 1, 1, 1, 1, 1, 1, 1, 0, 1, 0, 0, 1, 0, 0, 1, 1, 1, 0] (bodyOf Tryz.f3)), .blk 2, .blk 1, .code (cp [1, 1, 1, 1, 1, 1, 1, 1, 1, 0, 1, 0, 0, 1, 1] (bodyOf Tryz.f3)), .lp (cp [1, 1, 1, 1, 1, 1, 1, 1, 1, 0, 1, 0] (bodyOf Tryz.f3)), .blk 0, .code (cp [1, 1, 1, 1, 1, 1, 1, 1, 1, 1] (bodyOf Tryz.f3))] (FinX Tryz.prog Tryz.f3 [] (bl r) []) ⟨[(3, .ptr 3 0), (4, .ptr 4 0), (5, .ptr 5 0), (6, i64 t6), (7, i64 t7), (10, i64 a.1), (11, i64 a.2.1), (12, i64 t12), (13, .lit (.string t13)), (14, i64 a.2.2)], [(3, ⟨true, 0, [bl b3_0, i64 b3_1, i64 b3_2, i64 b3_3, i64 b3_4, .sl false 6 b3_5.length ((eSol false).f b3_5)]⟩), (4, ⟨true, 0, [i64 b4_0, i64 b4_1, i64 b4_2]⟩), (5, ⟨true, 0, [i64 b5_0, i64 b5_1, i64 b5_2]⟩)]⟩) (_hrec0 : ∀ (a : (Int × Int × Int)) (r : Bool), rec0 a = some r → Wk Tryz.prog H YS 3 [.code (cp [1, 1, 1, 1, 1, 1, 1, 1, 1, 0, 1, 0] (bodyOf Tryz.f3)), .blk 0, .code (cp [1, 1, 1, 1, 1, 1, 1, 1, 1, 1] (bodyOf Tryz.f3))] (FinX Tryz.prog Tryz.f3 [] (bl r) []) ⟨[(3, .ptr 3 0), (4, .ptr 4 0), (5, .ptr 5 0), (6, i64 t6), (7, i64 t7), (10, i64 a.1), (11, i64 a.2.1), (12, i64 a.2.2)], [(3, ⟨true, 0, [bl b3_0, i64 b3_1, i64 b3_2, i64 b3_3, i64 b3_4, .sl false 6 b3_5.length ((eSol false).f b3_5)]⟩), (4, ⟨true, 0, [i64 b4_0, i64 b4_1, i64 b4_2]⟩), (5, ⟨true, 0, [i64 b5_0, i64 b5_1, i64 b5_2]⟩)]⟩) (t10 t11 t14 : Int) (r : Bool) (h : Dlaws_FnCounted_3 n rec1 rec0 t12 t13 t6 t7 b3_0 b3_1 b3_2 b3_3 b3_4 b3_5 b4_0 b4_1 b4_2 b5_0 b5_1 b5_2 t10 t11 t14 = some r) : Wk Tryz.prog H YS 3 [.code (cp [1, 1, 1, 1, 1, 1, 1, 1, 1, 0, 1, 0, 0, 1, 0, 0, 1, 1, 1, 0, 0, 1, 0, 0, 1, 0] (bodyOf Tryz.f3)), .code (cp [1, 1, 1, 1, 1, 1, 1, 1, 1, 0, 1, 0, 0, 1, 0, 0, 1, 1, 1, 0, 0, 1, 0, 0, 1, 1] (bodyOf Tryz.f3)), .blk 3, .code (cp [1, 1, 1, 1, 1, 1, 1, 1, 1, 0, 1, 0, 0, 1, 0, 0, 1, 1, 1, 0, 0, 1, 1] (bodyOf Tryz.f3)), .lp (cp [1, 1, 1, 1, 1, 1, 1, 1, 1, 0, 1, 0, 0, 1, 0, 0, 1, 1, 1, 0] (bodyOf Tryz.f3)), .blk 2, .blk 1, .code (cp [1, 1, 1, 1, 1, 1, 1, 1, 1, 0, 1, 0, 0, 1, 1] (bodyOf Tryz.f3)), .lp (cp [1, 1, 1, 1, 1, 1, 1, 1, 1, 0, 1, 0] (bodyOf Tryz.f3)), .blk 0, .code (cp [1, 1, 1, 1, 1, 1, 1, 1, 1, 1] (bodyOf Tryz.f3))] (FinX Tryz.prog Tryz.f3 [] (bl r) []) ⟨[(3, .ptr 3 0), (4, .ptr 4 0), (5, .ptr 5 0), (6, i64 t6), (7, i64 t7), (10, i64 t10), (11, i64 t11), (12, i64 t12), (13, .lit (.string t13)), (14, i64 t14)], [(3, ⟨true, 0, [bl b3_0, i64 b3_1, i64 b3_2, i64 b3_3, i64 b3_4, .sl false 6 b3_5.length ((eSol false).f b3_5)]⟩), (4, ⟨true, 0, [i64 b4_0, i64 b4_1, i64 b4_2]⟩), (5, ⟨true, 0, [i64 b5_0, i64 b5_1, i64 b5_2]⟩)]⟩ := by
  unfold Dlaws_FnCounted_3 at h
  obtain ⟨v9, hv9, h⟩ := bind_some h
  refine x_frk 6 [(2, .val (.lit (.int .u8 v9)))] (ocons (strIx hv9) onil) h (by kernel_rfl) (fun h => ?_) (fun h => ?_)
  · exact x_to 12 [] onil (hrec1 (t10, w64 (t11 + 1), w64 (t14 + 1)) r h) (by kernel_rfl)
  · exact x_to 8 [] onil (hrec1 (t10, t11, w64 (t14 + 1)) r h) (by kernel_rfl)
def Dlaws_FnCounted_4 (n : Nat) (rec0 : (Int × Int × Int) → Option Bool) (t6 t7 : Int) (b3_0 : Bool) (b3_1 b3_2 b3_3 b3_4 : Int) (b3_5 : List Sol) (b4_0 b4_1 b4_2 b5_0 b5_1 b5_2 t12 : Int) (t13 : ByteArray) (rec1 : (Int × Int × Int) → Option Bool) (a : (Int × Int × Int)) : Option Bool :=
  match a with
  | (t10, t11, t14) => frk (decide (t14 < (t13.size : Int))) ((sget t13 t14).bind fun v8 => frk (v8 == 35) (Dlaws_FnCounted_3 n rec1 rec0 t12 t13 t6 t7 b3_0 b3_1 b3_2 b3_3 b3_4 b3_5 b4_0 b4_1 b4_2 b5_0 b5_1 b5_2 (w64 (t10 + 1)) t11 t14) (Dlaws_FnCounted_3 n rec1 rec0 t12 t13 t6 t7 b3_0 b3_1 b3_2 b3_3 b3_4 b3_5 b4_0 b4_1 b4_2 b5_0 b5_1 b5_2 t10 t11 t14)) (rec0 (t10, t11, w64 (t12 + 1)))
theorem Tlaws_FnCounted_4 (n : Nat) (rec0 : (Int × Int × Int) → Option Bool) (t6 t7 : Int) (b3_0 : Bool) (b3_1 b3_2 b3_3 b3_4 : Int) (b3_5 : List Sol) (b4_0 b4_1 b4_2 b5_0 b5_1 b5_2 : Int) (hrec0 : ∀ (a : (Int × Int × Int)) (r : Bool), rec0 a = some r → Wk Tryz.prog H YS 3 [.code (cp [1, 1, 1, 1, 1, 1, 1, 1, 1, 0, 1, 0] (bodyOf Tryz.f3)), .blk 0, .code (cp [1, 1, 1, 1, 1, 1, 1, 1, 1, 1] (bodyOf Tryz.f3))] (FinX Tryz.prog Tryz.f3 [] (bl r) []) ⟨[(3, .ptr 3 0), (4, .ptr 4 0), (5, .ptr 5 0), (6, i64 t6), (7, i64 t7), (10, i64 a.1), (11, i64 a.2.1), (12, i64 a.2.2)], [(3, ⟨true, 0, [bl b3_0, i64 b3_1, i64 b3_2, i64 b3_3, i64 b3_4, .sl false 6 b3_5.length ((eSol false).f b3_5)]⟩), (4, ⟨true, 0, [i64 b4_0, i64 b4_1, i64 b4_2]⟩), (5, ⟨true, 0, [i64 b5_0, i64 b5_1, i64 b5_2]⟩)]⟩) (t12 : Int) (t13 : ByteArray) : ∀ (m : Nat) (a : (Int × Int × Int)) (r : Bool), loopN (Dlaws_FnCounted_4 n rec0 t6 t7 b3_0 b3_1 b3_2 b3_3 b3_4 b3_5 b4_0 b4_1 b4_2 b5_0 b5_1 b5_2 t12 t13) m a = some r → Wk Tryz.prog H YS 3 [.code (cp [1, 1, 1, 1, 1, 1, 1, 1, 1, 0, 1, 0, 0, 1, 0, 0, 1, 1, 1, 0] (bodyOf Tryz.f3)), .blk 2, .blk 1, .code (cp [1, 1, 1, 1, 1, 1, 1, 1, 1, 0, 1, 0, 0, 1, 1] (bodyOf Tryz.f3)), .lp (cp [1, 1, 1, 1, 1, 1, 1, 1, 1, 0, 1, 0] (bodyOf Tryz.f3)), .blk 0, .code (cp [1, 1, 1, 1, 1, 1, 1, 1, 1, 1] (bodyOf Tryz.f3))] (FinX Tryz.prog Tryz.f3 [] (bl r) []) ⟨[(3, .ptr 3 0), (4, .ptr 4 0), (5, .ptr 5 0), (6, i64 t6), (7, i64 t7), (10, i64 a.1), (11, i64 a.2.1), (12, i64 t12), (13, .lit (.string t13)), (14, i64 a.2.2)], [(3, ⟨true, 0, [bl b3_0, i64 b3_1, i64 b3_2, i64 b3_3, i64 b3_4, .sl false 6 b3_5.length ((eSol false).f b3_5)]⟩), (4, ⟨true, 0, [i64 b4_0, i64 b4_1, i64 b4_2]⟩), (5, ⟨true, 0, [i64 b5_0, i64 b5_1, i64 b5_2]⟩)]⟩ := by
  refine loopN_ind (fun rec1 hrec1 a r h => ?_)
  obtain ⟨t10, t11, t14⟩ := a
  unfold Dlaws_FnCounted_4 at h
  refine x_frk 9 [] onil h (by kernel_rfl) (fun h => ?_) (fun h => ?_)
  · obtain ⟨v8, hv8, h⟩ := bind_some h
    refine x_frk 11 [(2, .val (.lit (.int .u8 v8)))] (ocons (strIx hv8) onil) h (by kernel_rfl) (fun h => ?_) (fun h => ?_)
    · exact x_to 6 [] onil (Tlaws_FnCounted_3 n rec1 rec0 t12 t13 t6 t7 b3_0 b3_1 b3_2 b3_3 b3_4 b3_5 b4_0 b4_1 b4_2 b5_0 b5_1 b5_2 hrec1 hrec0 (w64 (t10 + 1)) t11 t14 r h) (by kernel_rfl)
    · exact x_to 2 [] onil (Tlaws_FnCounted_3 n rec1 rec0 t12 t13 t6 t7 b3_0 b3_1 b3_2 b3_3 b3_4 b3_5 b4_0 b4_1 b4_2 b5_0 b5_1 b5_2 hrec1 hrec0 t10 t11 t14 r h) (by kernel_rfl)
  · exact x_to 8 [] onil (hrec0 (t10, t11, w64 (t12 + 1)) r h) (by kernel_rfl)
def Dlaws_FnCounted_5 (_n : Nat) (t6 t7 t10 t11 : Int) : Option Bool :=
  frk (t10 == t6) (some (t11 == t7)) (some false)
theorem Tlaws_FnCounted_5 (n : Nat) (t6 t7 t10 t11 : Int) (r : Bool) (h : Dlaws_FnCounted_5 n t6 t7 t10 t11 = some r) : Wk Tryz.prog H YS 3 [.code (cp [1, 1, 1, 1, 1, 1, 1, 1, 1, 1, 0] (bodyOf Tryz.f3)), .code (cp [1, 1, 1, 1, 1, 1, 1, 1, 1, 1, 1] (bodyOf Tryz.f3))] (FinX Tryz.prog Tryz.f3 [] (bl r) []) ⟨[(6, i64 t6), (7, i64 t7), (10, i64 t10), (11, i64 t11)], []⟩ := by
  unfold Dlaws_FnCounted_5 at h
  refine x_frk 5 [] onil h (by kernel_rfl) (fun h => ?_) (fun h => ?_)
  · replace h := Option.some.inj h; subst h
    exact x_end 6 [] [] onil onil (by kernel_rfl)
  · replace h := Option.some.inj h; subst h
    exact x_end 6 [] [] onil onil (by kernel_rfl)
def Dlaws_FnCounted_6 (n : Nat) (t6 t7 : Int) (b3_0 : Bool) (b3_1 b3_2 b3_3 b3_4 : Int) (b3_5 : List Sol) (b4_0 b4_1 b4_2 b5_0 b5_1 b5_2 : Int) (rec0 : (Int × Int × Int) → Option Bool) (a : (Int × Int × Int)) : Option Bool :=
  match a with
  | (t10, t11, t12) => frk (decide (t12 ≤ b5_2)) ((Dimpl_Slice n (Sol.mk b3_0 (Pl.mk b3_1 b3_2 b3_3 b3_4) b3_5) t12 (Pt.mk b4_0 b4_1 b4_2) (Pt.mk b5_0 b5_1 b5_2)).bind fun v7 => frk ((v7.size : Int) != (w64 ((w64 ((w64 (b5_0 - b4_0)) + 2)) * (w64 ((w64 (b5_1 - b4_1)) + 1))))) (some false) (loopN (Dlaws_FnCounted_4 n rec0 t6 t7 b3_0 b3_1 b3_2 b3_3 b3_4 b3_5 b4_0 b4_1 b4_2 b5_0 b5_1 b5_2 t12 v7) n (t10, t11, 0))) (Dlaws_FnCounted_5 n t6 t7 t10 t11)
theorem Tlaws_FnCounted_6 (n : Nat) (t6 t7 : Int) (b3_0 : Bool) (b3_1 b3_2 b3_3 b3_4 : Int) (b3_5 : List Sol) (b4_0 b4_1 b4_2 b5_0 b5_1 b5_2 : Int) : ∀ (m : Nat) (a : (Int × Int × Int)) (r : Bool), loopN (Dlaws_FnCounted_6 n t6 t7 b3_0 b3_1 b3_2 b3_3 b3_4 b3_5 b4_0 b4_1 b4_2 b5_0 b5_1 b5_2) m a = some r → Wk Tryz.prog H YS 3 [.code (cp [1, 1, 1, 1, 1, 1, 1, 1, 1, 0, 1, 0] (bodyOf Tryz.f3)), .blk 0, .code (cp [1, 1, 1, 1, 1, 1, 1, 1, 1, 1] (bodyOf Tryz.f3))] (FinX Tryz.prog Tryz.f3 [] (bl r) []) ⟨[(3, .ptr 3 0), (4, .ptr 4 0), (5, .ptr 5 0), (6, i64 t6), (7, i64 t7), (10, i64 a.1), (11, i64 a.2.1), (12, i64 a.2.2)], [(3, ⟨true, 0, [bl b3_0, i64 b3_1, i64 b3_2, i64 b3_3, i64 b3_4, .sl false 6 b3_5.length ((eSol false).f b3_5)]⟩), (4, ⟨true, 0, [i64 b4_0, i64 b4_1, i64 b4_2]⟩), (5, ⟨true, 0, [i64 b5_0, i64 b5_1, i64 b5_2]⟩)]⟩ := by
  refine loopN_ind (fun rec0 hrec0 a r h => ?_)
  obtain ⟨t10, t11, t12⟩ := a
  unfold Dlaws_FnCounted_6 at h
  refine x_frk 9 [] onil h (by kernel_rfl) (fun h => ?_) (fun h => ?_)
  · obtain ⟨v7, hv7, h⟩ := bind_some h
    refine x_frk 32 [(4, .call [] [] (.lit (.string v7)) [])] (ocons (Timpl_Slice n (Sol.mk b3_0 (Pl.mk b3_1 b3_2 b3_3 b3_4) b3_5) t12 (Pt.mk b4_0 b4_1 b4_2) (Pt.mk b5_0 b5_1 b5_2) _ hv7) onil) h (by kernel_rfl) (fun h => ?_) (fun h => ?_)
    · replace h := Option.some.inj h; subst h
      exact x_end 4 [] [] onil onil (by kernel_rfl)
    · exact x_to 6 [] onil (Tlaws_FnCounted_4 n rec0 t6 t7 b3_0 b3_1 b3_2 b3_3 b3_4 b3_5 b4_0 b4_1 b4_2 b5_0 b5_1 b5_2 hrec0 t12 v7 n (t10, t11, 0) r h) (by kernel_rfl)
  · exact x_to 2 [] onil (Tlaws_FnCounted_5 n t6 t7 t10 t11 r h) (by kernel_rfl)
def Dlaws_FnCounted_2 (n : Nat) (t6 t7 : Int) (t102 b3_0 : Bool) (b3_1 b3_2 b3_3 b3_4 : Int) (b3_5 : List Sol) (b4_0 b4_1 b4_2 b5_0 b5_1 b5_2 : Int) : Option Bool :=
  frk t102 (frk (t6 == 0) (some (t7 == 0)) (some false)) (loopN (Dlaws_FnCounted_6 n t6 t7 b3_0 b3_1 b3_2 b3_3 b3_4 b3_5 b4_0 b4_1 b4_2 b5_0 b5_1 b5_2) n (0, 0, b4_2))
theorem Tlaws_FnCounted_2 (n : Nat) (t6 t7 : Int) (t102 b3_0 : Bool) (b3_1 b3_2 b3_3 b3_4 : Int) (b3_5 : List Sol) (b4_0 b4_1 b4_2 b5_0 b5_1 b5_2 : Int) (r : Bool) (h : Dlaws_FnCounted_2 n t6 t7 t102 b3_0 b3_1 b3_2 b3_3 b3_4 b3_5 b4_0 b4_1 b4_2 b5_0 b5_1 b5_2 = some r) : Wk Tryz.prog H YS 3 [.code (cp [1, 1, 1, 1, 1, 1, 0, 1] (bodyOf Tryz.f3)), .code (cp [1, 1, 1, 1, 1, 1, 1] (bodyOf Tryz.f3))] (FinX Tryz.prog Tryz.f3 [] (bl r) []) ⟨[(3, .ptr 3 0), (4, .ptr 4 0), (5, .ptr 5 0), (6, i64 t6), (7, i64 t7), (102, bl t102)], [(3, ⟨true, 0, [bl b3_0, i64 b3_1, i64 b3_2, i64 b3_3, i64 b3_4, .sl false 6 b3_5.length ((eSol false).f b3_5)]⟩), (4, ⟨true, 0, [i64 b4_0, i64 b4_1, i64 b4_2]⟩), (5, ⟨true, 0, [i64 b5_0, i64 b5_1, i64 b5_2]⟩)]⟩ := by
  unfold Dlaws_FnCounted_2 at h
  refine x_frk 0 [] onil h (by kernel_rfl) (fun h => ?_) (fun h => ?_)
  · refine x_frk 5 [] onil h (by kernel_rfl) (fun h => ?_) (fun h => ?_)
    · replace h := Option.some.inj h; subst h
      exact x_end 5 [] [] onil onil (by kernel_rfl)
    · replace h := Option.some.inj h; subst h
      exact x_end 5 [] [] onil onil (by kernel_rfl)
  · exact x_to 17 [] onil (Tlaws_FnCounted_6 n t6 t7 b3_0 b3_1 b3_2 b3_3 b3_4 b3_5 b4_0 b4_1 b4_2 b5_0 b5_1 b5_2 n (0, 0, b4_2) r h) (by kernel_rfl)
def Dlaws_FnCounted_0 (n : Nat) (t6 t7 : Int) (t44 b3_0 : Bool) (b3_1 b3_2 b3_3 b3_4 : Int) (b3_5 : List Sol) (b4_0 b4_1 b4_2 b5_0 b5_1 b5_2 : Int) : Option Bool :=
  frk t44 (some false) ((Dspec_SolidOk n (Sol.mk b3_0 (Pl.mk b3_1 b3_2 b3_3 b3_4) b3_5)).bind fun v4 => frk (!v4) (Dlaws_FnCounted_1 n t6 t7) ((Dspec_PtOk (Pt.mk b4_0 b4_1 b4_2)).bind fun v5 => frk (!v5) (Dlaws_FnCounted_1 n t6 t7) ((Dspec_PtOk (Pt.mk b5_0 b5_1 b5_2)).bind fun v6 => frk (!v6) (Dlaws_FnCounted_1 n t6 t7) (frk (decide (b5_0 < b4_0)) (Dlaws_FnCounted_1 n t6 t7) (frk (decide (b5_1 < b4_1)) (Dlaws_FnCounted_1 n t6 t7) (frk (decide (b5_2 < b4_2)) (Dlaws_FnCounted_1 n t6 t7) (frk (decide ((w64 (b5_0 - b4_0)) ≥ 16)) (Dlaws_FnCounted_1 n t6 t7) (frk (decide ((w64 (b5_1 - b4_1)) ≥ 16)) (Dlaws_FnCounted_1 n t6 t7) (Dlaws_FnCounted_2 n t6 t7 (decide ((w64 (b5_2 - b4_2)) ≥ 16)) b3_0 b3_1 b3_2 b3_3 b3_4 b3_5 b4_0 b4_1 b4_2 b5_0 b5_1 b5_2)))))))))
theorem Tlaws_FnCounted_0 (n : Nat) (t6 t7 : Int) (t44 b3_0 : Bool) (b3_1 b3_2 b3_3 b3_4 : Int) (b3_5 : List Sol) (b4_0 b4_1 b4_2 b5_0 b5_1 b5_2 : Int) (r : Bool) (h : Dlaws_FnCounted_0 n t6 t7 t44 b3_0 b3_1 b3_2 b3_3 b3_4 b3_5 b4_0 b4_1 b4_2 b5_0 b5_1 b5_2 = some r) : Wk Tryz.prog H YS 3 [.code (cp [1, 1, 1, 1, 1, 0, 1] (bodyOf Tryz.f3)), .code (cp [1, 1, 1, 1, 1, 1] (bodyOf Tryz.f3))] (FinX Tryz.prog Tryz.f3 [] (bl r) []) ⟨[(3, .ptr 3 0), (4, .ptr 4 0), (5, .ptr 5 0), (6, i64 t6), (7, i64 t7), (44, bl t44)], [(3, ⟨true, 0, [bl b3_0, i64 b3_1, i64 b3_2, i64 b3_3, i64 b3_4, .sl false 6 b3_5.length ((eSol false).f b3_5)]⟩), (4, ⟨true, 0, [i64 b4_0, i64 b4_1, i64 b4_2]⟩), (5, ⟨true, 0, [i64 b5_0, i64 b5_1, i64 b5_2]⟩)]⟩ := by
  unfold Dlaws_FnCounted_0 at h
  refine x_frk 0 [] onil h (by kernel_rfl) (fun h => ?_) (fun h => ?_)
  · replace h := Option.some.inj h; subst h
    exact x_end 4 [] [] onil onil (by kernel_rfl)
  · obtain ⟨v4, hv4, h⟩ := bind_some h
    refine x_frk 8 [(1, .call [] [] (bl v4) [])] (ocons (Tspec_SolidOk (Y := YS) n (Sol.mk b3_0 (Pl.mk b3_1 b3_2 b3_3 b3_4) b3_5) _ hv4) onil) h (by kernel_rfl) (fun h => ?_) (fun h => ?_)
    · exact x_to 57 [] onil (Tlaws_FnCounted_1 n t6 t7 r h) (by kernel_rfl)
    · obtain ⟨v5, hv5, h⟩ := bind_some h
      refine x_frk 5 [(1, .call [] [] (bl v5) [])] (ocons (Tspec_PtOk (Y := YS) (Pt.mk b4_0 b4_1 b4_2) _ hv5) onil) h (by kernel_rfl) (fun h => ?_) (fun h => ?_)
      · exact x_to 52 [] onil (Tlaws_FnCounted_1 n t6 t7 r h) (by kernel_rfl)
      · obtain ⟨v6, hv6, h⟩ := bind_some h
        refine x_frk 5 [(1, .call [] [] (bl v6) [])] (ocons (Tspec_PtOk (Y := YS) (Pt.mk b5_0 b5_1 b5_2) _ hv6) onil) h (by kernel_rfl) (fun h => ?_) (fun h => ?_)
        · exact x_to 47 [] onil (Tlaws_FnCounted_1 n t6 t7 r h) (by kernel_rfl)
        · refine x_frk 7 [] onil h (by kernel_rfl) (fun h => ?_) (fun h => ?_)
          · exact x_to 40 [] onil (Tlaws_FnCounted_1 n t6 t7 r h) (by kernel_rfl)
          · refine x_frk 7 [] onil h (by kernel_rfl) (fun h => ?_) (fun h => ?_)
            · exact x_to 33 [] onil (Tlaws_FnCounted_1 n t6 t7 r h) (by kernel_rfl)
            · refine x_frk 7 [] onil h (by kernel_rfl) (fun h => ?_) (fun h => ?_)
              · exact x_to 26 [] onil (Tlaws_FnCounted_1 n t6 t7 r h) (by kernel_rfl)
              · refine x_frk 8 [] onil h (by kernel_rfl) (fun h => ?_) (fun h => ?_)
                · exact x_to 18 [] onil (Tlaws_FnCounted_1 n t6 t7 r h) (by kernel_rfl)
                · refine x_frk 8 [] onil h (by kernel_rfl) (fun h => ?_) (fun h => ?_)
                  · exact x_to 10 [] onil (Tlaws_FnCounted_1 n t6 t7 r h) (by kernel_rfl)
                  · exact x_to 8 [] onil (Tlaws_FnCounted_2 n t6 t7 (decide ((w64 (b5_2 - b4_2)) ≥ 16)) b3_0 b3_1 b3_2 b3_3 b3_4 b3_5 b4_0 b4_1 b4_2 b5_0 b5_1 b5_2 r h) (by kernel_rfl)
def Dlaws_FnCounted (n : Nat) (a0 : (List Int)) : Option Bool :=
  (Dlaws_big a0).bind fun v0 => frk v0 (some true) ((Dspec_DrawCountIn n a0).bind fun v1 => (Dimpl_CountIn n v1.1 v1.2.1 v1.2.2).bind fun v2 => (Dspec_CountIn n v1.1 v1.2.1 v1.2.2).bind fun v3 => frk (v2.1 != v3.1) (some false) (Dlaws_FnCounted_0 n v2.1 v2.2 (v2.2 != v3.2) v1.1.inn v1.1.pl.A v1.1.pl.B v1.1.pl.C v1.1.pl.D v1.1.kids v1.2.1.X v1.2.1.Y v1.2.1.Z v1.2.2.X v1.2.2.Y v1.2.2.Z))
theorem Tlaws_FnCounted (n : Nat) (a0 : (List Int)) (r : Bool) (h : Dlaws_FnCounted n a0 = some r) : Big Tryz.prog H YS (.call 3 [.sl false 1 a0.length ((eU8).f a0)] (lk []) (bl r) (lk [])) := by
  unfold Dlaws_FnCounted at h
  refine x_call (fn := Tryz.f3) (c := bodyOf Tryz.f3) (bs0 := []) Tryz.func3 (by kernel_rfl) (by kernel_rfl) ?_
  obtain ⟨v0, hv0, h⟩ := bind_some h
  refine x_frk 10 [(2, .call [] [] (bl v0) [])] (ocons (Tlaws_big (Y := YS) a0 _ hv0) onil) h (by kernel_rfl) (fun h => ?_) (fun h => ?_)
  · replace h := Option.some.inj h; subst h
    exact x_end 4 [] [] onil onil (by kernel_rfl)
  · obtain ⟨v1, hv1, h⟩ := bind_some h
    obtain ⟨v2, hv2, h⟩ := bind_some h
    obtain ⟨v3, hv3, h⟩ := bind_some h
    refine x_frk 47 [(1, .call [] [] (.tup [.agg [bl v1.1.inn, i64 v1.1.pl.A, i64 v1.1.pl.B, i64 v1.1.pl.C, i64 v1.1.pl.D, .sl false 6 v1.1.kids.length ((eSol false).f v1.1.kids)], .agg [i64 v1.2.1.X, i64 v1.2.1.Y, i64 v1.2.1.Z], .agg [i64 v1.2.2.X, i64 v1.2.2.Y, i64 v1.2.2.Z]]) []), (13, .call [] [] (.tup [i64 v2.1, i64 v2.2]) []), (8, .call [] [] (.tup [i64 v3.1, i64 v3.2]) [])] (ocons (Tspec_DrawCountIn (Y := YS) n a0 _ hv1) (ocons (Timpl_CountIn (Y := YS) n v1.1 v1.2.1 v1.2.2 _ hv2) (ocons (Tspec_CountIn (Y := YS) n v1.1 v1.2.1 v1.2.2 _ hv3) onil))) h (by kernel_rfl) (fun h => ?_) (fun h => ?_)
    · replace h := Option.some.inj h; subst h
      exact x_end 10 [] [] onil onil (by kernel_rfl)
    · exact x_to 5 [] onil (Tlaws_FnCounted_0 n v2.1 v2.2 (v2.2 != v3.2) v1.1.inn v1.1.pl.A v1.1.pl.B v1.1.pl.C v1.1.pl.D v1.1.kids v1.2.1.X v1.2.1.Y v1.2.1.Z v1.2.2.X v1.2.2.Y v1.2.2.Z r h) (by kernel_rfl)
end Evl.T
