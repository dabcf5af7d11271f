/- Walks. No condition. -/
import Derived.Test.YtjmnnljfhoeaaaaGreatWy
namespace Evl.T
open Go Evl Go.Proofs
set_option maxRecDepth 100000
/-! spec.l8Bend -/
def Dspec_l8Bend_1 (_n : Nat) (self : (((List Int) × Int × Int) × Sol) → Option (Sol × ((List Int) × Int × Int))) (t6 : Int) (_b4_0 : Bool) (_b4_1 _b4_2 _b4_3 _b4_4 : Int) (b5_0 : Bool) (b5_1 b5_2 b5_3 b5_4 : Int) (b5_5 : List Sol) (b1000_0 : List Int) (b1000_1 b1000_2 : Int) : Option (Sol × ((List Int) × Int × Int)) :=
  (lget b5_5 t6).bind fun v3 => (self ((b1000_0, b1000_1, b1000_2), v3)).bind fun v4 => (lget b5_5 t6).bind fun _v5 => some ((Sol.mk b5_0 (Pl.mk b5_1 b5_2 b5_3 b5_4) (b5_5.set (Int.toNat t6) v4.1)), v4.2)
theorem Tspec_l8Bend_1 {Y} (n : Nat) (self : (((List Int) × Int × Int) × Sol) → Option (Sol × ((List Int) × Int × Int))) (hself : ∀ (a : (((List Int) × Int × Int) × Sol)) (r : (Sol × ((List Int) × Int × Int))), self a = some r → Big Tryz.prog H Y (.call 130 [.ptr 1000 0, .agg [bl a.2.inn, i64 a.2.pl.A, i64 a.2.pl.B, i64 a.2.pl.C, i64 a.2.pl.D, .sl false 6 a.2.kids.length ((eSol false).f a.2.kids)]] (lk [(1000, ⟨true, 0, [.sl false 1 a.1.1.length ((eU8).f a.1.1), i64 a.1.2.1, i64 a.1.2.2]⟩)]) (.agg [bl r.1.inn, i64 r.1.pl.A, i64 r.1.pl.B, i64 r.1.pl.C, i64 r.1.pl.D, .sl false 6 r.1.kids.length ((eSol false).f r.1.kids)]) (lk [(1000, ⟨true, 0, [.sl false 1 r.2.1.length ((eU8).f r.2.1), i64 r.2.2.1, i64 r.2.2.2]⟩)]))) (t6 : Int) (b4_0 : Bool) (b4_1 b4_2 b4_3 b4_4 : Int) (b5_0 : Bool) (b5_1 b5_2 b5_3 b5_4 : Int) (b5_5 : List Sol) (b1000_0 : List Int) (b1000_1 b1000_2 : Int) (r : (Sol × ((List Int) × Int × Int))) (h : Dspec_l8Bend_1 n self t6 b4_0 b4_1 b4_2 b4_3 b4_4 b5_0 b5_1 b5_2 b5_3 b5_4 b5_5 b1000_0 b1000_1 b1000_2 = some r) : Wk Tryz.prog H Y 130 [.code (cp [1, 1, 0, 1, 0, 1, 0] (bodyOf Tryz.f130)), .code (cp [1, 1, 0, 1, 0, 1, 1] (bodyOf Tryz.f130)), .code (cp [1, 1, 1] (bodyOf Tryz.f130))] (FinX Tryz.prog Tryz.f130 [(1000, ⟨true, 0, [.bad, .bad, .bad]⟩)] (.agg [bl r.1.inn, i64 r.1.pl.A, i64 r.1.pl.B, i64 r.1.pl.C, i64 r.1.pl.D, .sl false 6 r.1.kids.length ((eSol false).f r.1.kids)]) [(1000, ⟨true, 0, [.sl false 1 r.2.1.length ((eU8).f r.2.1), i64 r.2.2.1, i64 r.2.2.2]⟩)]) ⟨[(0, .ptr 1000 0), (4, .ptr 4 0), (5, .ptr 5 0), (6, i64 t6)], [(4, ⟨true, 0, [bl b4_0, i64 b4_1, i64 b4_2, i64 b4_3, i64 b4_4, .nil]⟩), (5, ⟨true, 0, [bl b5_0, i64 b5_1, i64 b5_2, i64 b5_3, i64 b5_4, .sl true 6 b5_5.length ((eSol true).f b5_5)]⟩), (1000, ⟨true, 0, [.sl false 1 b1000_0.length ((eU8).f b1000_0), i64 b1000_1, i64 b1000_2]⟩)]⟩ := by
  unfold Dspec_l8Bend_1 at h
  obtain ⟨v3, hv3, h⟩ := bind_some h
  obtain ⟨v4, hv4, h⟩ := bind_some h
  obtain ⟨_v5, hv5, h⟩ := bind_some h
  replace h := Option.some.inj h; subst h
  exact x_endS 25 [(0, .adoptc 5 ⟨true, 0, [bl b5_0, i64 b5_1, i64 b5_2, i64 b5_3, i64 b5_4, .sl true 6 b5_5.length ((eSol true).f b5_5)]⟩ 5 655 b5_5.length 6 ((eSol true).f b5_5)), (0, .openb 655 ⟨false, 6, (eSol true).f b5_5⟩), (0, .wkb 655 ⟨true, 6, (eSol true).f b5_5⟩ ⟨true, 6, (eSol false).f b5_5⟩), (7, .unit), (0, .cells [bl v3.inn, i64 v3.pl.A, i64 v3.pl.B, i64 v3.pl.C, i64 v3.pl.D, .sl false 6 v3.kids.length ((eSol false).f v3.kids)]), (0, .call [] [] (.agg [bl v4.1.inn, i64 v4.1.pl.A, i64 v4.1.pl.B, i64 v4.1.pl.C, i64 v4.1.pl.D, .sl false 6 v4.1.kids.length ((eSol false).f v4.1.kids)]) [(1000, ⟨true, 0, [.sl false 1 v4.2.1.length ((eU8).f v4.2.1), i64 v4.2.2.1, i64 v4.2.2.2]⟩)]), (0, .unit), (0, .cells ((eSol false).f (b5_5.set (Int.toNat t6) v4.1))), (0, .fix 20 (.msl 655 (b5_5.set (Int.toNat t6) v4.1).length)), (0, .fix 24 (.msl 655 (b5_5.set (Int.toNat t6) v4.1).length)), (0, .fixb 5 ⟨true, 0, [bl b5_0, i64 b5_1, i64 b5_2, i64 b5_3, i64 b5_4, .msl 655 (b5_5.set (Int.toNat t6) v4.1).length]⟩)] (ocons (rflB ⟨true, 0, [bl b5_0, i64 b5_1, i64 b5_2, i64 b5_3, i64 b5_4, .sl true 6 b5_5.length ((eSol true).f b5_5)]⟩) (ocons (⟨rfl, rfl, by decide, by decide, by decide⟩ : (⟨true, 0, [bl b5_0, i64 b5_1, i64 b5_2, i64 b5_3, i64 b5_4, .sl true 6 b5_5.length ((eSol true).f b5_5)]⟩ : Box).cs[5]? = some (.sl true 6 b5_5.length ((eSol true).f b5_5)) ∧ (⟨true, 0, [bl b5_0, i64 b5_1, i64 b5_2, i64 b5_3, i64 b5_4, .sl true 6 b5_5.length ((eSol true).f b5_5)]⟩ : Box).sz = 0 ∧ 5 ≠ 655 ∧ 655 < 1000 ∧ 6 ≠ 0) (ocons (⟨rfl, (show (6 : Nat) ≠ 0 by decide), rfl⟩ : some (⟨false, 6, (eSol true).f b5_5⟩ : Box) = some ⟨false, 6, (eSol true).f b5_5⟩ ∧ (⟨false, 6, (eSol true).f b5_5⟩ : Box).sz ≠ 0 ∧ H.fl 130 = true) (ocons (nu8Sol true b5_5) (ocons (nSh b5_5) (ocons (u8Lk b1000_0) (ocons (rflB ⟨true, 6, (eSol true).f b5_5⟩) (ocons (wkRowB (L := b5_5) (st := true) (z := 6) (eSol true) (eSol false) (sSol true)) (ocons (inr hv3) (ocons (ldA (eSol false) hv3 0 6 rfl rfl) (ocons (hself ((b1000_0, b1000_1, b1000_2), v3) _ hv4) (ocons (inr hv5) (ocons (stA (eSol false) hv5 0 6 [bl v4.1.inn, i64 v4.1.pl.A, i64 v4.1.pl.B, i64 v4.1.pl.C, i64 v4.1.pl.D, .sl false 6 v4.1.kids.length ((eSol false).f v4.1.kids)] v4.1 rfl rfl) (ocons (setLen 655 b5_5 (Int.toNat t6) v4.1) (ocons (setLen 655 b5_5 (Int.toNat t6) v4.1) (ocons (congrArg (fun v => some (⟨true, 0, [bl b5_0, i64 b5_1, i64 b5_2, i64 b5_3, i64 b5_4, v]⟩ : Box)) (setLen 655 b5_5 (Int.toNat t6) v4.1)) onil)))))))))))))))) (ocons (len_row (L := (b5_5.set (Int.toNat t6) v4.1)) (eSol false)) onil) (show WkV (.agg [bl b5_0, i64 b5_1, i64 b5_2, i64 b5_3, i64 b5_4, .sl true 6 (b5_5.set (Int.toNat t6) v4.1).length ((eSol false).f (b5_5.set (Int.toNat t6) v4.1))]) _ from .inl (.inr ⟨_, _, rfl, rfl, ⟨.inl rfl, .inl rfl, .inl rfl, .inl rfl, .inl rfl, wkShareC (L := (b5_5.set (Int.toNat t6) v4.1)) (eSol false) (eSol false) (sSol false), trivial⟩⟩)) (by kernel_rfl)
def Dspec_l8Bend_2 (_n : Nat) (_self : (((List Int) × Int × Int) × Sol) → Option (Sol × ((List Int) × Int × Int))) (_b4_0 : Bool) (_b4_1 _b4_2 _b4_3 _b4_4 : Int) (b5_0 : Bool) (b5_1 b5_2 b5_3 b5_4 : Int) (b5_5 : List Sol) (b1000_0 : List Int) (b1000_1 b1000_2 : Int) : Option (Sol × ((List Int) × Int × Int)) :=
  chk (apB 64 (b5_5.length + 1)) (some ((Sol.mk b5_0 (Pl.mk b5_1 b5_2 b5_3 b5_4) (b5_5 ++ [(Sol.mk false (Pl.mk 0 0 0 0) [])])), (b1000_0, b1000_1, b1000_2)))
theorem Tspec_l8Bend_2 {Y} (n : Nat) (self : (((List Int) × Int × Int) × Sol) → Option (Sol × ((List Int) × Int × Int))) (_hself : ∀ (a : (((List Int) × Int × Int) × Sol)) (r : (Sol × ((List Int) × Int × Int))), self a = some r → Big Tryz.prog H Y (.call 130 [.ptr 1000 0, .agg [bl a.2.inn, i64 a.2.pl.A, i64 a.2.pl.B, i64 a.2.pl.C, i64 a.2.pl.D, .sl false 6 a.2.kids.length ((eSol false).f a.2.kids)]] (lk [(1000, ⟨true, 0, [.sl false 1 a.1.1.length ((eU8).f a.1.1), i64 a.1.2.1, i64 a.1.2.2]⟩)]) (.agg [bl r.1.inn, i64 r.1.pl.A, i64 r.1.pl.B, i64 r.1.pl.C, i64 r.1.pl.D, .sl false 6 r.1.kids.length ((eSol false).f r.1.kids)]) (lk [(1000, ⟨true, 0, [.sl false 1 r.2.1.length ((eU8).f r.2.1), i64 r.2.2.1, i64 r.2.2.2]⟩)]))) (b4_0 : Bool) (b4_1 b4_2 b4_3 b4_4 : Int) (b5_0 : Bool) (b5_1 b5_2 b5_3 b5_4 : Int) (b5_5 : List Sol) (b1000_0 : List Int) (b1000_1 b1000_2 : Int) (r : (Sol × ((List Int) × Int × Int))) (h : Dspec_l8Bend_2 n self b4_0 b4_1 b4_2 b4_3 b4_4 b5_0 b5_1 b5_2 b5_3 b5_4 b5_5 b1000_0 b1000_1 b1000_2 = some r) : Wk Tryz.prog H Y 130 [.code (cp [1, 1, 1, 0, 1, 0, 1, 1, 1, 1, 1, 0] (bodyOf Tryz.f130)), .blk 0, .code (cp [1, 1, 1, 1] (bodyOf Tryz.f130))] (FinX Tryz.prog Tryz.f130 [(1000, ⟨true, 0, [.bad, .bad, .bad]⟩)] (.agg [bl r.1.inn, i64 r.1.pl.A, i64 r.1.pl.B, i64 r.1.pl.C, i64 r.1.pl.D, .sl false 6 r.1.kids.length ((eSol false).f r.1.kids)]) [(1000, ⟨true, 0, [.sl false 1 r.2.1.length ((eU8).f r.2.1), i64 r.2.2.1, i64 r.2.2.2]⟩)]) ⟨[(4, .ptr 4 0), (5, .ptr 5 0)], [(4, ⟨true, 0, [bl b4_0, i64 b4_1, i64 b4_2, i64 b4_3, i64 b4_4, .nil]⟩), (5, ⟨true, 0, [bl b5_0, i64 b5_1, i64 b5_2, i64 b5_3, i64 b5_4, .sl true 6 b5_5.length ((eSol true).f b5_5)]⟩), (1000, ⟨true, 0, [.sl false 1 b1000_0.length ((eU8).f b1000_0), i64 b1000_1, i64 b1000_2]⟩)]⟩ := by
  unfold Dspec_l8Bend_2 at h
  obtain ⟨c8, h⟩ := chk_some h
  replace h := Option.some.inj h; subst h
  exact x_endS 17 [(0, .adoptc 5 ⟨true, 0, [bl b5_0, i64 b5_1, i64 b5_2, i64 b5_3, i64 b5_4, .sl true 6 b5_5.length ((eSol true).f b5_5)]⟩ 5 655 b5_5.length 6 ((eSol true).f b5_5)), (4, .app true (List.length (b5_5 ++ [(Sol.mk false (Pl.mk 0 0 0 0) [])])) ((eSol true).f b5_5 ++ [bl false, i64 0, i64 0, i64 0, i64 0, .nil])), (2, .wkb 50 ⟨false, 6, (eSol true).f b5_5 ++ [bl false, i64 0, i64 0, i64 0, i64 0, .nil]⟩ ⟨false, 6, (eSol true).f (b5_5 ++ [(Sol.mk false (Pl.mk 0 0 0 0) [])])⟩)] (ocons (rflB ⟨true, 0, [bl b5_0, i64 b5_1, i64 b5_2, i64 b5_3, i64 b5_4, .sl true 6 b5_5.length ((eSol true).f b5_5)]⟩) (ocons (⟨rfl, rfl, by decide, by decide, by decide⟩ : (⟨true, 0, [bl b5_0, i64 b5_1, i64 b5_2, i64 b5_3, i64 b5_4, .sl true 6 b5_5.length ((eSol true).f b5_5)]⟩ : Box).cs[5]? = some (.sl true 6 b5_5.length ((eSol true).f b5_5)) ∧ (⟨true, 0, [bl b5_0, i64 b5_1, i64 b5_2, i64 b5_3, i64 b5_4, .sl true 6 b5_5.length ((eSol true).f b5_5)]⟩ : Box).sz = 0 ∧ 5 ≠ 655 ∧ 655 < 1000 ∧ 6 ≠ 0) (ocons (len_row' (L := b5_5) (eSol true)) (ocons (app_one (L := b5_5) (M := [(Sol.mk false (Pl.mk 0 0 0 0) [])]) (eSol true) c8) (ocons (@rfl _ ((eSol true).f b5_5 ++ [bl false, i64 0, i64 0, i64 0, i64 0, .nil])) (ocons (app_m (L := b5_5) (M := [(Sol.mk false (Pl.mk 0 0 0 0) [])]) (eSol true) rfl) (ocons (len_row' (L := [(Sol.mk false (Pl.mk 0 0 0 0) [])]) (eSol true)) (ocons (rflB (⟨false, 6, (eSol true).f b5_5 ++ [bl false, i64 0, i64 0, i64 0, i64 0, .nil]⟩)) (ocons (wkAppNil false false 0 0 0 0 b5_5) onil))))))))) (ocons (len_row (L := (b5_5 ++ [(Sol.mk false (Pl.mk 0 0 0 0) [])])) (eSol true)) onil) (show WkV (.agg [bl b5_0, i64 b5_1, i64 b5_2, i64 b5_3, i64 b5_4, .sl true 6 (b5_5 ++ [(Sol.mk false (Pl.mk 0 0 0 0) [])]).length ((eSol true).f (b5_5 ++ [(Sol.mk false (Pl.mk 0 0 0 0) [])]))]) _ from .inl (.inr ⟨_, _, rfl, rfl, ⟨.inl rfl, .inl rfl, .inl rfl, .inl rfl, .inl rfl, wkShareC (L := (b5_5 ++ [(Sol.mk false (Pl.mk 0 0 0 0) [])])) (eSol true) (eSol false) (sSol true), trivial⟩⟩)) (by kernel_rfl)
def Dspec_l8Bend_0 (n : Nat) (self : (((List Int) × Int × Int) × Sol) → Option (Sol × ((List Int) × Int × Int))) (t16 b4_0 : Bool) (b4_1 b4_2 b4_3 b4_4 : Int) (b5_0 : Bool) (b5_1 b5_2 b5_3 b5_4 : Int) (b5_5 : List Sol) (b1000_0 : List Int) (b1000_1 b1000_2 : Int) : Option (Sol × ((List Int) × Int × Int)) :=
  frk t16 ((Dspec_l1Below (b1000_0, b1000_1, b1000_2) 2).bind fun v2 => Dspec_l8Bend_1 n self v2.1 b4_0 b4_1 b4_2 b4_3 b4_4 b5_0 b5_1 b5_2 b5_3 b5_4 b5_5 v2.2.1 v2.2.2.1 v2.2.2.2) ((Dspec_l1Below (b1000_0, b1000_1, b1000_2) 6).bind fun v6 => frk (v6.1 == 0) (some ((Sol.mk (!b5_0) (Pl.mk b5_1 b5_2 b5_3 b5_4) b5_5), v6.2)) (frk (v6.1 == 1) ((Dspec_l3DrawAny n v6.2).bind fun v7 => some ((Sol.mk b5_0 v7.1 b5_5), v7.2)) (frk (v6.1 == 2) (Dspec_l8Bend_2 n self b4_0 b4_1 b4_2 b4_3 b4_4 b5_0 b5_1 b5_2 b5_3 b5_4 b5_5 v6.2.1 v6.2.2.1 v6.2.2.2) (frk (v6.1 == 3) ((Dspec_Leaf true).bind fun v9 => (Dspec_l8Node (Pl.mk b5_1 b5_2 b5_3 b5_4) (Sol.mk b5_0 (Pl.mk b5_1 b5_2 b5_3 b5_4) b5_5) v9).bind fun v10 => some (v10, v6.2)) (frk (v6.1 == 4) (some ((Sol.mk b5_0 (Pl.mk b5_1 b5_2 b5_3 b5_4) []), v6.2)) (some ((Sol.mk b5_0 (Pl.mk b5_1 b5_2 b5_3 b5_4) b5_5), v6.2)))))))
theorem Tspec_l8Bend_0 {Y} (n : Nat) (self : (((List Int) × Int × Int) × Sol) → Option (Sol × ((List Int) × Int × Int))) (hself : ∀ (a : (((List Int) × Int × Int) × Sol)) (r : (Sol × ((List Int) × Int × Int))), self a = some r → Big Tryz.prog H Y (.call 130 [.ptr 1000 0, .agg [bl a.2.inn, i64 a.2.pl.A, i64 a.2.pl.B, i64 a.2.pl.C, i64 a.2.pl.D, .sl false 6 a.2.kids.length ((eSol false).f a.2.kids)]] (lk [(1000, ⟨true, 0, [.sl false 1 a.1.1.length ((eU8).f a.1.1), i64 a.1.2.1, i64 a.1.2.2]⟩)]) (.agg [bl r.1.inn, i64 r.1.pl.A, i64 r.1.pl.B, i64 r.1.pl.C, i64 r.1.pl.D, .sl false 6 r.1.kids.length ((eSol false).f r.1.kids)]) (lk [(1000, ⟨true, 0, [.sl false 1 r.2.1.length ((eU8).f r.2.1), i64 r.2.2.1, i64 r.2.2.2]⟩)]))) (t16 b4_0 : Bool) (b4_1 b4_2 b4_3 b4_4 : Int) (b5_0 : Bool) (b5_1 b5_2 b5_3 b5_4 : Int) (b5_5 : List Sol) (b1000_0 : List Int) (b1000_1 b1000_2 : Int) (r : (Sol × ((List Int) × Int × Int))) (h : Dspec_l8Bend_0 n self t16 b4_0 b4_1 b4_2 b4_3 b4_4 b5_0 b5_1 b5_2 b5_3 b5_4 b5_5 b1000_0 b1000_1 b1000_2 = some r) : Wk Tryz.prog H Y 130 [.code (cp [1, 1, 0, 1] (bodyOf Tryz.f130)), .code (cp [1, 1, 1] (bodyOf Tryz.f130))] (FinX Tryz.prog Tryz.f130 [(1000, ⟨true, 0, [.bad, .bad, .bad]⟩)] (.agg [bl r.1.inn, i64 r.1.pl.A, i64 r.1.pl.B, i64 r.1.pl.C, i64 r.1.pl.D, .sl false 6 r.1.kids.length ((eSol false).f r.1.kids)]) [(1000, ⟨true, 0, [.sl false 1 r.2.1.length ((eU8).f r.2.1), i64 r.2.2.1, i64 r.2.2.2]⟩)]) ⟨[(0, .ptr 1000 0), (4, .ptr 4 0), (5, .ptr 5 0), (16, bl t16)], [(4, ⟨true, 0, [bl b4_0, i64 b4_1, i64 b4_2, i64 b4_3, i64 b4_4, .nil]⟩), (5, ⟨true, 0, [bl b5_0, i64 b5_1, i64 b5_2, i64 b5_3, i64 b5_4, .sl true 6 b5_5.length ((eSol true).f b5_5)]⟩), (1000, ⟨true, 0, [.sl false 1 b1000_0.length ((eU8).f b1000_0), i64 b1000_1, i64 b1000_2]⟩)]⟩ := by
  unfold Dspec_l8Bend_0 at h
  refine x_frk 0 [] onil h (by kernel_rfl) (fun h => ?_) (fun h => ?_)
  · obtain ⟨v2, hv2, h⟩ := bind_some h
    exact x_to 7 [(1, .call [] [] (i64 v2.1) [(1000, ⟨true, 0, [.sl false 1 v2.2.1.length ((eU8).f v2.2.1), i64 v2.2.2.1, i64 v2.2.2.2]⟩)])] (ocons (Tspec_l1Below (Y := Y) (b1000_0, b1000_1, b1000_2) 2 _ hv2) onil) (Tspec_l8Bend_1 n self hself v2.1 b4_0 b4_1 b4_2 b4_3 b4_4 b5_0 b5_1 b5_2 b5_3 b5_4 b5_5 v2.2.1 v2.2.2.1 v2.2.2.2 r h) (by kernel_rfl)
  · obtain ⟨v6, hv6, h⟩ := bind_some h
    refine x_frk 13 [(1, .call [] [] (i64 v6.1) [(1000, ⟨true, 0, [.sl false 1 v6.2.1.length ((eU8).f v6.2.1), i64 v6.2.2.1, i64 v6.2.2.2]⟩)])] (ocons (Tspec_l1Below (Y := Y) (b1000_0, b1000_1, b1000_2) 6 _ hv6) onil) h (by kernel_rfl) (fun h => ?_) (fun h => ?_)
    · replace h := Option.some.inj h; subst h
      exact x_endS 13 [] onil onil (show WkV (.agg [bl (!b5_0), i64 b5_1, i64 b5_2, i64 b5_3, i64 b5_4, .sl true 6 b5_5.length ((eSol true).f b5_5)]) _ from .inl (.inr ⟨_, _, rfl, rfl, ⟨.inl rfl, .inl rfl, .inl rfl, .inl rfl, .inl rfl, wkShareC (L := b5_5) (eSol true) (eSol false) (sSol true), trivial⟩⟩)) (by kernel_rfl)
    · refine x_frk 5 [] onil h (by kernel_rfl) (fun h => ?_) (fun h => ?_)
      · obtain ⟨v7, hv7, h⟩ := bind_some h
        replace h := Option.some.inj h; subst h
        exact x_endS 12 [(1, .call [] [] (.agg [i64 v7.1.A, i64 v7.1.B, i64 v7.1.C, i64 v7.1.D]) [(1000, ⟨true, 0, [.sl false 1 v7.2.1.length ((eU8).f v7.2.1), i64 v7.2.2.1, i64 v7.2.2.2]⟩)])] (ocons (Tspec_l3DrawAny (Y := Y) n v6.2 _ hv7) onil) onil (show WkV (.agg [bl b5_0, i64 v7.1.A, i64 v7.1.B, i64 v7.1.C, i64 v7.1.D, .sl true 6 b5_5.length ((eSol true).f b5_5)]) _ from .inl (.inr ⟨_, _, rfl, rfl, ⟨.inl rfl, .inl rfl, .inl rfl, .inl rfl, .inl rfl, wkShareC (L := b5_5) (eSol true) (eSol false) (sSol true), trivial⟩⟩)) (by kernel_rfl)
      · refine x_frk 5 [] onil h (by kernel_rfl) (fun h => ?_) (fun h => ?_)
        · exact x_to 0 [] onil (Tspec_l8Bend_2 n self hself b4_0 b4_1 b4_2 b4_3 b4_4 b5_0 b5_1 b5_2 b5_3 b5_4 b5_5 v6.2.1 v6.2.2.1 v6.2.2.2 r h) (by kernel_rfl)
        · refine x_frk 5 [] onil h (by kernel_rfl) (fun h => ?_) (fun h => ?_)
          · obtain ⟨v9, hv9, h⟩ := bind_some h
            obtain ⟨v10, hv10, h⟩ := bind_some h
            replace h := Option.some.inj h; subst h
            exact x_end 14 [(2, .rows [(eSol false).f b5_5]), (0, .call [] [] (.agg [bl v9.inn, i64 v9.pl.A, i64 v9.pl.B, i64 v9.pl.C, i64 v9.pl.D, .sl true 6 v9.kids.length ((eSol true).f v9.kids)]) []), (0, .call [] [] (.agg [bl v10.inn, i64 v10.pl.A, i64 v10.pl.B, i64 v10.pl.C, i64 v10.pl.D, .sl false 6 v10.kids.length ((eSol false).f v10.kids)]) [])] [] (ocons (Enc.share (eSol true) (eSol false) (sSol true) b5_5) (ocons (Tspec_Leaf (Y := Y) true _ hv9) (ocons (Big.wka (show WkT [.agg [i64 b5_1, i64 b5_2, i64 b5_3, i64 b5_4], .agg [bl b5_0, i64 b5_1, i64 b5_2, i64 b5_3, i64 b5_4, .sl false 6 b5_5.length ((eSol false).f b5_5)], .agg [bl v9.inn, i64 v9.pl.A, i64 v9.pl.B, i64 v9.pl.C, i64 v9.pl.D, .sl true 6 v9.kids.length ((eSol true).f v9.kids)]] [.agg [i64 b5_1, i64 b5_2, i64 b5_3, i64 b5_4], .agg [bl b5_0, i64 b5_1, i64 b5_2, i64 b5_3, i64 b5_4, .sl false 6 b5_5.length ((eSol false).f b5_5)], .agg [bl v9.inn, i64 v9.pl.A, i64 v9.pl.B, i64 v9.pl.C, i64 v9.pl.D, .sl false 6 v9.kids.length ((eSol false).f v9.kids)]] from ⟨wkSameU _, wkSameU _, .inr ⟨_, _, rfl, rfl, ⟨.inl rfl, .inl rfl, .inl rfl, .inl rfl, .inl rfl, wkShareC (L := v9.kids) (eSol true) (eSol false) (sSol true), trivial⟩⟩, trivial⟩) (Tspec_l8Node (Y := Y) (Pl.mk b5_1 b5_2 b5_3 b5_4) (Sol.mk b5_0 (Pl.mk b5_1 b5_2 b5_3 b5_4) b5_5) v9 _ hv10)) onil))) onil (by kernel_rfl)
          · refine x_frk 5 [] onil h (by kernel_rfl) (fun h => ?_) (fun h => ?_)
            · replace h := Option.some.inj h; subst h
              exact x_endS 11 [] onil (ocons (len_row (L := []) (eSol true)) onil) (show WkV (.agg [bl b5_0, i64 b5_1, i64 b5_2, i64 b5_3, i64 b5_4, .sl true 6 0 ((eSol true).f [])]) _ from .inl (.inr ⟨_, _, rfl, rfl, ⟨.inl rfl, .inl rfl, .inl rfl, .inl rfl, .inl rfl, wkShareC (L := []) (eSol true) (eSol false) (sSol true), trivial⟩⟩)) (by kernel_rfl)
            · replace h := Option.some.inj h; subst h
              exact x_endS 7 [] onil onil (show WkV (.agg [bl b5_0, i64 b5_1, i64 b5_2, i64 b5_3, i64 b5_4, .sl true 6 b5_5.length ((eSol true).f b5_5)]) _ from .inl (.inr ⟨_, _, rfl, rfl, ⟨.inl rfl, .inl rfl, .inl rfl, .inl rfl, .inl rfl, wkShareC (L := b5_5) (eSol true) (eSol false) (sSol true), trivial⟩⟩)) (by kernel_rfl)
def Dspec_l8Bend_3 (n : Nat) (self : (((List Int) × Int × Int) × Sol) → Option (Sol × ((List Int) × Int × Int))) (b4_0 : Bool) (b4_1 b4_2 b4_3 b4_4 : Int) (b5_0 : Bool) (b5_1 b5_2 b5_3 b5_4 : Int) (b5_5 : List Sol) (b1000_0 : List Int) (b1000_1 b1000_2 : Int) : Option (Sol × ((List Int) × Int × Int)) :=
  (Dspec_l1Below (b1000_0, b1000_1, b1000_2) 6).bind fun v11 => frk (v11.1 == 0) (some ((Sol.mk (!b5_0) (Pl.mk b5_1 b5_2 b5_3 b5_4) b5_5), v11.2)) (frk (v11.1 == 1) ((Dspec_l3DrawAny n v11.2).bind fun v12 => some ((Sol.mk b5_0 v12.1 b5_5), v12.2)) (frk (v11.1 == 2) (Dspec_l8Bend_2 n self b4_0 b4_1 b4_2 b4_3 b4_4 b5_0 b5_1 b5_2 b5_3 b5_4 b5_5 v11.2.1 v11.2.2.1 v11.2.2.2) (frk (v11.1 == 3) ((Dspec_Leaf true).bind fun v13 => (Dspec_l8Node (Pl.mk b5_1 b5_2 b5_3 b5_4) (Sol.mk b5_0 (Pl.mk b5_1 b5_2 b5_3 b5_4) b5_5) v13).bind fun v14 => some (v14, v11.2)) (frk (v11.1 == 4) (some ((Sol.mk b5_0 (Pl.mk b5_1 b5_2 b5_3 b5_4) []), v11.2)) (some ((Sol.mk b5_0 (Pl.mk b5_1 b5_2 b5_3 b5_4) b5_5), v11.2))))))
theorem Tspec_l8Bend_3 {Y} (n : Nat) (self : (((List Int) × Int × Int) × Sol) → Option (Sol × ((List Int) × Int × Int))) (hself : ∀ (a : (((List Int) × Int × Int) × Sol)) (r : (Sol × ((List Int) × Int × Int))), self a = some r → Big Tryz.prog H Y (.call 130 [.ptr 1000 0, .agg [bl a.2.inn, i64 a.2.pl.A, i64 a.2.pl.B, i64 a.2.pl.C, i64 a.2.pl.D, .sl false 6 a.2.kids.length ((eSol false).f a.2.kids)]] (lk [(1000, ⟨true, 0, [.sl false 1 a.1.1.length ((eU8).f a.1.1), i64 a.1.2.1, i64 a.1.2.2]⟩)]) (.agg [bl r.1.inn, i64 r.1.pl.A, i64 r.1.pl.B, i64 r.1.pl.C, i64 r.1.pl.D, .sl false 6 r.1.kids.length ((eSol false).f r.1.kids)]) (lk [(1000, ⟨true, 0, [.sl false 1 r.2.1.length ((eU8).f r.2.1), i64 r.2.2.1, i64 r.2.2.2]⟩)]))) (b4_0 : Bool) (b4_1 b4_2 b4_3 b4_4 : Int) (b5_0 : Bool) (b5_1 b5_2 b5_3 b5_4 : Int) (b5_5 : List Sol) (b1000_0 : List Int) (b1000_1 b1000_2 : Int) (r : (Sol × ((List Int) × Int × Int))) (h : Dspec_l8Bend_3 n self b4_0 b4_1 b4_2 b4_3 b4_4 b5_0 b5_1 b5_2 b5_3 b5_4 b5_5 b1000_0 b1000_1 b1000_2 = some r) : Wk Tryz.prog H Y 130 [.code (cp [1, 1, 1, 0, 0] (bodyOf Tryz.f130)), .code (cp [1, 1, 1, 0, 1] (bodyOf Tryz.f130)), .code (cp [1, 1, 1, 1] (bodyOf Tryz.f130))] (FinX Tryz.prog Tryz.f130 [(1000, ⟨true, 0, [.bad, .bad, .bad]⟩)] (.agg [bl r.1.inn, i64 r.1.pl.A, i64 r.1.pl.B, i64 r.1.pl.C, i64 r.1.pl.D, .sl false 6 r.1.kids.length ((eSol false).f r.1.kids)]) [(1000, ⟨true, 0, [.sl false 1 r.2.1.length ((eU8).f r.2.1), i64 r.2.2.1, i64 r.2.2.2]⟩)]) ⟨[(0, .ptr 1000 0), (4, .ptr 4 0), (5, .ptr 5 0)], [(4, ⟨true, 0, [bl b4_0, i64 b4_1, i64 b4_2, i64 b4_3, i64 b4_4, .nil]⟩), (5, ⟨true, 0, [bl b5_0, i64 b5_1, i64 b5_2, i64 b5_3, i64 b5_4, .sl true 6 b5_5.length ((eSol true).f b5_5)]⟩), (1000, ⟨true, 0, [.sl false 1 b1000_0.length ((eU8).f b1000_0), i64 b1000_1, i64 b1000_2]⟩)]⟩ := by
  unfold Dspec_l8Bend_3 at h
  obtain ⟨v11, hv11, h⟩ := bind_some h
  refine x_frk 10 [(1, .call [] [] (i64 v11.1) [(1000, ⟨true, 0, [.sl false 1 v11.2.1.length ((eU8).f v11.2.1), i64 v11.2.2.1, i64 v11.2.2.2]⟩)])] (ocons (Tspec_l1Below (Y := Y) (b1000_0, b1000_1, b1000_2) 6 _ hv11) onil) h (by kernel_rfl) (fun h => ?_) (fun h => ?_)
  · replace h := Option.some.inj h; subst h
    exact x_endS 13 [] onil onil (show WkV (.agg [bl (!b5_0), i64 b5_1, i64 b5_2, i64 b5_3, i64 b5_4, .sl true 6 b5_5.length ((eSol true).f b5_5)]) _ from .inl (.inr ⟨_, _, rfl, rfl, ⟨.inl rfl, .inl rfl, .inl rfl, .inl rfl, .inl rfl, wkShareC (L := b5_5) (eSol true) (eSol false) (sSol true), trivial⟩⟩)) (by kernel_rfl)
  · refine x_frk 5 [] onil h (by kernel_rfl) (fun h => ?_) (fun h => ?_)
    · obtain ⟨v12, hv12, h⟩ := bind_some h
      replace h := Option.some.inj h; subst h
      exact x_endS 12 [(1, .call [] [] (.agg [i64 v12.1.A, i64 v12.1.B, i64 v12.1.C, i64 v12.1.D]) [(1000, ⟨true, 0, [.sl false 1 v12.2.1.length ((eU8).f v12.2.1), i64 v12.2.2.1, i64 v12.2.2.2]⟩)])] (ocons (Tspec_l3DrawAny (Y := Y) n v11.2 _ hv12) onil) onil (show WkV (.agg [bl b5_0, i64 v12.1.A, i64 v12.1.B, i64 v12.1.C, i64 v12.1.D, .sl true 6 b5_5.length ((eSol true).f b5_5)]) _ from .inl (.inr ⟨_, _, rfl, rfl, ⟨.inl rfl, .inl rfl, .inl rfl, .inl rfl, .inl rfl, wkShareC (L := b5_5) (eSol true) (eSol false) (sSol true), trivial⟩⟩)) (by kernel_rfl)
    · refine x_frk 5 [] onil h (by kernel_rfl) (fun h => ?_) (fun h => ?_)
      · exact x_to 0 [] onil (Tspec_l8Bend_2 n self hself b4_0 b4_1 b4_2 b4_3 b4_4 b5_0 b5_1 b5_2 b5_3 b5_4 b5_5 v11.2.1 v11.2.2.1 v11.2.2.2 r h) (by kernel_rfl)
      · refine x_frk 5 [] onil h (by kernel_rfl) (fun h => ?_) (fun h => ?_)
        · obtain ⟨v13, hv13, h⟩ := bind_some h
          obtain ⟨v14, hv14, h⟩ := bind_some h
          replace h := Option.some.inj h; subst h
          exact x_end 14 [(2, .rows [(eSol false).f b5_5]), (0, .call [] [] (.agg [bl v13.inn, i64 v13.pl.A, i64 v13.pl.B, i64 v13.pl.C, i64 v13.pl.D, .sl true 6 v13.kids.length ((eSol true).f v13.kids)]) []), (0, .call [] [] (.agg [bl v14.inn, i64 v14.pl.A, i64 v14.pl.B, i64 v14.pl.C, i64 v14.pl.D, .sl false 6 v14.kids.length ((eSol false).f v14.kids)]) [])] [] (ocons (Enc.share (eSol true) (eSol false) (sSol true) b5_5) (ocons (Tspec_Leaf (Y := Y) true _ hv13) (ocons (Big.wka (show WkT [.agg [i64 b5_1, i64 b5_2, i64 b5_3, i64 b5_4], .agg [bl b5_0, i64 b5_1, i64 b5_2, i64 b5_3, i64 b5_4, .sl false 6 b5_5.length ((eSol false).f b5_5)], .agg [bl v13.inn, i64 v13.pl.A, i64 v13.pl.B, i64 v13.pl.C, i64 v13.pl.D, .sl true 6 v13.kids.length ((eSol true).f v13.kids)]] [.agg [i64 b5_1, i64 b5_2, i64 b5_3, i64 b5_4], .agg [bl b5_0, i64 b5_1, i64 b5_2, i64 b5_3, i64 b5_4, .sl false 6 b5_5.length ((eSol false).f b5_5)], .agg [bl v13.inn, i64 v13.pl.A, i64 v13.pl.B, i64 v13.pl.C, i64 v13.pl.D, .sl false 6 v13.kids.length ((eSol false).f v13.kids)]] from ⟨wkSameU _, wkSameU _, .inr ⟨_, _, rfl, rfl, ⟨.inl rfl, .inl rfl, .inl rfl, .inl rfl, .inl rfl, wkShareC (L := v13.kids) (eSol true) (eSol false) (sSol true), trivial⟩⟩, trivial⟩) (Tspec_l8Node (Y := Y) (Pl.mk b5_1 b5_2 b5_3 b5_4) (Sol.mk b5_0 (Pl.mk b5_1 b5_2 b5_3 b5_4) b5_5) v13 _ hv14)) onil))) onil (by kernel_rfl)
        · refine x_frk 5 [] onil h (by kernel_rfl) (fun h => ?_) (fun h => ?_)
          · replace h := Option.some.inj h; subst h
            exact x_endS 11 [] onil (ocons (len_row (L := []) (eSol true)) onil) (show WkV (.agg [bl b5_0, i64 b5_1, i64 b5_2, i64 b5_3, i64 b5_4, .sl true 6 0 ((eSol true).f [])]) _ from .inl (.inr ⟨_, _, rfl, rfl, ⟨.inl rfl, .inl rfl, .inl rfl, .inl rfl, .inl rfl, wkShareC (L := []) (eSol true) (eSol false) (sSol true), trivial⟩⟩)) (by kernel_rfl)
          · replace h := Option.some.inj h; subst h
            exact x_endS 7 [] onil onil (show WkV (.agg [bl b5_0, i64 b5_1, i64 b5_2, i64 b5_3, i64 b5_4, .sl true 6 b5_5.length ((eSol true).f b5_5)]) _ from .inl (.inr ⟨_, _, rfl, rfl, ⟨.inl rfl, .inl rfl, .inl rfl, .inl rfl, .inl rfl, wkShareC (L := b5_5) (eSol true) (eSol false) (sSol true), trivial⟩⟩)) (by kernel_rfl)
def Dspec_l8Bend_b (n : Nat) (self : (((List Int) × Int × Int) × Sol) → Option (Sol × ((List Int) × Int × Int))) (a : (((List Int) × Int × Int) × Sol)) : Option (Sol × ((List Int) × Int × Int)) :=
  match a with
  | (a0, a1) => (Dspec_l8Copy n a1).bind fun v0 => frk ((v0.kids.length : Int) == 2) ((Dspec_l1Once a0 2).bind fun v1 => Dspec_l8Bend_0 n self v1.1 false 0 0 0 0 v0.inn v0.pl.A v0.pl.B v0.pl.C v0.pl.D v0.kids v1.2.1 v1.2.2.1 v1.2.2.2) (Dspec_l8Bend_3 n self false 0 0 0 0 v0.inn v0.pl.A v0.pl.B v0.pl.C v0.pl.D v0.kids a0.1 a0.2.1 a0.2.2)
def Dspec_l8Bend (n : Nat) (a0 : ((List Int) × Int × Int)) (a1 : Sol) : Option (Sol × ((List Int) × Int × Int)) := loopN (Dspec_l8Bend_b n) n (a0, a1)
theorem Tspec_l8Bend_b {Y} (n : Nat) : ∀ (m : Nat) (a : (((List Int) × Int × Int) × Sol)) (r : (Sol × ((List Int) × Int × Int))), loopN (Dspec_l8Bend_b n) m a = some r → ∀ (_ : Unit), Big Tryz.prog H Y (.call 130 [.ptr 1000 0, .agg [bl a.2.inn, i64 a.2.pl.A, i64 a.2.pl.B, i64 a.2.pl.C, i64 a.2.pl.D, .sl false 6 a.2.kids.length ((eSol false).f a.2.kids)]] (lk [(1000, ⟨true, 0, [.sl false 1 a.1.1.length ((eU8).f a.1.1), i64 a.1.2.1, i64 a.1.2.2]⟩)]) (.agg [bl r.1.inn, i64 r.1.pl.A, i64 r.1.pl.B, i64 r.1.pl.C, i64 r.1.pl.D, .sl false 6 r.1.kids.length ((eSol false).f r.1.kids)]) (lk [(1000, ⟨true, 0, [.sl false 1 r.2.1.length ((eU8).f r.2.1), i64 r.2.2.1, i64 r.2.2.2]⟩)])) := by
  refine loopN_ind (fun self hs a r h => ?_)
  have hself : ∀ (a : (((List Int) × Int × Int) × Sol)) (r : (Sol × ((List Int) × Int × Int))), self a = some r → Big Tryz.prog H Y (.call 130 [.ptr 1000 0, .agg [bl a.2.inn, i64 a.2.pl.A, i64 a.2.pl.B, i64 a.2.pl.C, i64 a.2.pl.D, .sl false 6 a.2.kids.length ((eSol false).f a.2.kids)]] (lk [(1000, ⟨true, 0, [.sl false 1 a.1.1.length ((eU8).f a.1.1), i64 a.1.2.1, i64 a.1.2.2]⟩)]) (.agg [bl r.1.inn, i64 r.1.pl.A, i64 r.1.pl.B, i64 r.1.pl.C, i64 r.1.pl.D, .sl false 6 r.1.kids.length ((eSol false).f r.1.kids)]) (lk [(1000, ⟨true, 0, [.sl false 1 r.2.1.length ((eU8).f r.2.1), i64 r.2.2.1, i64 r.2.2.2]⟩)])) := fun a r h => hs a r h ()
  intro _
  obtain ⟨a0, a1⟩ := a
  unfold Dspec_l8Bend_b at h
  refine x_call (fn := Tryz.f130) (c := bodyOf Tryz.f130) (bs0 := [(1000, ⟨true, 0, [.bad, .bad, .bad]⟩)]) Tryz.func130 (by kernel_rfl) (by kernel_rfl) ?_
  obtain ⟨v0, hv0, h⟩ := bind_some h
  refine x_frk 20 [(3, .call [] [] (.agg [bl v0.inn, i64 v0.pl.A, i64 v0.pl.B, i64 v0.pl.C, i64 v0.pl.D, .sl true 6 v0.kids.length ((eSol true).f v0.kids)]) []), (3, .rows [(eSol false).f v0.kids])] (ocons (Tspec_l8Copy (Y := Y) n a1 _ hv0) (ocons (Enc.share (eSol true) (eSol false) (sSol true) v0.kids) onil)) h (by kernel_rfl) (fun h => ?_) (fun h => ?_)
  · obtain ⟨v1, hv1, h⟩ := bind_some h
    exact x_to 4 [(1, .call [] [] (bl v1.1) [(1000, ⟨true, 0, [.sl false 1 v1.2.1.length ((eU8).f v1.2.1), i64 v1.2.2.1, i64 v1.2.2.2]⟩)])] (ocons (Tspec_l1Once (Y := Y) a0 2 _ hv1) onil) (Tspec_l8Bend_0 n self hself v1.1 false 0 0 0 0 v0.inn v0.pl.A v0.pl.B v0.pl.C v0.pl.D v0.kids v1.2.1 v1.2.2.1 v1.2.2.2 r h) (by kernel_rfl)
  · exact x_to 8 [] onil (Tspec_l8Bend_3 n self hself false 0 0 0 0 v0.inn v0.pl.A v0.pl.B v0.pl.C v0.pl.D v0.kids a0.1 a0.2.1 a0.2.2 r h) (by kernel_rfl)
theorem Tspec_l8Bend {Y} (n : Nat) (a0 : ((List Int) × Int × Int)) (a1 : Sol) (r : (Sol × ((List Int) × Int × Int))) (h : Dspec_l8Bend n a0 a1 = some r) : Big Tryz.prog H Y (.call 130 [.ptr 1000 0, .agg [bl a1.inn, i64 a1.pl.A, i64 a1.pl.B, i64 a1.pl.C, i64 a1.pl.D, .sl false 6 a1.kids.length ((eSol false).f a1.kids)]] (lk [(1000, ⟨true, 0, [.sl false 1 a0.1.length ((eU8).f a0.1), i64 a0.2.1, i64 a0.2.2]⟩)]) (.agg [bl r.1.inn, i64 r.1.pl.A, i64 r.1.pl.B, i64 r.1.pl.C, i64 r.1.pl.D, .sl false 6 r.1.kids.length ((eSol false).f r.1.kids)]) (lk [(1000, ⟨true, 0, [.sl false 1 r.2.1.length ((eU8).f r.2.1), i64 r.2.2.1, i64 r.2.2.2]⟩)])) := Tspec_l8Bend_b n n (a0, a1) r h ()
/-! spec.l8DrawAny -/
def Dspec_l8DrawAny_0 (n : Nat) (_b4_0 : Bool) (_b4_1 _b4_2 _b4_3 _b4_4 : Int) (b5_0 : Bool) (b5_1 b5_2 b5_3 b5_4 : Int) (b5_5 : List Sol) (b1000_0 : List Int) (b1000_1 b1000_2 : Int) : Option (Sol × ((List Int) × Int × Int)) :=
  (Dspec_l1Once (b1000_0, b1000_1, b1000_2) 10).bind fun v5 => frk v5.1 ((Dspec_l8Bend n v5.2 (Sol.mk b5_0 (Pl.mk b5_1 b5_2 b5_3 b5_4) b5_5)).bind fun v6 => some v6) (some ((Sol.mk b5_0 (Pl.mk b5_1 b5_2 b5_3 b5_4) b5_5), v5.2))
theorem Tspec_l8DrawAny_0 {Y} (n : Nat) (b4_0 : Bool) (b4_1 b4_2 b4_3 b4_4 : Int) (b5_0 : Bool) (b5_1 b5_2 b5_3 b5_4 : Int) (b5_5 : List Sol) (b1000_0 : List Int) (b1000_1 b1000_2 : Int) (r : (Sol × ((List Int) × Int × Int))) (h : Dspec_l8DrawAny_0 n b4_0 b4_1 b4_2 b4_3 b4_4 b5_0 b5_1 b5_2 b5_3 b5_4 b5_5 b1000_0 b1000_1 b1000_2 = some r) : Wk Tryz.prog H Y 62 [.code (cp [1, 1, 1, 0, 0] (bodyOf Tryz.f62)), .code (cp [1, 1, 1, 0, 1] (bodyOf Tryz.f62)), .code (cp [1, 1, 1, 1] (bodyOf Tryz.f62))] (FinX Tryz.prog Tryz.f62 [(1000, ⟨true, 0, [.bad, .bad, .bad]⟩)] (.agg [bl r.1.inn, i64 r.1.pl.A, i64 r.1.pl.B, i64 r.1.pl.C, i64 r.1.pl.D, .sl false 6 r.1.kids.length ((eSol false).f r.1.kids)]) [(1000, ⟨true, 0, [.sl false 1 r.2.1.length ((eU8).f r.2.1), i64 r.2.2.1, i64 r.2.2.2]⟩)]) ⟨[(0, .ptr 1000 0), (4, .ptr 4 0), (5, .ptr 5 0)], [(4, ⟨true, 0, [bl b4_0, i64 b4_1, i64 b4_2, i64 b4_3, i64 b4_4, .nil]⟩), (5, ⟨true, 0, [bl b5_0, i64 b5_1, i64 b5_2, i64 b5_3, i64 b5_4, .sl true 6 b5_5.length ((eSol true).f b5_5)]⟩), (1000, ⟨true, 0, [.sl false 1 b1000_0.length ((eU8).f b1000_0), i64 b1000_1, i64 b1000_2]⟩)]⟩ := by
  unfold Dspec_l8DrawAny_0 at h
  obtain ⟨v5, hv5, h⟩ := bind_some h
  refine x_frk 4 [(1, .call [] [] (bl v5.1) [(1000, ⟨true, 0, [.sl false 1 v5.2.1.length ((eU8).f v5.2.1), i64 v5.2.2.1, i64 v5.2.2.2]⟩)])] (ocons (Tspec_l1Once (Y := Y) (b1000_0, b1000_1, b1000_2) 10 _ hv5) onil) h (by kernel_rfl) (fun h => ?_) (fun h => ?_)
  · obtain ⟨v6, hv6, h⟩ := bind_some h
    replace h := Option.some.inj h; subst h
    exact x_end 12 [(0, .wkb 5 ⟨true, 0, [bl b5_0, i64 b5_1, i64 b5_2, i64 b5_3, i64 b5_4, .sl true 6 b5_5.length ((eSol true).f b5_5)]⟩ ⟨true, 0, [bl b5_0, i64 b5_1, i64 b5_2, i64 b5_3, i64 b5_4, .sl false 6 b5_5.length ((eSol false).f b5_5)]⟩), (2, .call [] [] (.agg [bl v6.1.inn, i64 v6.1.pl.A, i64 v6.1.pl.B, i64 v6.1.pl.C, i64 v6.1.pl.D, .sl false 6 v6.1.kids.length ((eSol false).f v6.1.kids)]) [(1000, ⟨true, 0, [.sl false 1 v6.2.1.length ((eU8).f v6.2.1), i64 v6.2.2.1, i64 v6.2.2.2]⟩)])] [] (ocons (rflB ⟨true, 0, [bl b5_0, i64 b5_1, i64 b5_2, i64 b5_3, i64 b5_4, .sl true 6 b5_5.length ((eSol true).f b5_5)]⟩) (ocons (show WkB ⟨true, 0, [bl b5_0, i64 b5_1, i64 b5_2, i64 b5_3, i64 b5_4, .sl true 6 b5_5.length ((eSol true).f b5_5)]⟩ ⟨true, 0, [bl b5_0, i64 b5_1, i64 b5_2, i64 b5_3, i64 b5_4, .sl false 6 b5_5.length ((eSol false).f b5_5)]⟩ from ⟨rfl, rfl, ⟨.inl rfl, .inl rfl, .inl rfl, .inl rfl, .inl rfl, wkShareC (L := b5_5) (eSol true) (eSol false) (sSol true), trivial⟩⟩) (ocons (Tspec_l8Bend (Y := Y) n v5.2 (Sol.mk b5_0 (Pl.mk b5_1 b5_2 b5_3 b5_4) b5_5) _ hv6) onil))) onil (by kernel_rfl)
  · replace h := Option.some.inj h; subst h
    exact x_endS 6 [] onil onil (show WkV (.agg [bl b5_0, i64 b5_1, i64 b5_2, i64 b5_3, i64 b5_4, .sl true 6 b5_5.length ((eSol true).f b5_5)]) _ from .inl (.inr ⟨_, _, rfl, rfl, ⟨.inl rfl, .inl rfl, .inl rfl, .inl rfl, .inl rfl, wkShareC (L := b5_5) (eSol true) (eSol false) (sSol true), trivial⟩⟩)) (by kernel_rfl)
def Dspec_l8DrawAny (n : Nat) (a0 : ((List Int) × Int × Int)) (a1 : Int) : Option (Sol × ((List Int) × Int × Int)) :=
  (Dspec_l1Below a0 a1).bind fun v0 => (Dspec_l8Grow n v0.2 [] (w64 (1 + v0.1))).bind fun v1 => (Dspec_l1Once v1.2 4).bind fun v2 => frk v2.1 ((Dspec_l6Cell n v2.2 3).bind fun v3 => (Dspec_Convex n v3.1).bind fun v4 => Dspec_l8DrawAny_0 n false 0 0 0 0 v4.1.inn v4.1.pl.A v4.1.pl.B v4.1.pl.C v4.1.pl.D v4.1.kids v3.2.1 v3.2.2.1 v3.2.2.2) (Dspec_l8DrawAny_0 n false 0 0 0 0 v1.1.inn v1.1.pl.A v1.1.pl.B v1.1.pl.C v1.1.pl.D v1.1.kids v2.2.1 v2.2.2.1 v2.2.2.2)
theorem Tspec_l8DrawAny {Y} (n : Nat) (a0 : ((List Int) × Int × Int)) (a1 : Int) (r : (Sol × ((List Int) × Int × Int))) (h : Dspec_l8DrawAny n a0 a1 = some r) : Big Tryz.prog H Y (.call 62 [.ptr 1000 0, i64 a1] (lk [(1000, ⟨true, 0, [.sl false 1 a0.1.length ((eU8).f a0.1), i64 a0.2.1, i64 a0.2.2]⟩)]) (.agg [bl r.1.inn, i64 r.1.pl.A, i64 r.1.pl.B, i64 r.1.pl.C, i64 r.1.pl.D, .sl false 6 r.1.kids.length ((eSol false).f r.1.kids)]) (lk [(1000, ⟨true, 0, [.sl false 1 r.2.1.length ((eU8).f r.2.1), i64 r.2.2.1, i64 r.2.2.2]⟩)])) := by
  unfold Dspec_l8DrawAny at h
  refine x_call (fn := Tryz.f62) (c := bodyOf Tryz.f62) (bs0 := [(1000, ⟨true, 0, [.bad, .bad, .bad]⟩)]) Tryz.func62 (by kernel_rfl) (by kernel_rfl) ?_
  obtain ⟨v0, hv0, h⟩ := bind_some h
  obtain ⟨v1, hv1, h⟩ := bind_some h
  obtain ⟨v2, hv2, h⟩ := bind_some h
  refine x_frk 22 [(5, .call [] [] (i64 v0.1) [(1000, ⟨true, 0, [.sl false 1 v0.2.1.length ((eU8).f v0.2.1), i64 v0.2.2.1, i64 v0.2.2.2]⟩)]), (1, .call [] [] (.agg [bl v1.1.inn, i64 v1.1.pl.A, i64 v1.1.pl.B, i64 v1.1.pl.C, i64 v1.1.pl.D, .sl true 6 v1.1.kids.length ((eSol true).f v1.1.kids)]) [(1000, ⟨true, 0, [.sl false 1 v1.2.1.length ((eU8).f v1.2.1), i64 v1.2.2.1, i64 v1.2.2.2]⟩)]), (3, .call [] [] (bl v2.1) [(1000, ⟨true, 0, [.sl false 1 v2.2.1.length ((eU8).f v2.2.1), i64 v2.2.2.1, i64 v2.2.2.2]⟩)])] (ocons (Tspec_l1Below (Y := Y) a0 a1 _ hv0) (ocons (Big.wka (show WkT [.ptr 1000 0, .sl true 4 0 ((ePl).f []), i64 (w64 (1 + v0.1))] [.ptr 1000 0, .sl false 4 0 ((ePl).f []), i64 (w64 (1 + v0.1))] from ⟨wkSameU _, wkShareU (L := []) ePl ePl sPl, wkSameU _, trivial⟩) (Tspec_l8Grow (Y := Y) n v0.2 [] (w64 (1 + v0.1)) _ hv1)) (ocons (len_row (L := []) ePl) (ocons (Tspec_l1Once (Y := Y) v1.2 4 _ hv2) onil)))) h (by kernel_rfl) (fun h => ?_) (fun h => ?_)
  · obtain ⟨v3, hv3, h⟩ := bind_some h
    obtain ⟨v4, hv4, h⟩ := bind_some h
    exact x_to 11 [(1, .call [] [] (.sl false 4 v3.1.length ((ePl).f v3.1)) [(1000, ⟨true, 0, [.sl false 1 v3.2.1.length ((eU8).f v3.2.1), i64 v3.2.2.1, i64 v3.2.2.2]⟩)]), (0, .call [] [] (.tup [.agg [bl v4.1.inn, i64 v4.1.pl.A, i64 v4.1.pl.B, i64 v4.1.pl.C, i64 v4.1.pl.D, .sl true 6 v4.1.kids.length ((eSol true).f v4.1.kids)], i64 v4.2]) [])] (ocons (shSl (L := v3.1) ePl ePl sPl (Tspec_l6Cell (Y := Y) n v2.2 3 _ hv3)) (ocons (Tspec_Convex (Y := Y) n v3.1 _ hv4) onil)) (Tspec_l8DrawAny_0 n false 0 0 0 0 v4.1.inn v4.1.pl.A v4.1.pl.B v4.1.pl.C v4.1.pl.D v4.1.kids v3.2.1 v3.2.2.1 v3.2.2.2 r h) (by kernel_rfl)
  · exact x_to 3 [] onil (Tspec_l8DrawAny_0 n false 0 0 0 0 v1.1.inn v1.1.pl.A v1.1.pl.B v1.1.pl.C v1.1.pl.D v1.1.kids v2.2.1 v2.2.2.1 v2.2.2.2 r h) (by kernel_rfl)
/-! spec.DrawTurnSolid -/
def Dspec_DrawTurnSolid (n : Nat) (a0 : (List Int)) : Option (Sol × Int × Int) :=
  (Dspec_l1New n a0).bind fun v0 => (Dspec_l8DrawAny n v0 5).bind fun v1 => (Dspec_l1Int v1.2 [0, 1, 2, 0, 1, 2, (-1), 3]).bind fun v2 => (Dspec_l1Int v2.2 [1, 2, 3, 0, (-1), 9223372036854775807, (-9223372036854775808)]).bind fun v3 => some (v1.1, v2.1, v3.1)
theorem Tspec_DrawTurnSolid {Y} (n : Nat) (a0 : (List Int)) (r : (Sol × Int × Int)) (h : Dspec_DrawTurnSolid n a0 = some r) : Big Tryz.prog H Y (.call 12 [.sl false 1 a0.length ((eU8).f a0)] (lk []) (.tup [.agg [bl r.1.inn, i64 r.1.pl.A, i64 r.1.pl.B, i64 r.1.pl.C, i64 r.1.pl.D, .sl false 6 r.1.kids.length ((eSol false).f r.1.kids)], i64 r.2.1, i64 r.2.2]) (lk [])) := by
  unfold Dspec_DrawTurnSolid at h
  refine x_call (fn := Tryz.f12) (c := bodyOf Tryz.f12) (bs0 := []) Tryz.func12 (by kernel_rfl) (by kernel_rfl) ?_
  obtain ⟨v0, hv0, h⟩ := bind_some h
  obtain ⟨v1, hv1, h⟩ := bind_some h
  obtain ⟨v2, hv2, h⟩ := bind_some h
  obtain ⟨v3, hv3, h⟩ := bind_some h
  replace h := Option.some.inj h; subst h
  exact x_end 26 [(4, .call [] [] (.nbx [.sl false 1 v0.1.length ((eU8).f v0.1), i64 v0.2.1, i64 v0.2.2]) []), (2, .call [] [] (.agg [bl v1.1.inn, i64 v1.1.pl.A, i64 v1.1.pl.B, i64 v1.1.pl.C, i64 v1.1.pl.D, .sl false 6 v1.1.kids.length ((eSol false).f v1.1.kids)]) [(1000, ⟨true, 0, [.sl false 1 v1.2.1.length ((eU8).f v1.2.1), i64 v1.2.2.1, i64 v1.2.2.2]⟩)]), (2, .call [] [] (i64 v2.1) [(1000, ⟨true, 0, [.sl false 1 v2.2.1.length ((eU8).f v2.2.1), i64 v2.2.2.1, i64 v2.2.2.2]⟩)]), (2, .call [] [] (i64 v3.1) [(1000, ⟨true, 0, [.sl false 1 v3.2.1.length ((eU8).f v3.2.1), i64 v3.2.2.1, i64 v3.2.2.2]⟩)])] [] (ocons (Tspec_l1New (Y := Y) n a0 _ hv0) (ocons (Tspec_l8DrawAny (Y := Y) n v0 5 _ hv1) (ocons (Big.wka (show WkT [.ptr 1000 0, .sl true 1 8 ((eInt).f [0, 1, 2, 0, 1, 2, (-1), 3])] [.ptr 1000 0, .sl false 1 8 ((eInt).f [0, 1, 2, 0, 1, 2, (-1), 3])] from ⟨wkSameU _, wkShareU (L := [0, 1, 2, 0, 1, 2, (-1), 3]) eInt eInt sInt, trivial⟩) (Tspec_l1Int (Y := Y) v1.2 [0, 1, 2, 0, 1, 2, (-1), 3] _ hv2)) (ocons (len_row (L := [0, 1, 2, 0, 1, 2, (-1), 3]) eInt) (ocons (Big.wka (show WkT [.ptr 1000 0, .sl true 1 7 ((eInt).f [1, 2, 3, 0, (-1), 9223372036854775807, (-9223372036854775808)])] [.ptr 1000 0, .sl false 1 7 ((eInt).f [1, 2, 3, 0, (-1), 9223372036854775807, (-9223372036854775808)])] from ⟨wkSameU _, wkShareU (L := [1, 2, 3, 0, (-1), 9223372036854775807, (-9223372036854775808)]) eInt eInt sInt, trivial⟩) (Tspec_l1Int (Y := Y) v2.2 [1, 2, 3, 0, (-1), 9223372036854775807, (-9223372036854775808)] _ hv3)) (ocons (len_row (L := [1, 2, 3, 0, (-1), 9223372036854775807, (-9223372036854775808)]) eInt) onil)))))) onil (by kernel_rfl)
/-! impl.inRange -/
def Dimpl_inRange (a0 a1 a2 : Int) : Option Bool :=
  frk (decide (a0 ≥ a1)) (some (decide (a0 ≤ a2))) (some false)
theorem Timpl_inRange {Y} (a0 a1 a2 : Int) (r : Bool) (h : Dimpl_inRange a0 a1 a2 = some r) : Big Tryz.prog H Y (.call 102 [i64 a0, i64 a1, i64 a2] (lk []) (bl r) (lk [])) := by
  unfold Dimpl_inRange at h
  refine x_call (fn := Tryz.f102) (c := bodyOf Tryz.f102) (bs0 := []) Tryz.func102 (by kernel_rfl) (by kernel_rfl) ?_
  refine x_frk 10 [] onil h (by kernel_rfl) (fun h => ?_) (fun h => ?_)
  · replace h := Option.some.inj h; subst h
    exact x_end 6 [] [] onil onil (by kernel_rfl)
  · replace h := Option.some.inj h; subst h
    exact x_end 6 [] [] onil onil (by kernel_rfl)
/-! impl.isAxis -/
def Dimpl_isAxis (a0 : Int) : Option Bool :=
  (Dimpl_inRange a0 0 2).bind fun v0 => some v0
theorem Timpl_isAxis {Y} (a0 : Int) (r : Bool) (h : Dimpl_isAxis a0 = some r) : Big Tryz.prog H Y (.call 64 [i64 a0] (lk []) (bl r) (lk [])) := by
  unfold Dimpl_isAxis at h
  refine x_call (fn := Tryz.f64) (c := bodyOf Tryz.f64) (bs0 := []) Tryz.func64 (by kernel_rfl) (by kernel_rfl) ?_
  obtain ⟨v0, hv0, h⟩ := bind_some h
  replace h := Option.some.inj h; subst h
  exact x_end 10 [(2, .call [] [] (bl v0) [])] [] (ocons (Timpl_inRange (Y := Y) a0 0 2 _ hv0) onil) onil (by kernel_rfl)
/-! impl.copySolid -/
def Dimpl_copySolid_0 (_n : Nat) (self : Sol → Option Sol) (t12 : List Sol) (t13 : Int) (_b2_0 : Bool) (_b2_1 _b2_2 _b2_3 _b2_4 : Int) (b3_0 : Bool) (b3_1 b3_2 b3_3 b3_4 : Int) (rec0 : (Int × List Sol) → Option Sol) (a : (Int × List Sol)) : Option Sol :=
  match a with
  | (t14, l635) => frk (decide (t14 < t13)) ((lget t12 t14).bind fun v0 => (self v0).bind fun v1 => chk (apB 64 (l635.length + 1)) (rec0 (w64 (t14 + 1), (l635 ++ [v1])))) (some (Sol.mk b3_0 (Pl.mk b3_1 b3_2 b3_3 b3_4) l635))
theorem Timpl_copySolid_0 {Y} (n : Nat) (self : Sol → Option Sol) (hself : ∀ (a : Sol) (r : Sol), self a = some r → Big Tryz.prog H Y (.call 65 [.agg [bl a.inn, i64 a.pl.A, i64 a.pl.B, i64 a.pl.C, i64 a.pl.D, .sl false 6 a.kids.length ((eSol false).f a.kids)]] (lk []) (.agg [bl r.inn, i64 r.pl.A, i64 r.pl.B, i64 r.pl.C, i64 r.pl.D, .sl true 6 r.kids.length ((eSol true).f r.kids)]) (lk []))) (t12 : List Sol) (t13 : Int) (b2_0 : Bool) (b2_1 b2_2 b2_3 b2_4 : Int) (b3_0 : Bool) (b3_1 b3_2 b3_3 b3_4 : Int) : ∀ (m : Nat) (a : (Int × List Sol)) (r : Sol), loopN (Dimpl_copySolid_0 n self t12 t13 b2_0 b2_1 b2_2 b2_3 b2_4 b3_0 b3_1 b3_2 b3_3 b3_4) m a = some r → Wk Tryz.prog H Y 65 [.code (cp [1, 1, 0, 1, 0] (bodyOf Tryz.f65)), .blk 0, .code (cp [1, 1, 1] (bodyOf Tryz.f65))] (FinX Tryz.prog Tryz.f65 [] (.agg [bl r.inn, i64 r.pl.A, i64 r.pl.B, i64 r.pl.C, i64 r.pl.D, .sl true 6 r.kids.length ((eSol true).f r.kids)]) []) ⟨[(2, .ptr 2 0), (3, .ptr 3 0), (12, .sl false 6 t12.length ((eSol false).f t12)), (13, i64 t13), (14, i64 a.1)], [(2, ⟨true, 0, [bl b2_0, i64 b2_1, i64 b2_2, i64 b2_3, i64 b2_4, .nil]⟩), (3, ⟨true, 0, [bl b3_0, i64 b3_1, i64 b3_2, i64 b3_3, i64 b3_4, .msl 635 a.2.length]⟩), (635, ⟨true, 6, (eSol true).f a.2⟩)]⟩ := by
  refine loopN_ind (fun _rec0 hrec0 a r h => ?_)
  obtain ⟨t14, l635⟩ := a
  unfold Dimpl_copySolid_0 at h
  refine x_frk 6 [] onil h (by kernel_rfl) (fun h => ?_) (fun h => ?_)
  · obtain ⟨v0, hv0, h⟩ := bind_some h
    obtain ⟨v1, hv1, h⟩ := bind_some h
    obtain ⟨c2, h⟩ := chk_some h
    exact x_to 28 [(0, .val (.cptr ((eSol false).c v0 ++ (eSol false).f ((t12).drop (Int.toNat t14 + 1))))), (6, .call [] [] (.agg [bl v1.inn, i64 v1.pl.A, i64 v1.pl.B, i64 v1.pl.C, i64 v1.pl.D, .sl true 6 v1.kids.length ((eSol true).f v1.kids)]) []), (1, .fixb 22 ⟨true, 6, (eSol true).f [v1]⟩), (0, .app true (List.length (l635 ++ [v1])) ((eSol true).f (l635 ++ [v1]))), (4, .ren 23 635)] (ocons (ix (eSol false) hv0) (ocons (hself v0 _ hv1) (ocons (boxSol true true [v1]) (ocons (len_row' (L := l635) (eSol true)) (ocons (app_one (L := l635) (M := [v1]) (eSol true) c2) (ocons (app_new (L := l635) (M := [v1]) (eSol true)) (ocons (app_m (L := l635) (M := [v1]) (eSol true) rfl) (ocons (len_row' (L := [v1]) (eSol true)) (ocons (show 23 < 1000 ∧ 635 < 1000 by decide) onil))))))))) (hrec0 (w64 (t14 + 1), (l635 ++ [v1])) r h) (by kernel_rfl)
  · replace h := Option.some.inj h; subst h
    exact x_end 6 [] [] onil (ocons (len_row (L := l635) (eSol true)) onil) (by kernel_rfl)
def Dimpl_copySolid_b (n : Nat) (self : Sol → Option Sol) (a : Sol) : Option Sol :=
  match a with
  | a0 => loopN (Dimpl_copySolid_0 n self a0.kids (a0.kids.length : Int) false 0 0 0 0 a0.inn a0.pl.A a0.pl.B a0.pl.C a0.pl.D) n (0, [])
def Dimpl_copySolid (n : Nat) (a0 : Sol) : Option Sol := loopN (Dimpl_copySolid_b n) n a0
theorem Timpl_copySolid_b {Y} (n : Nat) : ∀ (m : Nat) (a : Sol) (r : Sol), loopN (Dimpl_copySolid_b n) m a = some r → ∀ (_ : Unit), Big Tryz.prog H Y (.call 65 [.agg [bl a.inn, i64 a.pl.A, i64 a.pl.B, i64 a.pl.C, i64 a.pl.D, .sl false 6 a.kids.length ((eSol false).f a.kids)]] (lk []) (.agg [bl r.inn, i64 r.pl.A, i64 r.pl.B, i64 r.pl.C, i64 r.pl.D, .sl true 6 r.kids.length ((eSol true).f r.kids)]) (lk [])) := by
  refine loopN_ind (fun self hs a r h => ?_)
  have hself : ∀ (a : Sol) (r : Sol), self a = some r → Big Tryz.prog H Y (.call 65 [.agg [bl a.inn, i64 a.pl.A, i64 a.pl.B, i64 a.pl.C, i64 a.pl.D, .sl false 6 a.kids.length ((eSol false).f a.kids)]] (lk []) (.agg [bl r.inn, i64 r.pl.A, i64 r.pl.B, i64 r.pl.C, i64 r.pl.D, .sl true 6 r.kids.length ((eSol true).f r.kids)]) (lk [])) := fun a r h => hs a r h ()
  intro _
  obtain ⟨a0, rfl⟩ : ∃ x, x = a := ⟨a, rfl⟩
  unfold Dimpl_copySolid_b at h
  refine x_call (fn := Tryz.f65) (c := bodyOf Tryz.f65) (bs0 := []) Tryz.func65 (by kernel_rfl) (by kernel_rfl) ?_
  exact x_to 25 [(9, .virtc 3 ⟨true, 0, [bl a0.inn, i64 a0.pl.A, i64 a0.pl.B, i64 a0.pl.C, i64 a0.pl.D, .nil]⟩ 5 635 6)] (ocons (rflB ⟨true, 0, [bl a0.inn, i64 a0.pl.A, i64 a0.pl.B, i64 a0.pl.C, i64 a0.pl.D, .nil]⟩) (ocons (⟨rfl, rfl, by decide, by decide, by decide⟩ : (⟨true, 0, [bl a0.inn, i64 a0.pl.A, i64 a0.pl.B, i64 a0.pl.C, i64 a0.pl.D, .nil]⟩ : Box).cs[5]? = some .nil ∧ (⟨true, 0, [bl a0.inn, i64 a0.pl.A, i64 a0.pl.B, i64 a0.pl.C, i64 a0.pl.D, .nil]⟩ : Box).sz = 0 ∧ 3 ≠ 635 ∧ 635 < 1000 ∧ 6 ≠ 0) onil)) (Timpl_copySolid_0 n self hself a0.kids (a0.kids.length : Int) false 0 0 0 0 a0.inn a0.pl.A a0.pl.B a0.pl.C a0.pl.D n (0, []) r h) (by kernel_rfl)
theorem Timpl_copySolid {Y} (n : Nat) (a0 : Sol) (r : Sol) (h : Dimpl_copySolid n a0 = some r) : Big Tryz.prog H Y (.call 65 [.agg [bl a0.inn, i64 a0.pl.A, i64 a0.pl.B, i64 a0.pl.C, i64 a0.pl.D, .sl false 6 a0.kids.length ((eSol false).f a0.kids)]] (lk []) (.agg [bl r.inn, i64 r.pl.A, i64 r.pl.B, i64 r.pl.C, i64 r.pl.D, .sl true 6 r.kids.length ((eSol true).f r.kids)]) (lk [])) := Timpl_copySolid_b n n a0 r h ()
/-! impl.Solid).isLeaf -/
def Dimpl_Solid_isLeaf (a0 : Sol) : Option Bool :=
  some ((a0.kids.length : Int) == 0)
theorem Timpl_Solid_isLeaf {Y} (a0 : Sol) (q0 : List AV) (r : Bool) (h : Dimpl_Solid_isLeaf a0 = some r) : Big Tryz.prog H Y (.call 131 [.cptr ([bl a0.inn, i64 a0.pl.A, i64 a0.pl.B, i64 a0.pl.C, i64 a0.pl.D, .sl false 6 a0.kids.length ((eSol false).f a0.kids)] ++ q0)] (lk []) (bl r) (lk [])) := by
  unfold Dimpl_Solid_isLeaf at h
  refine x_call (fn := Tryz.f131) (c := bodyOf Tryz.f131) (bs0 := []) Tryz.func131 (by kernel_rfl) (by kernel_rfl) ?_
  replace h := Option.some.inj h; subst h
  exact x_end 14 [] [] onil onil (by kernel_rfl)
/-! impl.isCoef -/
def Dimpl_isCoef (a0 : Int) : Option Bool :=
  (Dimpl_inRange a0 (-500) 500).bind fun v0 => some v0
theorem Timpl_isCoef {Y} (a0 : Int) (r : Bool) (h : Dimpl_isCoef a0 = some r) : Big Tryz.prog H Y (.call 99 [i64 a0] (lk []) (bl r) (lk [])) := by
  unfold Dimpl_isCoef at h
  refine x_call (fn := Tryz.f99) (c := bodyOf Tryz.f99) (bs0 := []) Tryz.func99 (by kernel_rfl) (by kernel_rfl) ?_
  obtain ⟨v0, hv0, h⟩ := bind_some h
  replace h := Option.some.inj h; subst h
  exact x_end 10 [(2, .call [] [] (bl v0) [])] [] (ocons (Timpl_inRange (Y := Y) a0 (-500) 500 _ hv0) onil) onil (by kernel_rfl)
/-! impl.divisor -/
def Dimpl_divisor_0 (_n : Nat) (rec0 : (Int × Int) → Option Int) (_t6 : List Int) (_t7 t8 : Int) (rec1 : (Int × Int) → Option Int) (a : (Int × Int)) : Option Int :=
  match a with
  | (t3, t5) => frk (t5 != 0) ((rm .i64 t3 t5).bind fun v1 => rec1 (t5, v1)) (rec0 (t3, w64 (t8 + 1)))
theorem Timpl_divisor_0 {Y} (n : Nat) (rec0 : (Int × Int) → Option Int) (t6 : List Int) (t7 : Int) (hrec0 : ∀ (a : (Int × Int)) (r : Int), rec0 a = some r → Wk Tryz.prog H Y 100 [.code (cp [1, 1, 0, 1, 0] (bodyOf Tryz.f100)), .blk 0, .code (cp [1, 1, 1] (bodyOf Tryz.f100))] (FinX Tryz.prog Tryz.f100 [] (i64 r) []) ⟨[(3, i64 a.1), (6, .sl false 1 t6.length ((eInt).f t6)), (7, i64 t7), (8, i64 a.2)], []⟩) (t8 : Int) : ∀ (m : Nat) (a : (Int × Int)) (r : Int), loopN (Dimpl_divisor_0 n rec0 t6 t7 t8) m a = some r → Wk Tryz.prog H Y 100 [.code (cp [1, 1, 0, 1, 0, 0, 1, 1, 0, 0, 1, 1, 0] (bodyOf Tryz.f100)), .blk 2, .blk 1, .code (cp [1, 1, 0, 1, 0, 0, 1, 1, 1] (bodyOf Tryz.f100)), .lp (cp [1, 1, 0, 1, 0] (bodyOf Tryz.f100)), .blk 0, .code (cp [1, 1, 1] (bodyOf Tryz.f100))] (FinX Tryz.prog Tryz.f100 [] (i64 r) []) ⟨[(3, i64 a.1), (5, i64 a.2), (6, .sl false 1 t6.length ((eInt).f t6)), (7, i64 t7), (8, i64 t8)], []⟩ := by
  refine loopN_ind (fun _rec1 hrec1 a r h => ?_)
  obtain ⟨t3, t5⟩ := a
  unfold Dimpl_divisor_0 at h
  refine x_frk 7 [] onil h (by kernel_rfl) (fun h => ?_) (fun h => ?_)
  · obtain ⟨v1, hv1, h⟩ := bind_some h
    exact x_to 12 [(3, .val (i64 v1))] (ocons (rmOk hv1) onil) (hrec1 (t5, v1) r h) (by kernel_rfl)
  · exact x_to 7 [] onil (hrec0 (t3, w64 (t8 + 1)) r h) (by kernel_rfl)
def Dimpl_divisor_1 (n : Nat) (t6 : List Int) (t7 : Int) (rec0 : (Int × Int) → Option Int) (a : (Int × Int)) : Option Int :=
  match a with
  | (t3, t8) => frk (decide (t8 < t7)) ((lget t6 t8).bind fun v0 => loopN (Dimpl_divisor_0 n rec0 t6 t7 t8) n (t3, maxN v0 [w64 (0 - v0)])) (some t3)
theorem Timpl_divisor_1 {Y} (n : Nat) (t6 : List Int) (t7 : Int) : ∀ (m : Nat) (a : (Int × Int)) (r : Int), loopN (Dimpl_divisor_1 n t6 t7) m a = some r → Wk Tryz.prog H Y 100 [.code (cp [1, 1, 0, 1, 0] (bodyOf Tryz.f100)), .blk 0, .code (cp [1, 1, 1] (bodyOf Tryz.f100))] (FinX Tryz.prog Tryz.f100 [] (i64 r) []) ⟨[(3, i64 a.1), (6, .sl false 1 t6.length ((eInt).f t6)), (7, i64 t7), (8, i64 a.2)], []⟩ := by
  refine loopN_ind (fun rec0 hrec0 a r h => ?_)
  obtain ⟨t3, t8⟩ := a
  unfold Dimpl_divisor_1 at h
  refine x_frk 6 [] onil h (by kernel_rfl) (fun h => ?_) (fun h => ?_)
  · obtain ⟨v0, hv0, h⟩ := bind_some h
    exact x_to 18 [(0, .val (.cptr (eInt.c v0 ++ (eInt).f ((t6).drop (Int.toNat t8 + 1))))), (5, .val (.lit (.int .i64 (maxN v0 [w64 (0 - v0)]))))] (ocons (ix eInt hv0) (ocons (maxNok .i64 [w64 (0 - v0)] v0) onil)) (Timpl_divisor_0 n rec0 t6 t7 hrec0 t8 n (t3, maxN v0 [w64 (0 - v0)]) r h) (by kernel_rfl)
  · replace h := Option.some.inj h; subst h
    exact x_end 6 [] [] onil onil (by kernel_rfl)
def Dimpl_divisor (n : Nat) (a0 : (List Int)) : Option Int :=
  loopN (Dimpl_divisor_1 n a0 (a0.length : Int)) n (0, 0)
theorem Timpl_divisor {Y} (n : Nat) (a0 : (List Int)) (r : Int) (h : Dimpl_divisor n a0 = some r) : Big Tryz.prog H Y (.call 100 [.sl false 1 a0.length ((eInt).f a0)] (lk []) (i64 r) (lk [])) := by
  unfold Dimpl_divisor at h
  refine x_call (fn := Tryz.f100) (c := bodyOf Tryz.f100) (bs0 := []) Tryz.func100 (by kernel_rfl) (by kernel_rfl) ?_
  exact x_to 16 [] onil (Timpl_divisor_1 n a0 (a0.length : Int) n (0, 0) r h) (by kernel_rfl)
/-! impl.PlaneOk -/
def Dimpl_PlaneOk_0 (n : Nat) (t24 : Bool) (b1_0 b1_1 b1_2 b1_3 : Int) : Option Bool :=
  frk t24 (some false) (frk (b1_0 != 0) ((Dimpl_divisor n [b1_0, b1_1, b1_2, b1_3]).bind fun v4 => some (v4 == 1)) (frk (b1_1 != 0) ((Dimpl_divisor n [b1_0, b1_1, b1_2, b1_3]).bind fun v5 => some (v5 == 1)) (frk (b1_2 != 0) ((Dimpl_divisor n [b1_0, b1_1, b1_2, b1_3]).bind fun v6 => some (v6 == 1)) (some false))))
theorem Timpl_PlaneOk_0 {Y} (n : Nat) (t24 : Bool) (b1_0 b1_1 b1_2 b1_3 : Int) (r : Bool) (h : Dimpl_PlaneOk_0 n t24 b1_0 b1_1 b1_2 b1_3 = some r) : Wk Tryz.prog H Y 38 [.code (cp [1, 0, 1] (bodyOf Tryz.f38)), .code (cp [1, 1] (bodyOf Tryz.f38))] (FinX Tryz.prog Tryz.f38 [] (bl r) []) ⟨[(1, .ptr 1 0), (24, bl t24)], [(1, ⟨true, 0, [i64 b1_0, i64 b1_1, i64 b1_2, i64 b1_3]⟩)]⟩ := by
  unfold Dimpl_PlaneOk_0 at h
  refine x_frk 0 [] onil h (by kernel_rfl) (fun h => ?_) (fun h => ?_)
  · replace h := Option.some.inj h; subst h
    exact x_end 4 [] [] onil onil (by kernel_rfl)
  · refine x_frk 7 [] onil h (by kernel_rfl) (fun h => ?_) (fun h => ?_)
    · obtain ⟨v4, hv4, h⟩ := bind_some h
      replace h := Option.some.inj h; subst h
      exact x_end 24 [(19, .call [] [(eInt).f [b1_0, b1_1, b1_2, b1_3]] (i64 v4) [])] [] (ocons (Timpl_divisor (Y := Y) n [b1_0, b1_1, b1_2, b1_3] _ hv4) (ocons (len_row (L := [b1_0, b1_1, b1_2, b1_3]) eInt) (ocons (Enc.share eInt eInt sInt [b1_0, b1_1, b1_2, b1_3]) onil))) onil (by kernel_rfl)
    · refine x_frk 5 [] onil h (by kernel_rfl) (fun h => ?_) (fun h => ?_)
      · obtain ⟨v5, hv5, h⟩ := bind_some h
        replace h := Option.some.inj h; subst h
        exact x_end 19 [(14, .call [] [(eInt).f [b1_0, b1_1, b1_2, b1_3]] (i64 v5) [])] [] (ocons (Timpl_divisor (Y := Y) n [b1_0, b1_1, b1_2, b1_3] _ hv5) (ocons (len_row (L := [b1_0, b1_1, b1_2, b1_3]) eInt) (ocons (Enc.share eInt eInt sInt [b1_0, b1_1, b1_2, b1_3]) onil))) onil (by kernel_rfl)
      · refine x_frk 5 [] onil h (by kernel_rfl) (fun h => ?_) (fun h => ?_)
        · obtain ⟨v6, hv6, h⟩ := bind_some h
          replace h := Option.some.inj h; subst h
          exact x_end 14 [(9, .call [] [(eInt).f [b1_0, b1_1, b1_2, b1_3]] (i64 v6) [])] [] (ocons (Timpl_divisor (Y := Y) n [b1_0, b1_1, b1_2, b1_3] _ hv6) (ocons (len_row (L := [b1_0, b1_1, b1_2, b1_3]) eInt) (ocons (Enc.share eInt eInt sInt [b1_0, b1_1, b1_2, b1_3]) onil))) onil (by kernel_rfl)
        · replace h := Option.some.inj h; subst h
          exact x_end 14 [] [] onil onil (by kernel_rfl)
def Dimpl_PlaneOk (n : Nat) (a0 : Pl) : Option Bool :=
  (Dimpl_isCoef a0.A).bind fun v0 => frk (!v0) (some false) ((Dimpl_isCoef a0.B).bind fun v1 => frk (!v1) (some false) ((Dimpl_isCoef a0.C).bind fun v2 => frk (!v2) (some false) ((Dimpl_isCoef a0.D).bind fun v3 => Dimpl_PlaneOk_0 n (!v3) a0.A a0.B a0.C a0.D)))
theorem Timpl_PlaneOk {Y} (n : Nat) (a0 : Pl) (r : Bool) (h : Dimpl_PlaneOk n a0 = some r) : Big Tryz.prog H Y (.call 38 [.agg [i64 a0.A, i64 a0.B, i64 a0.C, i64 a0.D]] (lk []) (bl r) (lk [])) := by
  unfold Dimpl_PlaneOk at h
  refine x_call (fn := Tryz.f38) (c := bodyOf Tryz.f38) (bs0 := []) Tryz.func38 (by kernel_rfl) (by kernel_rfl) ?_
  obtain ⟨v0, hv0, h⟩ := bind_some h
  refine x_frk 13 [(4, .call [] [] (bl v0) [])] (ocons (Timpl_isCoef (Y := Y) a0.A _ hv0) onil) h (by kernel_rfl) (fun h => ?_) (fun h => ?_)
  · replace h := Option.some.inj h; subst h
    exact x_end 23 [] [] onil onil (by kernel_rfl)
  · obtain ⟨v1, hv1, h⟩ := bind_some h
    refine x_frk 6 [(2, .call [] [] (bl v1) [])] (ocons (Timpl_isCoef (Y := Y) a0.B _ hv1) onil) h (by kernel_rfl) (fun h => ?_) (fun h => ?_)
    · replace h := Option.some.inj h; subst h
      exact x_end 17 [] [] onil onil (by kernel_rfl)
    · obtain ⟨v2, hv2, h⟩ := bind_some h
      refine x_frk 6 [(2, .call [] [] (bl v2) [])] (ocons (Timpl_isCoef (Y := Y) a0.C _ hv2) onil) h (by kernel_rfl) (fun h => ?_) (fun h => ?_)
      · replace h := Option.some.inj h; subst h
        exact x_end 11 [] [] onil onil (by kernel_rfl)
      · obtain ⟨v3, hv3, h⟩ := bind_some h
        exact x_to 6 [(2, .call [] [] (bl v3) [])] (ocons (Timpl_isCoef (Y := Y) a0.D _ hv3) onil) (Timpl_PlaneOk_0 n (!v3) a0.A a0.B a0.C a0.D r h) (by kernel_rfl)
/-! impl.flip -/
def Dimpl_flip (a0 : Pl) : Option Pl :=
  some (Pl.mk (w64 (0 - a0.A)) (w64 (0 - a0.B)) (w64 (0 - a0.C)) (w64 (0 - a0.D)))
theorem Timpl_flip {Y} (a0 : Pl) (r : Pl) (h : Dimpl_flip a0 = some r) : Big Tryz.prog H Y (.call 136 [.agg [i64 a0.A, i64 a0.B, i64 a0.C, i64 a0.D]] (lk []) (.agg [i64 r.A, i64 r.B, i64 r.C, i64 r.D]) (lk [])) := by
  unfold Dimpl_flip at h
  refine x_call (fn := Tryz.f136) (c := bodyOf Tryz.f136) (bs0 := []) Tryz.func136 (by kernel_rfl) (by kernel_rfl) ?_
  replace h := Option.some.inj h; subst h
  exact x_end 22 [] [] onil onil (by kernel_rfl)
/-! impl.normal -/
def Dimpl_normal (a0 : Pl) : Option (Int × Int × Int) :=
  some (a0.A, a0.B, a0.C)
theorem Timpl_normal {Y} (a0 : Pl) (r : (Int × Int × Int)) (h : Dimpl_normal a0 = some r) : Big Tryz.prog H Y (.call 69 [.agg [i64 a0.A, i64 a0.B, i64 a0.C, i64 a0.D]] (lk []) (.agg [i64 r.1, i64 r.2.1, i64 r.2.2]) (lk [])) := by
  unfold Dimpl_normal at h
  refine x_call (fn := Tryz.f69) (c := bodyOf Tryz.f69) (bs0 := []) Tryz.func69 (by kernel_rfl) (by kernel_rfl) ?_
  replace h := Option.some.inj h; subst h
  exact x_end 16 [] [] onil onil (by kernel_rfl)
/-! impl.crossOf -/
def Dimpl_crossOf (a0 : (Int × Int × Int)) (a1 : (Int × Int × Int)) : Option (Int × Int × Int) :=
  some (w64 ((w64 (a0.2.1 * a1.2.2)) - (w64 (a0.2.2 * a1.2.1))), w64 ((w64 (a0.2.2 * a1.1)) - (w64 (a0.1 * a1.2.2))), w64 ((w64 (a0.1 * a1.2.1)) - (w64 (a0.2.1 * a1.1))))
theorem Timpl_crossOf {Y} (a0 : (Int × Int × Int)) (a1 : (Int × Int × Int)) (r : (Int × Int × Int)) (h : Dimpl_crossOf a0 a1 = some r) : Big Tryz.prog H Y (.call 202 [.agg [i64 a0.1, i64 a0.2.1, i64 a0.2.2], .agg [i64 a1.1, i64 a1.2.1, i64 a1.2.2]] (lk []) (.agg [i64 r.1, i64 r.2.1, i64 r.2.2]) (lk [])) := by
  unfold Dimpl_crossOf at h
  refine x_call (fn := Tryz.f202) (c := bodyOf Tryz.f202) (bs0 := []) Tryz.func202 (by kernel_rfl) (by kernel_rfl) ?_
  replace h := Option.some.inj h; subst h
  exact x_end 44 [] [] onil onil (by kernel_rfl)
/-! impl.dot -/
def Dimpl_dot (a0 : (Int × Int × Int)) (a1 : (Int × Int × Int)) : Option Int :=
  some (w64 ((w64 ((w64 (a0.1 * a1.1)) + (w64 (a0.2.1 * a1.2.1)))) + (w64 (a0.2.2 * a1.2.2))))
theorem Timpl_dot {Y} (a0 : (Int × Int × Int)) (a1 : (Int × Int × Int)) (r : Int) (h : Dimpl_dot a0 a1 = some r) : Big Tryz.prog H Y (.call 204 [.agg [i64 a0.1, i64 a0.2.1, i64 a0.2.2], .agg [i64 a1.1, i64 a1.2.1, i64 a1.2.2]] (lk []) (i64 r) (lk [])) := by
  unfold Dimpl_dot at h
  refine x_call (fn := Tryz.f204) (c := bodyOf Tryz.f204) (bs0 := []) Tryz.func204 (by kernel_rfl) (by kernel_rfl) ?_
  replace h := Option.some.inj h; subst h
  exact x_end 27 [] [] onil onil (by kernel_rfl)
/-! cmp.isNaN[int] -/
def Dcmp_isNaN (a0 : Int) : Option Bool :=
  some (a0 != a0)
theorem Tcmp_isNaN {Y} (a0 : Int) (r : Bool) (h : Dcmp_isNaN a0 = some r) : Big Tryz.prog H Y (.call 219 [i64 a0] (lk []) (bl r) (lk [])) := by
  unfold Dcmp_isNaN at h
  refine x_call (fn := Tryz.f219) (c := bodyOf Tryz.f219) (bs0 := []) Tryz.func219 (by kernel_rfl) (by kernel_rfl) ?_
  replace h := Option.some.inj h; subst h
  exact x_end 11 [] [] onil onil (by kernel_rfl)
/-! cmp.Compare[int] -/
def Dcmp_Compare (a0 a1 : Int) : Option Int :=
  (Dcmp_isNaN a0).bind fun v0 => (Dcmp_isNaN a1).bind fun v1 => frk v0 (frk v1 (some 0) (some (-1))) (frk v1 (some 1) (frk (decide (a0 < a1)) (some (-1)) (frk (decide (a0 > a1)) (some 1) (some 0))))
theorem Tcmp_Compare {Y} (a0 a1 r : Int) (h : Dcmp_Compare a0 a1 = some r) : Big Tryz.prog H Y (.call 194 [i64 a0, i64 a1] (lk []) (i64 r) (lk [])) := by
  unfold Dcmp_Compare at h
  refine x_call (fn := Tryz.f194) (c := bodyOf Tryz.f194) (bs0 := []) Tryz.func194 (by kernel_rfl) (by kernel_rfl) ?_
  obtain ⟨v0, hv0, h⟩ := bind_some h
  obtain ⟨v1, hv1, h⟩ := bind_some h
  refine x_frk 21 [(2, .call [] [] (bl v0) []), (2, .call [] [] (bl v1) [])] (ocons (Tcmp_isNaN (Y := Y) a0 _ hv0) (ocons (Tcmp_isNaN (Y := Y) a1 _ hv1) onil)) h (by kernel_rfl) (fun h => ?_) (fun h => ?_)
  · refine x_frk 5 [] onil h (by kernel_rfl) (fun h => ?_) (fun h => ?_)
    · replace h := Option.some.inj h; subst h
      exact x_end 4 [] [] onil onil (by kernel_rfl)
    · replace h := Option.some.inj h; subst h
      exact x_end 5 [] [] onil onil (by kernel_rfl)
  · refine x_frk 6 [] onil h (by kernel_rfl) (fun h => ?_) (fun h => ?_)
    · replace h := Option.some.inj h; subst h
      exact x_end 4 [] [] onil onil (by kernel_rfl)
    · refine x_frk 8 [] onil h (by kernel_rfl) (fun h => ?_) (fun h => ?_)
      · replace h := Option.some.inj h; subst h
        exact x_end 4 [] [] onil onil (by kernel_rfl)
      · refine x_frk 8 [] onil h (by kernel_rfl) (fun h => ?_) (fun h => ?_)
        · replace h := Option.some.inj h; subst h
          exact x_end 4 [] [] onil onil (by kernel_rfl)
        · replace h := Option.some.inj h; subst h
          exact x_end 5 [] [] onil onil (by kernel_rfl)
/-! impl.sign -/
def Dimpl_sign (a0 : Int) : Option Int :=
  (Dcmp_Compare a0 0).bind fun v0 => some v0
theorem Timpl_sign {Y} (a0 r : Int) (h : Dimpl_sign a0 = some r) : Big Tryz.prog H Y (.call 207 [i64 a0] (lk []) (i64 r) (lk [])) := by
  unfold Dimpl_sign at h
  refine x_call (fn := Tryz.f207) (c := bodyOf Tryz.f207) (bs0 := []) Tryz.func207 (by kernel_rfl) (by kernel_rfl) ?_
  obtain ⟨v0, hv0, h⟩ := bind_some h
  replace h := Option.some.inj h; subst h
  exact x_end 10 [(2, .call [] [] (i64 v0) [])] [] (ocons (Tcmp_Compare (Y := Y) a0 0 _ hv0) onil) onil (by kernel_rfl)
/-! impl.parallel -/
def Dimpl_parallel (a0 : Pl) (a1 : Pl) : Option Int :=
  (Dimpl_normal a0).bind fun v0 => (Dimpl_normal a1).bind fun v1 => (Dimpl_crossOf v0 v1).bind fun v2 => frk (!(v2.1 == 0 && (v2.2.1 == 0 && (v2.2.2 == 0 && true)))) (some 0) ((Dimpl_normal a0).bind fun v3 => (Dimpl_normal a1).bind fun v4 => (Dimpl_dot v3 v4).bind fun v5 => (Dimpl_sign v5).bind fun v6 => some v6)
theorem Timpl_parallel {Y} (a0 : Pl) (a1 : Pl) (r : Int) (h : Dimpl_parallel a0 a1 = some r) : Big Tryz.prog H Y (.call 200 [.agg [i64 a0.A, i64 a0.B, i64 a0.C, i64 a0.D], .agg [i64 a1.A, i64 a1.B, i64 a1.C, i64 a1.D]] (lk []) (i64 r) (lk [])) := by
  unfold Dimpl_parallel at h
  refine x_call (fn := Tryz.f200) (c := bodyOf Tryz.f200) (bs0 := []) Tryz.func200 (by kernel_rfl) (by kernel_rfl) ?_
  obtain ⟨v0, hv0, h⟩ := bind_some h
  obtain ⟨v1, hv1, h⟩ := bind_some h
  obtain ⟨v2, hv2, h⟩ := bind_some h
  refine x_frk 17 [(4, .call [] [] (.agg [i64 v0.1, i64 v0.2.1, i64 v0.2.2]) []), (1, .call [] [] (.agg [i64 v1.1, i64 v1.2.1, i64 v1.2.2]) []), (0, .call [] [] (.agg [i64 v2.1, i64 v2.2.1, i64 v2.2.2]) [])] (ocons (Timpl_normal (Y := Y) a0 _ hv0) (ocons (Timpl_normal (Y := Y) a1 _ hv1) (ocons (Timpl_crossOf (Y := Y) v0 v1 _ hv2) onil))) h (by kernel_rfl) (fun h => ?_) (fun h => ?_)
  · replace h := Option.some.inj h; subst h
    exact x_end 4 [] [] onil onil (by kernel_rfl)
  · obtain ⟨v3, hv3, h⟩ := bind_some h
    obtain ⟨v4, hv4, h⟩ := bind_some h
    obtain ⟨v5, hv5, h⟩ := bind_some h
    obtain ⟨v6, hv6, h⟩ := bind_some h
    replace h := Option.some.inj h; subst h
    exact x_end 11 [(1, .call [] [] (.agg [i64 v3.1, i64 v3.2.1, i64 v3.2.2]) []), (1, .call [] [] (.agg [i64 v4.1, i64 v4.2.1, i64 v4.2.2]) []), (0, .call [] [] (i64 v5) []), (0, .call [] [] (i64 v6) [])] [] (ocons (Timpl_normal (Y := Y) a0 _ hv3) (ocons (Timpl_normal (Y := Y) a1 _ hv4) (ocons (Timpl_dot (Y := Y) v3 v4 _ hv5) (ocons (Timpl_sign (Y := Y) v5 _ hv6) onil)))) onil (by kernel_rfl)
/-! impl.clash2 -/
def Dimpl_clash2 (_n : Nat) (a0 : Pl) (a1 : Pl) : Option Bool :=
  (Dimpl_parallel a0 a1).bind fun v0 => frk (decide (v0 ≥ 0)) (some false) ((Dimpl_normal a0).bind fun v1 => (Dimpl_normal a1).bind fun v2 => frk (v1.1 != 0) (some (decide ((w64 ((w64 (a0.D * (maxN v2.1 [w64 (0 - v2.1)]))) + (w64 (a1.D * (maxN v1.1 [w64 (0 - v1.1)]))))) ≤ 0))) (frk (v1.2.1 != 0) (some (decide ((w64 ((w64 (a0.D * (maxN v2.2.1 [w64 (0 - v2.2.1)]))) + (w64 (a1.D * (maxN v1.2.1 [w64 (0 - v1.2.1)]))))) ≤ 0))) (frk (v1.2.2 != 0) (some (decide ((w64 ((w64 (a0.D * (maxN v2.2.2 [w64 (0 - v2.2.2)]))) + (w64 (a1.D * (maxN v1.2.2 [w64 (0 - v1.2.2)]))))) ≤ 0))) (some false))))
theorem Timpl_clash2 {Y} (n : Nat) (a0 : Pl) (a1 : Pl) (r : Bool) (h : Dimpl_clash2 n a0 a1 = some r) : Big Tryz.prog H Y (.call 177 [.agg [i64 a0.A, i64 a0.B, i64 a0.C, i64 a0.D], .agg [i64 a1.A, i64 a1.B, i64 a1.C, i64 a1.D]] (lk []) (bl r) (lk [])) := by
  unfold Dimpl_clash2 at h
  refine x_call (fn := Tryz.f177) (c := bodyOf Tryz.f177) (bs0 := []) Tryz.func177 (by kernel_rfl) (by kernel_rfl) ?_
  obtain ⟨v0, hv0, h⟩ := bind_some h
  refine x_frk 14 [(5, .call [] [] (i64 v0) [])] (ocons (Timpl_parallel (Y := Y) a0 a1 _ hv0) onil) h (by kernel_rfl) (fun h => ?_) (fun h => ?_)
  · replace h := Option.some.inj h; subst h
    exact x_end 4 [] [] onil onil (by kernel_rfl)
  · obtain ⟨v1, hv1, h⟩ := bind_some h
    obtain ⟨v2, hv2, h⟩ := bind_some h
    refine x_frk 40 [(1, .call [] [] (.agg [i64 v1.1, i64 v1.2.1, i64 v1.2.2]) []), (1, .call [] [] (.agg [i64 v2.1, i64 v2.2.1, i64 v2.2.2]) [])] (ocons (Timpl_normal (Y := Y) a0 _ hv1) (ocons (Timpl_normal (Y := Y) a1 _ hv2) onil)) h (by kernel_rfl) (fun h => ?_) (fun h => ?_)
    · replace h := Option.some.inj h; subst h
      exact x_end 28 [(9, .val (.lit (.int .i64 (maxN v2.1 [w64 (0 - v2.1)])))), (10, .val (.lit (.int .i64 (maxN v1.1 [w64 (0 - v1.1)]))))] [] (ocons (maxNok .i64 [w64 (0 - v2.1)] v2.1) (ocons (maxNok .i64 [w64 (0 - v1.1)] v1.1) onil)) onil (by kernel_rfl)
    · refine x_frk 29 [] onil h (by kernel_rfl) (fun h => ?_) (fun h => ?_)
      · replace h := Option.some.inj h; subst h
        exact x_end 28 [(9, .val (.lit (.int .i64 (maxN v2.2.1 [w64 (0 - v2.2.1)])))), (10, .val (.lit (.int .i64 (maxN v1.2.1 [w64 (0 - v1.2.1)]))))] [] (ocons (maxNok .i64 [w64 (0 - v2.2.1)] v2.2.1) (ocons (maxNok .i64 [w64 (0 - v1.2.1)] v1.2.1) onil)) onil (by kernel_rfl)
      · refine x_frk 29 [] onil h (by kernel_rfl) (fun h => ?_) (fun h => ?_)
        · replace h := Option.some.inj h; subst h
          exact x_end 28 [(9, .val (.lit (.int .i64 (maxN v2.2.2 [w64 (0 - v2.2.2)])))), (10, .val (.lit (.int .i64 (maxN v1.2.2 [w64 (0 - v1.2.2)]))))] [] (ocons (maxNok .i64 [w64 (0 - v2.2.2)] v2.2.2) (ocons (maxNok .i64 [w64 (0 - v1.2.2)] v1.2.2) onil)) onil (by kernel_rfl)
        · replace h := Option.some.inj h; subst h
          exact x_end 19 [] [] onil onil (by kernel_rfl)
/-! impl.det -/
def Dimpl_det (a0 : (Int × Int × Int)) (a1 : (Int × Int × Int)) (a2 : (Int × Int × Int)) : Option Int :=
  (Dimpl_crossOf a1 a2).bind fun v0 => (Dimpl_dot a0 v0).bind fun v1 => some v1
theorem Timpl_det {Y} (a0 : (Int × Int × Int)) (a1 : (Int × Int × Int)) (a2 : (Int × Int × Int)) (r : Int) (h : Dimpl_det a0 a1 a2 = some r) : Big Tryz.prog H Y (.call 201 [.agg [i64 a0.1, i64 a0.2.1, i64 a0.2.2], .agg [i64 a1.1, i64 a1.2.1, i64 a1.2.2], .agg [i64 a2.1, i64 a2.2.1, i64 a2.2.2]] (lk []) (i64 r) (lk [])) := by
  unfold Dimpl_det at h
  refine x_call (fn := Tryz.f201) (c := bodyOf Tryz.f201) (bs0 := []) Tryz.func201 (by kernel_rfl) (by kernel_rfl) ?_
  obtain ⟨v0, hv0, h⟩ := bind_some h
  obtain ⟨v1, hv1, h⟩ := bind_some h
  replace h := Option.some.inj h; subst h
  exact x_end 16 [(7, .call [] [] (.agg [i64 v0.1, i64 v0.2.1, i64 v0.2.2]) []), (0, .call [] [] (i64 v1) [])] [] (ocons (Timpl_crossOf (Y := Y) a1 a2 _ hv0) (ocons (Timpl_dot (Y := Y) a0 v0 _ hv1) onil)) onil (by kernel_rfl)
/-! impl.weighs -/
def Dimpl_weighs_0 (_n : Nat) (rec0 : (Int × Int) → Option Bool) (t1 : List Int) (_t5 : Int) (_t13 : List Int) (_t14 t6 t7 t8 t15 : Int) (t27 : Bool) : Option Bool :=
  frk t27 (some false) ((lget t1 t7).bind fun v4 => rec0 (w64 (t6 + (w64 (t8 * v4))), w64 (t15 + 1)))
theorem Timpl_weighs_0 {Y} (n : Nat) (rec0 : (Int × Int) → Option Bool) (t1 : List Int) (t5 : Int) (t13 : List Int) (t14 : Int) (hrec0 : ∀ (a : (Int × Int)) (r : Bool), rec0 a = some r → Wk Tryz.prog H Y 203 [.code (cp [1, 1, 1, 0, 1, 0] (bodyOf Tryz.f203)), .blk 0, .code (cp [1, 1, 1, 1] (bodyOf Tryz.f203))] (FinX Tryz.prog Tryz.f203 [] (bl r) []) ⟨[(1, .sl false 1 t1.length ((eInt).f t1)), (5, i64 t5), (6, i64 a.1), (13, .sl false 1 t13.length ((eInt).f t13)), (14, i64 t14), (15, i64 a.2)], []⟩) (t6 t7 t8 t15 : Int) (t27 r : Bool) (h : Dimpl_weighs_0 n rec0 t1 t5 t13 t14 t6 t7 t8 t15 t27 = some r) : Wk Tryz.prog H Y 203 [.code (cp [1, 1, 1, 0, 1, 0, 0, 1, 1, 0, 0, 1, 0, 1] (bodyOf Tryz.f203)), .code (cp [1, 1, 1, 0, 1, 0, 0, 1, 1, 0, 0, 1, 1] (bodyOf Tryz.f203)), .blk 1, .code (cp [1, 1, 1, 0, 1, 0, 0, 1, 1, 1] (bodyOf Tryz.f203)), .lp (cp [1, 1, 1, 0, 1, 0] (bodyOf Tryz.f203)), .blk 0, .code (cp [1, 1, 1, 1] (bodyOf Tryz.f203))] (FinX Tryz.prog Tryz.f203 [] (bl r) []) ⟨[(1, .sl false 1 t1.length ((eInt).f t1)), (5, i64 t5), (6, i64 t6), (7, i64 t7), (8, i64 t8), (13, .sl false 1 t13.length ((eInt).f t13)), (14, i64 t14), (15, i64 t15), (27, bl t27)], []⟩ := by
  unfold Dimpl_weighs_0 at h
  refine x_frk 0 [] onil h (by kernel_rfl) (fun h => ?_) (fun h => ?_)
  · replace h := Option.some.inj h; subst h
    exact x_end 4 [] [] onil onil (by kernel_rfl)
  · obtain ⟨v4, hv4, h⟩ := bind_some h
    exact x_to 18 [(4, .val (.cptr (eInt.c v4 ++ (eInt).f ((t1).drop (Int.toNat t7 + 1)))))] (ocons (ix eInt hv4) onil) (hrec0 (w64 (t6 + (w64 (t8 * v4))), w64 (t15 + 1)) r h) (by kernel_rfl)
def Dimpl_weighs_1 (n : Nat) (t1 : List Int) (t5 : Int) (t13 : List Int) (t14 : Int) (rec0 : (Int × Int) → Option Bool) (a : (Int × Int)) : Option Bool :=
  match a with
  | (t6, t15) => frk (decide (t15 < t14)) ((lget t13 t15).bind fun v2 => frk (t5 == 0) (some false) ((Dimpl_sign v2).bind fun v3 => Dimpl_weighs_0 n rec0 t1 t5 t13 t14 t6 t15 v2 t15 (v3 != t5))) (some (decide ((w64 (t6 * t5)) ≤ 0)))
theorem Timpl_weighs_1 {Y} (n : Nat) (t1 : List Int) (t5 : Int) (t13 : List Int) (t14 : Int) : ∀ (m : Nat) (a : (Int × Int)) (r : Bool), loopN (Dimpl_weighs_1 n t1 t5 t13 t14) m a = some r → Wk Tryz.prog H Y 203 [.code (cp [1, 1, 1, 0, 1, 0] (bodyOf Tryz.f203)), .blk 0, .code (cp [1, 1, 1, 1] (bodyOf Tryz.f203))] (FinX Tryz.prog Tryz.f203 [] (bl r) []) ⟨[(1, .sl false 1 t1.length ((eInt).f t1)), (5, i64 t5), (6, i64 a.1), (13, .sl false 1 t13.length ((eInt).f t13)), (14, i64 t14), (15, i64 a.2)], []⟩ := by
  refine loopN_ind (fun rec0 hrec0 a r h => ?_)
  obtain ⟨t6, t15⟩ := a
  unfold Dimpl_weighs_1 at h
  refine x_frk 6 [] onil h (by kernel_rfl) (fun h => ?_) (fun h => ?_)
  · obtain ⟨v2, hv2, h⟩ := bind_some h
    refine x_frk 17 [(1, .val (.cptr (eInt.c v2 ++ (eInt).f ((t13).drop (Int.toNat t15 + 1)))))] (ocons (ix eInt hv2) onil) h (by kernel_rfl) (fun h => ?_) (fun h => ?_)
    · replace h := Option.some.inj h; subst h
      exact x_end 11 [] [] onil onil (by kernel_rfl)
    · obtain ⟨v3, hv3, h⟩ := bind_some h
      exact x_to 6 [(1, .call [] [] (i64 v3) [])] (ocons (Timpl_sign (Y := Y) v2 _ hv3) onil) (Timpl_weighs_0 n rec0 t1 t5 t13 t14 hrec0 t6 t15 v2 t15 (v3 != t5) r h) (by kernel_rfl)
  · replace h := Option.some.inj h; subst h
    exact x_end 9 [] [] onil onil (by kernel_rfl)
def Dimpl_weighs (n : Nat) (a0 : (List Int)) (a1 : (List Int)) : Option Bool :=
  (lget a0 0).bind fun v0 => (Dimpl_sign v0).bind fun v1 => loopN (Dimpl_weighs_1 n a1 v1 a0 (a0.length : Int)) n (0, 0)
theorem Timpl_weighs {Y} (n : Nat) (a0 : (List Int)) (a1 : (List Int)) (r : Bool) (h : Dimpl_weighs n a0 a1 = some r) : Big Tryz.prog H Y (.call 203 [.sl false 1 a0.length ((eInt).f a0), .sl false 1 a1.length ((eInt).f a1)] (lk []) (bl r) (lk [])) := by
  unfold Dimpl_weighs at h
  refine x_call (fn := Tryz.f203) (c := bodyOf Tryz.f203) (bs0 := []) Tryz.func203 (by kernel_rfl) (by kernel_rfl) ?_
  obtain ⟨v0, hv0, h⟩ := bind_some h
  obtain ⟨v1, hv1, h⟩ := bind_some h
  exact x_to 24 [(2, .val (.cptr (eInt.c v0 ++ (eInt).f ((a0).drop (Int.toNat 0 + 1))))), (1, .call [] [] (i64 v1) [])] (ocons (ix eInt hv0) (ocons (Timpl_sign (Y := Y) v0 _ hv1) onil)) (Timpl_weighs_1 n a1 v1 a0 (a0.length : Int) n (0, 0) r h) (by kernel_rfl)
/-! impl.clash3 -/
def Dimpl_clash3 (n : Nat) (a0 : Pl) (a1 : Pl) (a2 : Pl) : Option Bool :=
  (Dimpl_normal a0).bind fun v0 => (Dimpl_normal a1).bind fun v1 => (Dimpl_normal a2).bind fun v2 => (Dimpl_det v0 v1 v2).bind fun v3 => frk (v3 != 0) (some false) ((Dimpl_crossOf v0 v1).bind fun v4 => (Dimpl_crossOf v1 v2).bind fun v5 => (Dimpl_dot v5 v4).bind fun v6 => (Dimpl_crossOf v2 v0).bind fun v7 => (Dimpl_dot v7 v4).bind fun v8 => (Dimpl_dot v4 v4).bind fun v9 => (Dimpl_weighs n [v6, v8, v9] [a0.D, a1.D, a2.D]).bind fun v10 => some v10)
theorem Timpl_clash3 {Y} (n : Nat) (a0 : Pl) (a1 : Pl) (a2 : Pl) (r : Bool) (h : Dimpl_clash3 n a0 a1 a2 = some r) : Big Tryz.prog H Y (.call 178 [.agg [i64 a0.A, i64 a0.B, i64 a0.C, i64 a0.D], .agg [i64 a1.A, i64 a1.B, i64 a1.C, i64 a1.D], .agg [i64 a2.A, i64 a2.B, i64 a2.C, i64 a2.D]] (lk []) (bl r) (lk [])) := by
  unfold Dimpl_clash3 at h
  refine x_call (fn := Tryz.f178) (c := bodyOf Tryz.f178) (bs0 := []) Tryz.func178 (by kernel_rfl) (by kernel_rfl) ?_
  obtain ⟨v0, hv0, h⟩ := bind_some h
  obtain ⟨v1, hv1, h⟩ := bind_some h
  obtain ⟨v2, hv2, h⟩ := bind_some h
  obtain ⟨v3, hv3, h⟩ := bind_some h
  refine x_frk 31 [(5, .call [] [] (.agg [i64 v0.1, i64 v0.2.1, i64 v0.2.2]) []), (1, .call [] [] (.agg [i64 v1.1, i64 v1.2.1, i64 v1.2.2]) []), (1, .call [] [] (.agg [i64 v2.1, i64 v2.2.1, i64 v2.2.2]) []), (9, .call [] [] (i64 v3) [])] (ocons (Timpl_normal (Y := Y) a0 _ hv0) (ocons (Timpl_normal (Y := Y) a1 _ hv1) (ocons (Timpl_normal (Y := Y) a2 _ hv2) (ocons (Timpl_det (Y := Y) v0 v1 v2 _ hv3) onil)))) h (by kernel_rfl) (fun h => ?_) (fun h => ?_)
  · replace h := Option.some.inj h; subst h
    exact x_end 4 [] [] onil onil (by kernel_rfl)
  · obtain ⟨v4, hv4, h⟩ := bind_some h
    obtain ⟨v5, hv5, h⟩ := bind_some h
    obtain ⟨v6, hv6, h⟩ := bind_some h
    obtain ⟨v7, hv7, h⟩ := bind_some h
    obtain ⟨v8, hv8, h⟩ := bind_some h
    obtain ⟨v9, hv9, h⟩ := bind_some h
    obtain ⟨v10, hv10, h⟩ := bind_some h
    replace h := Option.some.inj h; subst h
    exact x_end 35 [(2, .call [] [] (.agg [i64 v4.1, i64 v4.2.1, i64 v4.2.2]) []), (4, .call [] [] (.agg [i64 v5.1, i64 v5.2.1, i64 v5.2.2]) []), (1, .call [] [] (i64 v6) []), (2, .call [] [] (.agg [i64 v7.1, i64 v7.2.1, i64 v7.2.2]) []), (1, .call [] [] (i64 v8) []), (2, .call [] [] (i64 v9) []), (8, .call [] [(eInt).f [a0.D, a1.D, a2.D], (eInt).f [v6, v8, v9]] (bl v10) [])] [] (ocons (Timpl_crossOf (Y := Y) v0 v1 _ hv4) (ocons (Timpl_crossOf (Y := Y) v1 v2 _ hv5) (ocons (Timpl_dot (Y := Y) v5 v4 _ hv6) (ocons (Timpl_crossOf (Y := Y) v2 v0 _ hv7) (ocons (Timpl_dot (Y := Y) v7 v4 _ hv8) (ocons (Timpl_dot (Y := Y) v4 v4 _ hv9) (ocons (Timpl_weighs (Y := Y) n [v6, v8, v9] [a0.D, a1.D, a2.D] _ hv10) (ocons (len_row (L := [v6, v8, v9]) eInt) (ocons (Enc.share eInt eInt sInt [v6, v8, v9]) (ocons (len_row (L := [a0.D, a1.D, a2.D]) eInt) (ocons (Enc.share eInt eInt sInt [a0.D, a1.D, a2.D]) onil))))))))))) onil (by kernel_rfl)
/-! impl.det3 -/
def Dimpl_det3 (a0 : Pl) (a1 : Pl) (a2 : Pl) : Option Int :=
  (Dimpl_normal a0).bind fun v0 => (Dimpl_normal a1).bind fun v1 => (Dimpl_normal a2).bind fun v2 => (Dimpl_det v0 v1 v2).bind fun v3 => some v3
theorem Timpl_det3 {Y} (a0 : Pl) (a1 : Pl) (a2 : Pl) (r : Int) (h : Dimpl_det3 a0 a1 a2 = some r) : Big Tryz.prog H Y (.call 205 [.agg [i64 a0.A, i64 a0.B, i64 a0.C, i64 a0.D], .agg [i64 a1.A, i64 a1.B, i64 a1.C, i64 a1.D], .agg [i64 a2.A, i64 a2.B, i64 a2.C, i64 a2.D]] (lk []) (i64 r) (lk [])) := by
  unfold Dimpl_det3 at h
  refine x_call (fn := Tryz.f205) (c := bodyOf Tryz.f205) (bs0 := []) Tryz.func205 (by kernel_rfl) (by kernel_rfl) ?_
  obtain ⟨v0, hv0, h⟩ := bind_some h
  obtain ⟨v1, hv1, h⟩ := bind_some h
  obtain ⟨v2, hv2, h⟩ := bind_some h
  obtain ⟨v3, hv3, h⟩ := bind_some h
  replace h := Option.some.inj h; subst h
  exact x_end 18 [(5, .call [] [] (.agg [i64 v0.1, i64 v0.2.1, i64 v0.2.2]) []), (1, .call [] [] (.agg [i64 v1.1, i64 v1.2.1, i64 v1.2.2]) []), (1, .call [] [] (.agg [i64 v2.1, i64 v2.2.1, i64 v2.2.2]) []), (0, .call [] [] (i64 v3) [])] [] (ocons (Timpl_normal (Y := Y) a0 _ hv0) (ocons (Timpl_normal (Y := Y) a1 _ hv1) (ocons (Timpl_normal (Y := Y) a2 _ hv2) (ocons (Timpl_det (Y := Y) v0 v1 v2 _ hv3) onil)))) onil (by kernel_rfl)
/-! impl.clash4 -/
def Dimpl_clash4 (n : Nat) (a0 : Pl) (a1 : Pl) (a2 : Pl) (a3 : Pl) : Option Bool :=
  (Dimpl_det3 a1 a2 a3).bind fun v0 => (Dimpl_det3 a0 a2 a3).bind fun v1 => (Dimpl_det3 a0 a1 a3).bind fun v2 => (Dimpl_det3 a0 a1 a2).bind fun v3 => (Dimpl_weighs n [v0, w64 (0 - v1), v2, w64 (0 - v3)] [a0.D, a1.D, a2.D, a3.D]).bind fun v4 => some v4
theorem Timpl_clash4 {Y} (n : Nat) (a0 : Pl) (a1 : Pl) (a2 : Pl) (a3 : Pl) (r : Bool) (h : Dimpl_clash4 n a0 a1 a2 a3 = some r) : Big Tryz.prog H Y (.call 179 [.agg [i64 a0.A, i64 a0.B, i64 a0.C, i64 a0.D], .agg [i64 a1.A, i64 a1.B, i64 a1.C, i64 a1.D], .agg [i64 a2.A, i64 a2.B, i64 a2.C, i64 a2.D], .agg [i64 a3.A, i64 a3.B, i64 a3.C, i64 a3.D]] (lk []) (bl r) (lk [])) := by
  unfold Dimpl_clash4 at h
  refine x_call (fn := Tryz.f179) (c := bodyOf Tryz.f179) (bs0 := []) Tryz.func179 (by kernel_rfl) (by kernel_rfl) ?_
  obtain ⟨v0, hv0, h⟩ := bind_some h
  obtain ⟨v1, hv1, h⟩ := bind_some h
  obtain ⟨v2, hv2, h⟩ := bind_some h
  obtain ⟨v3, hv3, h⟩ := bind_some h
  obtain ⟨v4, hv4, h⟩ := bind_some h
  replace h := Option.some.inj h; subst h
  exact x_end 46 [(8, .call [] [] (i64 v0) []), (3, .call [] [] (i64 v1) []), (4, .call [] [] (i64 v2) []), (3, .call [] [] (i64 v3) []), (13, .call [] [(eInt).f [a0.D, a1.D, a2.D, a3.D], (eInt).f [v0, w64 (0 - v1), v2, w64 (0 - v3)]] (bl v4) [])] [] (ocons (Timpl_det3 (Y := Y) a1 a2 a3 _ hv0) (ocons (Timpl_det3 (Y := Y) a0 a2 a3 _ hv1) (ocons (Timpl_det3 (Y := Y) a0 a1 a3 _ hv2) (ocons (Timpl_det3 (Y := Y) a0 a1 a2 _ hv3) (ocons (Timpl_weighs (Y := Y) n [v0, w64 (0 - v1), v2, w64 (0 - v3)] [a0.D, a1.D, a2.D, a3.D] _ hv4) (ocons (len_row (L := [v0, w64 (0 - v1), v2, w64 (0 - v3)]) eInt) (ocons (Enc.share eInt eInt sInt [v0, w64 (0 - v1), v2, w64 (0 - v3)]) (ocons (len_row (L := [a0.D, a1.D, a2.D, a3.D]) eInt) (ocons (Enc.share eInt eInt sInt [a0.D, a1.D, a2.D, a3.D]) onil))))))))) onil (by kernel_rfl)
/-! impl.room -/
def Dimpl_room_0 (n : Nat) (rec1 : Int → Option Bool) (_rec0 : Int → Option Bool) (_t13 : Int) (_t23 : List Pl) (_t24 b6_0 b6_1 b6_2 b6_3 : Int) (_t0 : List Pl) (_t11 : List Pl) (_t12 b3_0 b3_1 b3_2 b3_3 t25 : Int) (t36 : List Pl) (t37 b8_0 b8_1 b8_2 b8_3 : Int) (rec2 : Int → Option Bool) (a : Int) : Option Bool :=
  match a with
  | t38 => frk (decide (t38 < t37)) ((lget t36 t38).bind fun v6 => (Dimpl_clash4 n v6 (Pl.mk b8_0 b8_1 b8_2 b8_3) (Pl.mk b6_0 b6_1 b6_2 b6_3) (Pl.mk b3_0 b3_1 b3_2 b3_3)).bind fun v7 => frk v7 (some false) (rec2 (w64 (t38 + 1)))) (rec1 (w64 (t25 + 1)))
theorem Timpl_room_0 {Y} (n : Nat) (rec1 : Int → Option Bool) (rec0 : Int → Option Bool) (t13 : Int) (t23 : List Pl) (t24 b6_0 b6_1 b6_2 b6_3 : Int) (t0 : List Pl) (t11 : List Pl) (t12 b3_0 b3_1 b3_2 b3_3 : Int) (hrec1 : ∀ (a : Int) (r : Bool), rec1 a = some r → Wk Tryz.prog H Y 137 [.code (cp [1, 0, 1, 0, 0, 1, 1, 0, 0, 1, 1, 1, 0] (bodyOf Tryz.f137)), .blk 2, .blk 1, .code (cp [1, 0, 1, 0, 0, 1, 1, 1] (bodyOf Tryz.f137)), .lp (cp [1, 0, 1, 0] (bodyOf Tryz.f137)), .blk 0, .code (cp [1, 1] (bodyOf Tryz.f137))] (FinX Tryz.prog Tryz.f137 [] (bl r) []) ⟨[(0, .sl false 4 t0.length ((ePl).f t0)), (3, .ptr 3 0), (6, .ptr 6 0), (11, .sl false 4 t11.length ((ePl).f t11)), (12, i64 t12), (13, i64 t13), (23, .sl false 4 t23.length ((ePl).f t23)), (24, i64 t24), (25, i64 a)], [(3, ⟨true, 0, [i64 b3_0, i64 b3_1, i64 b3_2, i64 b3_3]⟩), (6, ⟨true, 0, [i64 b6_0, i64 b6_1, i64 b6_2, i64 b6_3]⟩)]⟩) (_hrec0 : ∀ (a : Int) (r : Bool), rec0 a = some r → Wk Tryz.prog H Y 137 [.code (cp [1, 0, 1, 0] (bodyOf Tryz.f137)), .blk 0, .code (cp [1, 1] (bodyOf Tryz.f137))] (FinX Tryz.prog Tryz.f137 [] (bl r) []) ⟨[(0, .sl false 4 t0.length ((ePl).f t0)), (3, .ptr 3 0), (11, .sl false 4 t11.length ((ePl).f t11)), (12, i64 t12), (13, i64 a)], [(3, ⟨true, 0, [i64 b3_0, i64 b3_1, i64 b3_2, i64 b3_3]⟩)]⟩) (t25 : Int) (t36 : List Pl) (t37 b8_0 b8_1 b8_2 b8_3 : Int) : ∀ (m : Nat) (a : Int) (r : Bool), loopN (Dimpl_room_0 n rec1 rec0 t13 t23 t24 b6_0 b6_1 b6_2 b6_3 t0 t11 t12 b3_0 b3_1 b3_2 b3_3 t25 t36 t37 b8_0 b8_1 b8_2 b8_3) m a = some r → Wk Tryz.prog H Y 137 [.code (cp [1, 0, 1, 0, 0, 1, 1, 0, 0, 1, 1, 1, 0, 0, 1, 1, 0, 0, 1, 1, 1, 0] (bodyOf Tryz.f137)), .blk 4, .blk 3, .code (cp [1, 0, 1, 0, 0, 1, 1, 0, 0, 1, 1, 1, 0, 0, 1, 1, 1] (bodyOf Tryz.f137)), .lp (cp [1, 0, 1, 0, 0, 1, 1, 0, 0, 1, 1, 1, 0] (bodyOf Tryz.f137)), .blk 2, .blk 1, .code (cp [1, 0, 1, 0, 0, 1, 1, 1] (bodyOf Tryz.f137)), .lp (cp [1, 0, 1, 0] (bodyOf Tryz.f137)), .blk 0, .code (cp [1, 1] (bodyOf Tryz.f137))] (FinX Tryz.prog Tryz.f137 [] (bl r) []) ⟨[(0, .sl false 4 t0.length ((ePl).f t0)), (3, .ptr 3 0), (6, .ptr 6 0), (8, .ptr 8 0), (11, .sl false 4 t11.length ((ePl).f t11)), (12, i64 t12), (13, i64 t13), (23, .sl false 4 t23.length ((ePl).f t23)), (24, i64 t24), (25, i64 t25), (36, .sl false 4 t36.length ((ePl).f t36)), (37, i64 t37), (38, i64 a)], [(3, ⟨true, 0, [i64 b3_0, i64 b3_1, i64 b3_2, i64 b3_3]⟩), (6, ⟨true, 0, [i64 b6_0, i64 b6_1, i64 b6_2, i64 b6_3]⟩), (8, ⟨true, 0, [i64 b8_0, i64 b8_1, i64 b8_2, i64 b8_3]⟩)]⟩ := by
  refine loopN_ind (fun _rec2 hrec2 a r h => ?_)
  obtain ⟨t38, rfl⟩ : ∃ x, x = a := ⟨a, rfl⟩
  unfold Dimpl_room_0 at h
  refine x_frk 6 [] onil h (by kernel_rfl) (fun h => ?_) (fun h => ?_)
  · obtain ⟨v6, hv6, h⟩ := bind_some h
    obtain ⟨v7, hv7, h⟩ := bind_some h
    refine x_frk 18 [(0, .val (.cptr (ePl.c v6 ++ (ePl).f ((t36).drop (Int.toNat t38 + 1))))), (7, .call [] [] (bl v7) [])] (ocons (ix ePl hv6) (ocons (Timpl_clash4 (Y := Y) n v6 (Pl.mk b8_0 b8_1 b8_2 b8_3) (Pl.mk b6_0 b6_1 b6_2 b6_3) (Pl.mk b3_0 b3_1 b3_2 b3_3) _ hv7) onil)) h (by kernel_rfl) (fun h => ?_) (fun h => ?_)
    · replace h := Option.some.inj h; subst h
      exact x_end 4 [] [] onil onil (by kernel_rfl)
    · exact x_to 7 [] onil (hrec2 (w64 (t38 + 1)) r h) (by kernel_rfl)
  · exact x_to 7 [] onil (hrec1 (w64 (t25 + 1)) r h) (by kernel_rfl)
def Dimpl_room_1 (n : Nat) (rec0 : Int → Option Bool) (t0 : List Pl) (t11 : List Pl) (t12 b3_0 b3_1 b3_2 b3_3 t13 : Int) (t23 : List Pl) (t24 b6_0 b6_1 b6_2 b6_3 : Int) (rec1 : Int → Option Bool) (a : Int) : Option Bool :=
  match a with
  | t25 => frk (decide (t25 < t24)) ((lget t23 t25).bind fun v3 => (Dimpl_clash3 n v3 (Pl.mk b6_0 b6_1 b6_2 b6_3) (Pl.mk b3_0 b3_1 b3_2 b3_3)).bind fun v4 => frk v4 (some false) ((lsl t0 0 t25).bind fun v5 => loopN (Dimpl_room_0 n rec1 rec0 t13 t23 t24 b6_0 b6_1 b6_2 b6_3 t0 t11 t12 b3_0 b3_1 b3_2 b3_3 t25 v5 (v5.length : Int) v3.A v3.B v3.C v3.D) n 0)) (rec0 (w64 (t13 + 1)))
theorem Timpl_room_1 {Y} (n : Nat) (rec0 : Int → Option Bool) (t0 : List Pl) (t11 : List Pl) (t12 b3_0 b3_1 b3_2 b3_3 : Int) (hrec0 : ∀ (a : Int) (r : Bool), rec0 a = some r → Wk Tryz.prog H Y 137 [.code (cp [1, 0, 1, 0] (bodyOf Tryz.f137)), .blk 0, .code (cp [1, 1] (bodyOf Tryz.f137))] (FinX Tryz.prog Tryz.f137 [] (bl r) []) ⟨[(0, .sl false 4 t0.length ((ePl).f t0)), (3, .ptr 3 0), (11, .sl false 4 t11.length ((ePl).f t11)), (12, i64 t12), (13, i64 a)], [(3, ⟨true, 0, [i64 b3_0, i64 b3_1, i64 b3_2, i64 b3_3]⟩)]⟩) (t13 : Int) (t23 : List Pl) (t24 b6_0 b6_1 b6_2 b6_3 : Int) : ∀ (m : Nat) (a : Int) (r : Bool), loopN (Dimpl_room_1 n rec0 t0 t11 t12 b3_0 b3_1 b3_2 b3_3 t13 t23 t24 b6_0 b6_1 b6_2 b6_3) m a = some r → Wk Tryz.prog H Y 137 [.code (cp [1, 0, 1, 0, 0, 1, 1, 0, 0, 1, 1, 1, 0] (bodyOf Tryz.f137)), .blk 2, .blk 1, .code (cp [1, 0, 1, 0, 0, 1, 1, 1] (bodyOf Tryz.f137)), .lp (cp [1, 0, 1, 0] (bodyOf Tryz.f137)), .blk 0, .code (cp [1, 1] (bodyOf Tryz.f137))] (FinX Tryz.prog Tryz.f137 [] (bl r) []) ⟨[(0, .sl false 4 t0.length ((ePl).f t0)), (3, .ptr 3 0), (6, .ptr 6 0), (11, .sl false 4 t11.length ((ePl).f t11)), (12, i64 t12), (13, i64 t13), (23, .sl false 4 t23.length ((ePl).f t23)), (24, i64 t24), (25, i64 a)], [(3, ⟨true, 0, [i64 b3_0, i64 b3_1, i64 b3_2, i64 b3_3]⟩), (6, ⟨true, 0, [i64 b6_0, i64 b6_1, i64 b6_2, i64 b6_3]⟩)]⟩ := by
  refine loopN_ind (fun rec1 hrec1 a r h => ?_)
  obtain ⟨t25, rfl⟩ : ∃ x, x = a := ⟨a, rfl⟩
  unfold Dimpl_room_1 at h
  refine x_frk 6 [] onil h (by kernel_rfl) (fun h => ?_) (fun h => ?_)
  · obtain ⟨v3, hv3, h⟩ := bind_some h
    obtain ⟨v4, hv4, h⟩ := bind_some h
    refine x_frk 20 [(1, .val (.cptr (ePl.c v3 ++ (ePl).f ((t23).drop (Int.toNat t25 + 1))))), (7, .call [] [] (bl v4) [])] (ocons (ix ePl hv3) (ocons (Timpl_clash3 (Y := Y) n v3 (Pl.mk b6_0 b6_1 b6_2 b6_3) (Pl.mk b3_0 b3_1 b3_2 b3_3) _ hv4) onil)) h (by kernel_rfl) (fun h => ?_) (fun h => ?_)
    · replace h := Option.some.inj h; subst h
      exact x_end 4 [] [] onil onil (by kernel_rfl)
    · obtain ⟨v5, hv5, h⟩ := bind_some h
      exact x_to 10 [(2, .val (.sl false 4 v5.length ((ePl).f v5)))] (ocons (slF ePl hv5) onil) (Timpl_room_0 n rec1 rec0 t13 t23 t24 b6_0 b6_1 b6_2 b6_3 t0 t11 t12 b3_0 b3_1 b3_2 b3_3 hrec1 hrec0 t25 v5 (v5.length : Int) v3.A v3.B v3.C v3.D n 0 r h) (by kernel_rfl)
  · exact x_to 7 [] onil (hrec0 (w64 (t13 + 1)) r h) (by kernel_rfl)
def Dimpl_room_2 (n : Nat) (t0 : List Pl) (t11 : List Pl) (t12 b3_0 b3_1 b3_2 b3_3 : Int) (rec0 : Int → Option Bool) (a : Int) : Option Bool :=
  match a with
  | t13 => frk (decide (t13 < t12)) ((lget t11 t13).bind fun v0 => (Dimpl_clash2 n v0 (Pl.mk b3_0 b3_1 b3_2 b3_3)).bind fun v1 => frk v1 (some false) ((lsl t0 0 t13).bind fun v2 => loopN (Dimpl_room_1 n rec0 t0 t11 t12 b3_0 b3_1 b3_2 b3_3 t13 v2 (v2.length : Int) v0.A v0.B v0.C v0.D) n 0)) (some true)
theorem Timpl_room_2 {Y} (n : Nat) (t0 : List Pl) (t11 : List Pl) (t12 b3_0 b3_1 b3_2 b3_3 : Int) : ∀ (m : Nat) (a : Int) (r : Bool), loopN (Dimpl_room_2 n t0 t11 t12 b3_0 b3_1 b3_2 b3_3) m a = some r → Wk Tryz.prog H Y 137 [.code (cp [1, 0, 1, 0] (bodyOf Tryz.f137)), .blk 0, .code (cp [1, 1] (bodyOf Tryz.f137))] (FinX Tryz.prog Tryz.f137 [] (bl r) []) ⟨[(0, .sl false 4 t0.length ((ePl).f t0)), (3, .ptr 3 0), (11, .sl false 4 t11.length ((ePl).f t11)), (12, i64 t12), (13, i64 a)], [(3, ⟨true, 0, [i64 b3_0, i64 b3_1, i64 b3_2, i64 b3_3]⟩)]⟩ := by
  refine loopN_ind (fun rec0 hrec0 a r h => ?_)
  obtain ⟨t13, rfl⟩ : ∃ x, x = a := ⟨a, rfl⟩
  unfold Dimpl_room_2 at h
  refine x_frk 6 [] onil h (by kernel_rfl) (fun h => ?_) (fun h => ?_)
  · obtain ⟨v0, hv0, h⟩ := bind_some h
    obtain ⟨v1, hv1, h⟩ := bind_some h
    refine x_frk 19 [(1, .val (.cptr (ePl.c v0 ++ (ePl).f ((t11).drop (Int.toNat t13 + 1))))), (6, .call [] [] (bl v1) [])] (ocons (ix ePl hv0) (ocons (Timpl_clash2 (Y := Y) n v0 (Pl.mk b3_0 b3_1 b3_2 b3_3) _ hv1) onil)) h (by kernel_rfl) (fun h => ?_) (fun h => ?_)
    · replace h := Option.some.inj h; subst h
      exact x_end 4 [] [] onil onil (by kernel_rfl)
    · obtain ⟨v2, hv2, h⟩ := bind_some h
      exact x_to 10 [(2, .val (.sl false 4 v2.length ((ePl).f v2)))] (ocons (slF ePl hv2) onil) (Timpl_room_1 n rec0 t0 t11 t12 b3_0 b3_1 b3_2 b3_3 hrec0 t13 v2 (v2.length : Int) v0.A v0.B v0.C v0.D n 0 r h) (by kernel_rfl)
  · replace h := Option.some.inj h; subst h
    exact x_end 5 [] [] onil onil (by kernel_rfl)
def Dimpl_room (n : Nat) (a0 : (List Pl)) (a1 : Pl) : Option Bool :=
  loopN (Dimpl_room_2 n a0 a0 (a0.length : Int) a1.A a1.B a1.C a1.D) n 0
theorem Timpl_room {Y} (n : Nat) (a0 : (List Pl)) (a1 : Pl) (r : Bool) (h : Dimpl_room n a0 a1 = some r) : Big Tryz.prog H Y (.call 137 [.sl false 4 a0.length ((ePl).f a0), .agg [i64 a1.A, i64 a1.B, i64 a1.C, i64 a1.D]] (lk []) (bl r) (lk [])) := by
  unfold Dimpl_room at h
  refine x_call (fn := Tryz.f137) (c := bodyOf Tryz.f137) (bs0 := []) Tryz.func137 (by kernel_rfl) (by kernel_rfl) ?_
  exact x_to 13 [] onil (Timpl_room_2 n a0 a0 (a0.length : Int) a1.A a1.B a1.C a1.D n 0 r h) (by kernel_rfl)
/-! impl.with -/
def Dimpl_with (a0 : (List Pl)) (a1 : Pl) : Option (List Pl) :=
  chk (apB 32 (0 + a0.length)) (chk (apB 32 (([] ++ a0).length + 1)) (some (([] ++ a0) ++ [a1])))
theorem Timpl_with {Y} (a0 : (List Pl)) (a1 : Pl) (r : (List Pl)) (h : Dimpl_with a0 a1 = some r) : Big Tryz.prog H Y (.call 138 [.sl false 4 a0.length ((ePl).f a0), .agg [i64 a1.A, i64 a1.B, i64 a1.C, i64 a1.D]] (lk []) (.sl true 4 r.length ((ePl).f r)) (lk [])) := by
  unfold Dimpl_with at h
  refine x_call (fn := Tryz.f138) (c := bodyOf Tryz.f138) (bs0 := []) Tryz.func138 (by kernel_rfl) (by kernel_rfl) ?_
  obtain ⟨c0, h⟩ := chk_some h
  obtain ⟨c1, h⟩ := chk_some h
  replace h := Option.some.inj h; subst h
  exact x_end 15 [(4, .app false (List.length ([] ++ a0)) ((ePl).f ([] ++ a0))), (2, .app false (List.length (([] ++ a0) ++ [a1])) ((ePl).f (([] ++ a0) ++ [a1])))] [] (ocons (len_row' (L := []) ePl) (ocons (app_one (L := []) (M := a0) ePl c0) (ocons (app_new (L := []) (M := a0) ePl) (ocons (app_m (L := []) (M := a0) ePl rfl) (ocons (len_row' (L := a0) ePl) (ocons (len_row' (L := ([] ++ a0)) ePl) (ocons (app_one (L := ([] ++ a0)) (M := [a1]) ePl c1) (ocons (app_new (L := ([] ++ a0)) (M := [a1]) ePl) (ocons (app_m (L := ([] ++ a0)) (M := [a1]) ePl rfl) (ocons (len_row' (L := [a1]) ePl) (ocons (Enc.noOwn ePl (fun _ => rfl) [a1]) onil))))))))))) (ocons (len_row (L := (([] ++ a0) ++ [a1])) ePl) onil) (by kernel_rfl)
/-! impl.checker).right -/
def Dimpl_checker_right_1 (_n : Nat) (self : (Int × Sol × (List Pl)) → Option (Bool × Int)) (t2 : List Pl) (t59 _b4_0 : Bool) (b4_1 b4_2 b4_3 b4_4 : Int) (b4_5 : List Sol) (b7_0 b7_1 b7_2 b7_3 b1000_0 : Int) : Option (Bool × Int) :=
  frk t59 (some (false, b1000_0)) ((lget b4_5 0).bind fun v5 => (Dimpl_with t2 (Pl.mk b4_1 b4_2 b4_3 b4_4)).bind fun v6 => (self (b1000_0, v5, v6)).bind fun v7 => frk v7.1 ((lget b4_5 1).bind fun v8 => (Dimpl_with t2 (Pl.mk b7_0 b7_1 b7_2 b7_3)).bind fun v9 => (self (v7.2, v8, v9)).bind fun v10 => some v10) (some (false, v7.2)))
theorem Timpl_checker_right_1 {Y} (n : Nat) (self : (Int × Sol × (List Pl)) → Option (Bool × Int)) (hself : ∀ (a : (Int × Sol × (List Pl))) (r : (Bool × Int)), self a = some r → Big Tryz.prog H Y (.call 74 [.ptr 1000 0, .agg [bl a.2.1.inn, i64 a.2.1.pl.A, i64 a.2.1.pl.B, i64 a.2.1.pl.C, i64 a.2.1.pl.D, .sl false 6 a.2.1.kids.length ((eSol false).f a.2.1.kids)], .sl false 4 a.2.2.length ((ePl).f a.2.2)] (lk [(1000, ⟨true, 0, [i64 a.1]⟩)]) (bl r.1) (lk [(1000, ⟨true, 0, [i64 r.2]⟩)]))) (t2 : List Pl) (t59 b4_0 : Bool) (b4_1 b4_2 b4_3 b4_4 : Int) (b4_5 : List Sol) (b7_0 b7_1 b7_2 b7_3 b1000_0 : Int) (r : (Bool × Int)) (h : Dimpl_checker_right_1 n self t2 t59 b4_0 b4_1 b4_2 b4_3 b4_4 b4_5 b7_0 b7_1 b7_2 b7_3 b1000_0 = some r) : Wk Tryz.prog H Y 74 [.code (cp [1, 1, 1, 1, 1, 0, 1] (bodyOf Tryz.f74)), .code (cp [1, 1, 1, 1, 1, 1] (bodyOf Tryz.f74))] (FinX Tryz.prog Tryz.f74 [(1000, ⟨true, 0, [.bad]⟩)] (bl r.1) [(1000, ⟨true, 0, [i64 r.2]⟩)]) ⟨[(0, .ptr 1000 0), (2, .sl false 4 t2.length ((ePl).f t2)), (4, .ptr 4 0), (7, .ptr 7 0), (59, bl t59)], [(4, ⟨true, 0, [bl b4_0, i64 b4_1, i64 b4_2, i64 b4_3, i64 b4_4, .sl false 6 b4_5.length ((eSol false).f b4_5)]⟩), (7, ⟨true, 0, [i64 b7_0, i64 b7_1, i64 b7_2, i64 b7_3]⟩), (1000, ⟨true, 0, [i64 b1000_0]⟩)]⟩ := by
  unfold Dimpl_checker_right_1 at h
  refine x_frk 0 [] onil h (by kernel_rfl) (fun h => ?_) (fun h => ?_)
  · replace h := Option.some.inj h; subst h
    exact x_end 4 [] [] onil onil (by kernel_rfl)
  · obtain ⟨v5, hv5, h⟩ := bind_some h
    obtain ⟨v6, hv6, h⟩ := bind_some h
    obtain ⟨v7, hv7, h⟩ := bind_some h
    refine x_frk 14 [(3, .val (.cptr ((eSol false).c v5 ++ (eSol false).f ((b4_5).drop (Int.toNat 0 + 1))))), (4, .call [] [] (.sl false 4 v6.length ((ePl).f v6)) []), (0, .call [] [] (bl v7.1) [(1000, ⟨true, 0, [i64 v7.2]⟩)])] (ocons (ix (eSol false) hv5) (ocons (shSl (L := v6) ePl ePl sPl (Timpl_with (Y := Y) t2 (Pl.mk b4_1 b4_2 b4_3 b4_4) _ hv6)) (ocons (hself (b1000_0, v5, v6) _ hv7) onil))) h (by kernel_rfl) (fun h => ?_) (fun h => ?_)
    · obtain ⟨v8, hv8, h⟩ := bind_some h
      obtain ⟨v9, hv9, h⟩ := bind_some h
      obtain ⟨v10, hv10, h⟩ := bind_some h
      replace h := Option.some.inj h; subst h
      exact x_end 12 [(3, .val (.cptr ((eSol false).c v8 ++ (eSol false).f ((b4_5).drop (Int.toNat 1 + 1))))), (3, .call [] [] (.sl false 4 v9.length ((ePl).f v9)) []), (0, .call [] [] (bl v10.1) [(1000, ⟨true, 0, [i64 v10.2]⟩)])] [] (ocons (ix (eSol false) hv8) (ocons (shSl (L := v9) ePl ePl sPl (Timpl_with (Y := Y) t2 (Pl.mk b7_0 b7_1 b7_2 b7_3) _ hv9)) (ocons (hself (v7.2, v8, v9) _ hv10) onil))) onil (by kernel_rfl)
    · replace h := Option.some.inj h; subst h
      exact x_end 12 [] [] onil onil (by kernel_rfl)
def Dimpl_checker_right_0 (n : Nat) (self : (Int × Sol × (List Pl)) → Option (Bool × Int)) (t2 : List Pl) (t45 b4_0 : Bool) (b4_1 b4_2 b4_3 b4_4 : Int) (b4_5 : List Sol) (b1000_0 : Int) : Option (Bool × Int) :=
  frk t45 (some (false, b1000_0)) ((Dimpl_flip (Pl.mk b4_1 b4_2 b4_3 b4_4)).bind fun v2 => (Dimpl_room n t2 (Pl.mk b4_1 b4_2 b4_3 b4_4)).bind fun v3 => frk (!v3) (some (false, b1000_0)) ((Dimpl_room n t2 v2).bind fun v4 => Dimpl_checker_right_1 n self t2 (!v4) b4_0 b4_1 b4_2 b4_3 b4_4 b4_5 v2.A v2.B v2.C v2.D b1000_0))
theorem Timpl_checker_right_0 {Y} (n : Nat) (self : (Int × Sol × (List Pl)) → Option (Bool × Int)) (hself : ∀ (a : (Int × Sol × (List Pl))) (r : (Bool × Int)), self a = some r → Big Tryz.prog H Y (.call 74 [.ptr 1000 0, .agg [bl a.2.1.inn, i64 a.2.1.pl.A, i64 a.2.1.pl.B, i64 a.2.1.pl.C, i64 a.2.1.pl.D, .sl false 6 a.2.1.kids.length ((eSol false).f a.2.1.kids)], .sl false 4 a.2.2.length ((ePl).f a.2.2)] (lk [(1000, ⟨true, 0, [i64 a.1]⟩)]) (bl r.1) (lk [(1000, ⟨true, 0, [i64 r.2]⟩)]))) (t2 : List Pl) (t45 b4_0 : Bool) (b4_1 b4_2 b4_3 b4_4 : Int) (b4_5 : List Sol) (b1000_0 : Int) (r : (Bool × Int)) (h : Dimpl_checker_right_0 n self t2 t45 b4_0 b4_1 b4_2 b4_3 b4_4 b4_5 b1000_0 = some r) : Wk Tryz.prog H Y 74 [.code (cp [1, 1, 1, 0, 1] (bodyOf Tryz.f74)), .code (cp [1, 1, 1, 1] (bodyOf Tryz.f74))] (FinX Tryz.prog Tryz.f74 [(1000, ⟨true, 0, [.bad]⟩)] (bl r.1) [(1000, ⟨true, 0, [i64 r.2]⟩)]) ⟨[(0, .ptr 1000 0), (2, .sl false 4 t2.length ((ePl).f t2)), (4, .ptr 4 0), (45, bl t45)], [(4, ⟨true, 0, [bl b4_0, i64 b4_1, i64 b4_2, i64 b4_3, i64 b4_4, .sl false 6 b4_5.length ((eSol false).f b4_5)]⟩), (1000, ⟨true, 0, [i64 b1000_0]⟩)]⟩ := by
  unfold Dimpl_checker_right_0 at h
  refine x_frk 0 [] onil h (by kernel_rfl) (fun h => ?_) (fun h => ?_)
  · replace h := Option.some.inj h; subst h
    exact x_end 4 [] [] onil onil (by kernel_rfl)
  · obtain ⟨v2, hv2, h⟩ := bind_some h
    obtain ⟨v3, hv3, h⟩ := bind_some h
    refine x_frk 18 [(2, .call [] [] (.agg [i64 v2.A, i64 v2.B, i64 v2.C, i64 v2.D]) []), (5, .call [] [] (bl v3) [])] (ocons (Timpl_flip (Y := Y) (Pl.mk b4_1 b4_2 b4_3 b4_4) _ hv2) (ocons (Timpl_room (Y := Y) n t2 (Pl.mk b4_1 b4_2 b4_3 b4_4) _ hv3) onil)) h (by kernel_rfl) (fun h => ?_) (fun h => ?_)
    · replace h := Option.some.inj h; subst h
      exact x_end 11 [] [] onil onil (by kernel_rfl)
    · obtain ⟨v4, hv4, h⟩ := bind_some h
      exact x_to 6 [(2, .call [] [] (bl v4) [])] (ocons (Timpl_room (Y := Y) n t2 v2 _ hv4) onil) (Timpl_checker_right_1 n self hself t2 (!v4) b4_0 b4_1 b4_2 b4_3 b4_4 b4_5 v2.A v2.B v2.C v2.D b1000_0 r h) (by kernel_rfl)
def Dimpl_checker_right_b (n : Nat) (self : (Int × Sol × (List Pl)) → Option (Bool × Int)) (a : (Int × Sol × (List Pl))) : Option (Bool × Int) :=
  match a with
  | (a0, a1, a2) => (Dimpl_Solid_isLeaf a1).bind fun v0 => frk v0 (some ((a1.pl.A == 0 && (a1.pl.B == 0 && (a1.pl.C == 0 && (a1.pl.D == 0 && true)))), a0)) (frk a1.inn (some (false, w64 (a0 + 1))) (frk ((a1.kids.length : Int) != 2) (some (false, w64 (a0 + 1))) (frk (decide ((w64 (a0 + 1)) > 300)) (some (false, w64 (a0 + 1))) (frk (decide ((a2.length : Int) ≥ 24)) (some (false, w64 (a0 + 1))) ((Dimpl_PlaneOk n a1.pl).bind fun v1 => Dimpl_checker_right_0 n self a2 (!v1) a1.inn a1.pl.A a1.pl.B a1.pl.C a1.pl.D a1.kids (w64 (a0 + 1)))))))
def Dimpl_checker_right (n : Nat) (a0 : Int) (a1 : Sol) (a2 : (List Pl)) : Option (Bool × Int) := loopN (Dimpl_checker_right_b n) n (a0, a1, a2)
theorem Timpl_checker_right_b {Y} (n : Nat) : ∀ (m : Nat) (a : (Int × Sol × (List Pl))) (r : (Bool × Int)), loopN (Dimpl_checker_right_b n) m a = some r → ∀ (_ : Unit), Big Tryz.prog H Y (.call 74 [.ptr 1000 0, .agg [bl a.2.1.inn, i64 a.2.1.pl.A, i64 a.2.1.pl.B, i64 a.2.1.pl.C, i64 a.2.1.pl.D, .sl false 6 a.2.1.kids.length ((eSol false).f a.2.1.kids)], .sl false 4 a.2.2.length ((ePl).f a.2.2)] (lk [(1000, ⟨true, 0, [i64 a.1]⟩)]) (bl r.1) (lk [(1000, ⟨true, 0, [i64 r.2]⟩)])) := by
  refine loopN_ind (fun self hs a r h => ?_)
  have hself : ∀ (a : (Int × Sol × (List Pl))) (r : (Bool × Int)), self a = some r → Big Tryz.prog H Y (.call 74 [.ptr 1000 0, .agg [bl a.2.1.inn, i64 a.2.1.pl.A, i64 a.2.1.pl.B, i64 a.2.1.pl.C, i64 a.2.1.pl.D, .sl false 6 a.2.1.kids.length ((eSol false).f a.2.1.kids)], .sl false 4 a.2.2.length ((ePl).f a.2.2)] (lk [(1000, ⟨true, 0, [i64 a.1]⟩)]) (bl r.1) (lk [(1000, ⟨true, 0, [i64 r.2]⟩)])) := fun a r h => hs a r h ()
  intro _
  obtain ⟨a0, a1, a2⟩ := a
  unfold Dimpl_checker_right_b at h
  refine x_call (fn := Tryz.f74) (c := bodyOf Tryz.f74) (bs0 := [(1000, ⟨true, 0, [.bad]⟩)]) Tryz.func74 (by kernel_rfl) (by kernel_rfl) ?_
  obtain ⟨v0, hv0, h⟩ := bind_some h
  refine x_frk 10 [(2, .call [] [] (bl v0) [])] (ocons (Timpl_Solid_isLeaf (Y := Y) a1 [] _ hv0) onil) h (by kernel_rfl) (fun h => ?_) (fun h => ?_)
  · replace h := Option.some.inj h; subst h
    exact x_end 8 [] [] onil onil (by kernel_rfl)
  · refine x_frk 18 [] onil h (by kernel_rfl) (fun h => ?_) (fun h => ?_)
    · replace h := Option.some.inj h; subst h
      exact x_end 29 [] [] onil onil (by kernel_rfl)
    · refine x_frk 6 [] onil h (by kernel_rfl) (fun h => ?_) (fun h => ?_)
      · replace h := Option.some.inj h; subst h
        exact x_end 23 [] [] onil onil (by kernel_rfl)
      · refine x_frk 7 [] onil h (by kernel_rfl) (fun h => ?_) (fun h => ?_)
        · replace h := Option.some.inj h; subst h
          exact x_end 16 [] [] onil onil (by kernel_rfl)
        · refine x_frk 5 [] onil h (by kernel_rfl) (fun h => ?_) (fun h => ?_)
          · replace h := Option.some.inj h; subst h
            exact x_end 11 [] [] onil onil (by kernel_rfl)
          · obtain ⟨v1, hv1, h⟩ := bind_some h
            exact x_to 6 [(2, .call [] [] (bl v1) [])] (ocons (Timpl_PlaneOk (Y := Y) n a1.pl _ hv1) onil) (Timpl_checker_right_0 n self hself a2 (!v1) a1.inn a1.pl.A a1.pl.B a1.pl.C a1.pl.D a1.kids (w64 (a0 + 1)) r h) (by kernel_rfl)
theorem Timpl_checker_right {Y} (n : Nat) (a0 : Int) (a1 : Sol) (a2 : (List Pl)) (r : (Bool × Int)) (h : Dimpl_checker_right n a0 a1 a2 = some r) : Big Tryz.prog H Y (.call 74 [.ptr 1000 0, .agg [bl a1.inn, i64 a1.pl.A, i64 a1.pl.B, i64 a1.pl.C, i64 a1.pl.D, .sl false 6 a1.kids.length ((eSol false).f a1.kids)], .sl false 4 a2.length ((ePl).f a2)] (lk [(1000, ⟨true, 0, [i64 a0]⟩)]) (bl r.1) (lk [(1000, ⟨true, 0, [i64 r.2]⟩)])) := Timpl_checker_right_b n n (a0, a1, a2) r h ()
/-! impl.SolidOk -/
def Dimpl_SolidOk (n : Nat) (a0 : Sol) : Option Bool :=
  (Dimpl_checker_right n 0 a0 []).bind fun v0 => some v0.1
theorem Timpl_SolidOk {Y} (n : Nat) (a0 : Sol) (r : Bool) (h : Dimpl_SolidOk n a0 = some r) : Big Tryz.prog H Y (.call 18 [.agg [bl a0.inn, i64 a0.pl.A, i64 a0.pl.B, i64 a0.pl.C, i64 a0.pl.D, .sl false 6 a0.kids.length ((eSol false).f a0.kids)]] (lk []) (bl r) (lk [])) := by
  unfold Dimpl_SolidOk at h
  refine x_call (fn := Tryz.f18) (c := bodyOf Tryz.f18) (bs0 := []) Tryz.func18 (by kernel_rfl) (by kernel_rfl) ?_
  obtain ⟨v0, hv0, h⟩ := bind_some h
  replace h := Option.some.inj h; subst h
  exact x_end 15 [(4, .call [(false, 4)] [] (bl v0.1) [(1000, ⟨true, 0, [i64 v0.2]⟩)])] [] (ocons (Timpl_checker_right (Y := Y) n 0 a0 [] _ hv0) onil) onil (by kernel_rfl)
/-! impl.Leaf -/
def Dimpl_Leaf (a0 : Bool) : Option Sol :=
  some (Sol.mk a0 (Pl.mk 0 0 0 0) [])
theorem Timpl_Leaf {Y} (a0 : Bool) (r : Sol) (h : Dimpl_Leaf a0 = some r) : Big Tryz.prog H Y (.call 28 [bl a0] (lk []) (.agg [bl r.inn, i64 r.pl.A, i64 r.pl.B, i64 r.pl.C, i64 r.pl.D, .sl true 6 r.kids.length ((eSol true).f r.kids)]) (lk [])) := by
  unfold Dimpl_Leaf at h
  refine x_call (fn := Tryz.f28) (c := bodyOf Tryz.f28) (bs0 := []) Tryz.func28 (by kernel_rfl) (by kernel_rfl) ?_
  replace h := Option.some.inj h; subst h
  exact x_end 10 [] [(true, 6)] onil onil (by kernel_rfl)
/-! impl.turned -/
def Dimpl_turned_0 (_n : Nat) (t7 t8 t18 _b6_0 _b6_1 _b6_2 : Int) (rec0 : (Int × Int × Int × Int) → Option (Int × Int × Int)) (a : (Int × Int × Int × Int)) : Option (Int × Int × Int) :=
  match a with
  | (t19, b3_0, b3_1, b3_2) => frk (decide (t19 < t18)) ((lget [b3_0, b3_1, b3_2] t8).bind fun _v0 => (lget [b3_0, b3_1, b3_2] t8).bind fun v1 => (lget [b3_0, b3_1, b3_2] t7).bind fun _v2 => (lget [b3_0, b3_1, b3_2] t7).bind fun v3 => (lget [b3_0, b3_1, b3_2] t7).bind fun _v4 => (lget [b3_0, b3_1, b3_2] t7).bind fun _v5 => (some (List.set [b3_0, b3_1, b3_2] (Int.toNat t7) (w64 (0 - v1)))).bind fun v6 => (lget [(v6.getD 0 0), (v6.getD 1 0), (v6.getD 2 0)] t8).bind fun _v7 => (lget [(v6.getD 0 0), (v6.getD 1 0), (v6.getD 2 0)] t8).bind fun _v8 => (some (List.set [(v6.getD 0 0), (v6.getD 1 0), (v6.getD 2 0)] (Int.toNat t8) v3)).bind fun v9 => rec0 (w64 (t19 + 1), (v9.getD 0 0), (v9.getD 1 0), (v9.getD 2 0))) (some (b3_0, b3_1, b3_2))
theorem Timpl_turned_0 {Y} (n : Nat) (t7 t8 t18 b6_0 b6_1 b6_2 : Int) : ∀ (m : Nat) (a : (Int × Int × Int × Int)) (r : (Int × Int × Int)), loopN (Dimpl_turned_0 n t7 t8 t18 b6_0 b6_1 b6_2) m a = some r → Wk Tryz.prog H Y 68 [.code (cp [1, 1, 0, 1, 0] (bodyOf Tryz.f68)), .blk 0, .code (cp [1, 1, 1] (bodyOf Tryz.f68))] (FinX Tryz.prog Tryz.f68 [] (.agg [i64 r.1, i64 r.2.1, i64 r.2.2]) []) ⟨[(3, .ptr 3 0), (6, .ptr 6 0), (7, i64 t7), (8, i64 t8), (18, i64 t18), (19, i64 a.1)], [(3, ⟨true, 0, [i64 a.2.1, i64 a.2.2.1, i64 a.2.2.2]⟩), (6, ⟨true, 0, [i64 b6_0, i64 b6_1, i64 b6_2]⟩)]⟩ := by
  refine loopN_ind (fun _rec0 hrec0 a r h => ?_)
  obtain ⟨t19, b3_0, b3_1, b3_2⟩ := a
  unfold Dimpl_turned_0 at h
  refine x_frk 6 [] onil h (by kernel_rfl) (fun h => ?_) (fun h => ?_)
  · obtain ⟨_v0, hv0, h⟩ := bind_some h
    obtain ⟨v1, hv1, h⟩ := bind_some h
    obtain ⟨_v2, hv2, h⟩ := bind_some h
    obtain ⟨v3, hv3, h⟩ := bind_some h
    obtain ⟨_v4, hv4, h⟩ := bind_some h
    obtain ⟨_v5, hv5, h⟩ := bind_some h
    obtain ⟨v6, hv6, h⟩ := bind_some h
    obtain ⟨_v7, hv7, h⟩ := bind_some h
    obtain ⟨_v8, hv8, h⟩ := bind_some h
    obtain ⟨v9, hv9, h⟩ := bind_some h
    exact x_to 24 [(3, .unit), (0, .val (i64 v1)), (2, .unit), (0, .val (i64 v3)), (0, .unit), (0, .cells [i64 (v6.getD 0 0), i64 (v6.getD 1 0), i64 (v6.getD 2 0)]), (0, .unit), (0, .cells [i64 (v9.getD 0 0), i64 (v9.getD 1 0), i64 (v9.getD 2 0)])] (ocons (arIn (L := [b3_0, b3_1, b3_2]) (n := 3) hv0 rfl) (ocons (arLd [] [] .i64 (L := [b3_0, b3_1, b3_2]) hv1) (ocons (arIn (L := [b3_0, b3_1, b3_2]) (n := 3) hv2 rfl) (ocons (arLd [] [] .i64 (L := [b3_0, b3_1, b3_2]) hv3) (ocons (arIn (L := [b3_0, b3_1, b3_2]) (n := 3) hv4 rfl) (ocons (arSt [] [] .i64 (L := [b3_0, b3_1, b3_2]) (v := v6) 3 hv5 rfl hv6) (ocons (arIn (L := [(v6.getD 0 0), (v6.getD 1 0), (v6.getD 2 0)]) (n := 3) hv7 rfl) (ocons (arSt [] [] .i64 (L := [(v6.getD 0 0), (v6.getD 1 0), (v6.getD 2 0)]) (v := v9) 3 hv8 rfl hv9) onil)))))))) (hrec0 (w64 (t19 + 1), (v9.getD 0 0), (v9.getD 1 0), (v9.getD 2 0)) r h) (by kernel_rfl)
  · replace h := Option.some.inj h; subst h
    exact x_end 6 [] [] onil onil (by kernel_rfl)
def Dimpl_turned (n : Nat) (a0 : (Int × Int × Int)) (a1 a2 : Int) : Option (Int × Int × Int) :=
  loopN (Dimpl_turned_0 n (Int.tmod (w64 (a1 + 1)) 3) (Int.tmod (w64 (a1 + 2)) 3) (Int.tmod (w64 ((Int.tmod a2 4) + 4)) 4) 0 0 0) n (0, a0.1, a0.2.1, a0.2.2)
theorem Timpl_turned {Y} (n : Nat) (a0 : (Int × Int × Int)) (a1 a2 : Int) (r : (Int × Int × Int)) (h : Dimpl_turned n a0 a1 a2 = some r) : Big Tryz.prog H Y (.call 68 [.agg [i64 a0.1, i64 a0.2.1, i64 a0.2.2], i64 a1, i64 a2] (lk []) (.agg [i64 r.1, i64 r.2.1, i64 r.2.2]) (lk [])) := by
  unfold Dimpl_turned at h
  refine x_call (fn := Tryz.f68) (c := bodyOf Tryz.f68) (bs0 := []) Tryz.func68 (by kernel_rfl) (by kernel_rfl) ?_
  exact x_to 26 [] onil (Timpl_turned_0 n (Int.tmod (w64 (a1 + 1)) 3) (Int.tmod (w64 (a1 + 2)) 3) (Int.tmod (w64 ((Int.tmod a2 4) + 4)) 4) 0 0 0 n (0, a0.1, a0.2.1, a0.2.2) r h) (by kernel_rfl)
/-! impl.TurnSolid$1 -/
def Dimpl_TurnSolidLit1 (n : Nat) (a0 : Pl) (a1 a2 : Int) : Option (Pl × Bool) :=
  (Dimpl_normal a0).bind fun v0 => (Dimpl_turned n v0 a1 a2).bind fun v1 => some ((Pl.mk v1.1 v1.2.1 v1.2.2 a0.D), true)
theorem Timpl_TurnSolidLit1 {Y} (n : Nat) (a0 : Pl) (a1 a2 : Int) (r : (Pl × Bool)) (h : Dimpl_TurnSolidLit1 n a0 a1 a2 = some r) : Big Tryz.prog H Y (.call 67 [.agg [i64 a0.A, i64 a0.B, i64 a0.C, i64 a0.D], .cptr [i64 a1], .cptr [i64 a2]] (lk []) (.tup [.agg [i64 r.1.A, i64 r.1.B, i64 r.1.C, i64 r.1.D], bl r.2]) (lk [])) := by
  unfold Dimpl_TurnSolidLit1 at h
  refine x_call (fn := Tryz.f67) (c := bodyOf Tryz.f67) (bs0 := []) Tryz.func67 (by kernel_rfl) (by kernel_rfl) ?_
  obtain ⟨v0, hv0, h⟩ := bind_some h
  obtain ⟨v1, hv1, h⟩ := bind_some h
  replace h := Option.some.inj h; subst h
  exact x_end 30 [(4, .call [] [] (.agg [i64 v0.1, i64 v0.2.1, i64 v0.2.2]) []), (2, .call [] [] (.agg [i64 v1.1, i64 v1.2.1, i64 v1.2.2]) [])] [] (ocons (Timpl_normal (Y := Y) a0 _ hv0) (ocons (Timpl_turned (Y := Y) n v0 a1 a2 _ hv1) onil)) onil (by kernel_rfl)
/-! impl.node -/
def Dimpl_nodeo1o2 (a0 : Pl) (a1 : Sol) (a2 : Sol) : Option Sol :=
  some (Sol.mk false a0 [a1, a2])
theorem Timpl_nodeo1o2 {Y} (a0 : Pl) (a1 : Sol) (a2 : Sol) (r : Sol) (h : Dimpl_nodeo1o2 a0 a1 a2 = some r) : Big Tryz.prog H Y (.call 101 [.agg [i64 a0.A, i64 a0.B, i64 a0.C, i64 a0.D], .agg [bl a1.inn, i64 a1.pl.A, i64 a1.pl.B, i64 a1.pl.C, i64 a1.pl.D, .sl true 6 a1.kids.length ((eSol true).f a1.kids)], .agg [bl a2.inn, i64 a2.pl.A, i64 a2.pl.B, i64 a2.pl.C, i64 a2.pl.D, .sl true 6 a2.kids.length ((eSol true).f a2.kids)]] (lk []) (.agg [bl r.inn, i64 r.pl.A, i64 r.pl.B, i64 r.pl.C, i64 r.pl.D, .sl true 6 r.kids.length ((eSol true).f r.kids)]) (lk [])) := by
  unfold Dimpl_nodeo1o2 at h
  refine x_call (fn := Tryz.f101) (c := bodyOf Tryz.f101) (bs0 := []) Tryz.func101 (by kernel_rfl) (by kernel_rfl) ?_
  replace h := Option.some.inj h; subst h
  exact x_end 17 [(8, .fixb 10 ⟨true, 6, (eSol true).f [a1, a2]⟩)] [] (ocons (boxSol true true [a1, a2]) onil) (ocons (len_row (L := [a1, a2]) (eSol true)) onil) (by kernel_rfl)
/-! impl.moved -/
def Dimpl_movedfimpl_TurnSolidLit1_b (n : Nat) (self : (Sol × (Int × Int)) → Option (Sol × Bool)) (a : (Sol × (Int × Int))) : Option (Sol × Bool) :=
  match a with
  | (a0, a1) => (Dimpl_Solid_isLeaf a0).bind fun v0 => frk v0 ((Dimpl_Leaf a0.inn).bind fun v1 => some (v1, true)) ((Dimpl_TurnSolidLit1 n a0.pl a1.1 a1.2).bind fun v2 => (lget a0.kids 0).bind fun v3 => (self (v3, a1)).bind fun v4 => (lget a0.kids 1).bind fun v5 => (self (v5, a1)).bind fun v6 => (Dimpl_nodeo1o2 v2.1 v4.1 v6.1).bind fun v7 => frk v2.2 (frk v4.2 (some (v7, v6.2)) (some (v7, false))) (some (v7, false)))
def Dimpl_movedfimpl_TurnSolidLit1 (n : Nat) (a0 : Sol) (a1 : (Int × Int)) : Option (Sol × Bool) := loopN (Dimpl_movedfimpl_TurnSolidLit1_b n) n (a0, a1)
theorem Timpl_movedfimpl_TurnSolidLit1_b {Y} (n : Nat) : ∀ (m : Nat) (a : (Sol × (Int × Int))) (r : (Sol × Bool)), loopN (Dimpl_movedfimpl_TurnSolidLit1_b n) m a = some r → ∀ (_ : Unit), Big Tryz.prog H Y (.call 66 [.agg [bl a.1.inn, i64 a.1.pl.A, i64 a.1.pl.B, i64 a.1.pl.C, i64 a.1.pl.D, .sl false 6 a.1.kids.length ((eSol false).f a.1.kids)], .fnv 67 [.cptr [i64 a.2.1], .cptr [i64 a.2.2]]] (lk []) (.tup [.agg [bl r.1.inn, i64 r.1.pl.A, i64 r.1.pl.B, i64 r.1.pl.C, i64 r.1.pl.D, .sl true 6 r.1.kids.length ((eSol true).f r.1.kids)], bl r.2]) (lk [])) := by
  refine loopN_ind (fun self hs a r h => ?_)
  have hself : ∀ (a : (Sol × (Int × Int))) (r : (Sol × Bool)), self a = some r → Big Tryz.prog H Y (.call 66 [.agg [bl a.1.inn, i64 a.1.pl.A, i64 a.1.pl.B, i64 a.1.pl.C, i64 a.1.pl.D, .sl false 6 a.1.kids.length ((eSol false).f a.1.kids)], .fnv 67 [.cptr [i64 a.2.1], .cptr [i64 a.2.2]]] (lk []) (.tup [.agg [bl r.1.inn, i64 r.1.pl.A, i64 r.1.pl.B, i64 r.1.pl.C, i64 r.1.pl.D, .sl true 6 r.1.kids.length ((eSol true).f r.1.kids)], bl r.2]) (lk [])) := fun a r h => hs a r h ()
  intro _
  obtain ⟨a0, a1⟩ := a
  unfold Dimpl_movedfimpl_TurnSolidLit1_b at h
  refine x_call (fn := Tryz.f66) (c := bodyOf Tryz.f66) (bs0 := []) Tryz.func66 (by kernel_rfl) (by kernel_rfl) ?_
  obtain ⟨v0, hv0, h⟩ := bind_some h
  refine x_frk 11 [(3, .call [] [] (bl v0) [])] (ocons (Timpl_Solid_isLeaf (Y := Y) a0 [] _ hv0) onil) h (by kernel_rfl) (fun h => ?_) (fun h => ?_)
  · obtain ⟨v1, hv1, h⟩ := bind_some h
    replace h := Option.some.inj h; subst h
    exact x_end 8 [(2, .call [] [] (.agg [bl v1.inn, i64 v1.pl.A, i64 v1.pl.B, i64 v1.pl.C, i64 v1.pl.D, .sl true 6 v1.kids.length ((eSol true).f v1.kids)]) [])] [] (ocons (Timpl_Leaf (Y := Y) a0.inn _ hv1) onil) onil (by kernel_rfl)
  · obtain ⟨v2, hv2, h⟩ := bind_some h
    obtain ⟨v3, hv3, h⟩ := bind_some h
    obtain ⟨v4, hv4, h⟩ := bind_some h
    obtain ⟨v5, hv5, h⟩ := bind_some h
    obtain ⟨v6, hv6, h⟩ := bind_some h
    obtain ⟨v7, hv7, h⟩ := bind_some h
    refine x_frk 52 [(3, .call [] [] (.tup [.agg [i64 v2.1.A, i64 v2.1.B, i64 v2.1.C, i64 v2.1.D], bl v2.2]) []), (8, .val (.cptr ((eSol false).c v3 ++ (eSol false).f ((a0.kids).drop (Int.toNat 0 + 1))))), (2, .call [] [] (.tup [.agg [bl v4.1.inn, i64 v4.1.pl.A, i64 v4.1.pl.B, i64 v4.1.pl.C, i64 v4.1.pl.D, .sl true 6 v4.1.kids.length ((eSol true).f v4.1.kids)], bl v4.2]) []), (8, .val (.cptr ((eSol false).c v5 ++ (eSol false).f ((a0.kids).drop (Int.toNat 1 + 1))))), (2, .call [] [] (.tup [.agg [bl v6.1.inn, i64 v6.1.pl.A, i64 v6.1.pl.B, i64 v6.1.pl.C, i64 v6.1.pl.D, .sl true 6 v6.1.kids.length ((eSol true).f v6.1.kids)], bl v6.2]) []), (9, .call [] [] (.agg [bl v7.inn, i64 v7.pl.A, i64 v7.pl.B, i64 v7.pl.C, i64 v7.pl.D, .sl true 6 v7.kids.length ((eSol true).f v7.kids)]) [])] (ocons (Timpl_TurnSolidLit1 (Y := Y) n a0.pl a1.1 a1.2 _ hv2) (ocons (ix (eSol false) hv3) (ocons (hself (v3, a1) _ hv4) (ocons (ix (eSol false) hv5) (ocons (hself (v5, a1) _ hv6) (ocons (Timpl_nodeo1o2 (Y := Y) v2.1 v4.1 v6.1 _ hv7) onil)))))) h (by kernel_rfl) (fun h => ?_) (fun h => ?_)
    · refine x_frk 3 [] onil h (by kernel_rfl) (fun h => ?_) (fun h => ?_)
      · replace h := Option.some.inj h; subst h
        exact x_end 5 [] [] onil onil (by kernel_rfl)
      · replace h := Option.some.inj h; subst h
        exact x_end 5 [] [] onil onil (by kernel_rfl)
    · replace h := Option.some.inj h; subst h
      exact x_end 8 [] [] onil onil (by kernel_rfl)
theorem Timpl_movedfimpl_TurnSolidLit1 {Y} (n : Nat) (a0 : Sol) (a1 : (Int × Int)) (r : (Sol × Bool)) (h : Dimpl_movedfimpl_TurnSolidLit1 n a0 a1 = some r) : Big Tryz.prog H Y (.call 66 [.agg [bl a0.inn, i64 a0.pl.A, i64 a0.pl.B, i64 a0.pl.C, i64 a0.pl.D, .sl false 6 a0.kids.length ((eSol false).f a0.kids)], .fnv 67 [.cptr [i64 a1.1], .cptr [i64 a1.2]]] (lk []) (.tup [.agg [bl r.1.inn, i64 r.1.pl.A, i64 r.1.pl.B, i64 r.1.pl.C, i64 r.1.pl.D, .sl true 6 r.1.kids.length ((eSol true).f r.1.kids)], bl r.2]) (lk [])) := Timpl_movedfimpl_TurnSolidLit1_b n n (a0, a1) r h ()
/-! impl.TurnSolid -/
def Dimpl_TurnSolid_0 (n : Nat) (b3_0 : Bool) (b3_1 b3_2 b3_3 b3_4 : Int) (b3_5 : List Sol) (_b6_0 : Bool) (_b6_1 _b6_2 _b6_3 _b6_4 : Int) : Option Sol :=
  (Dimpl_copySolid n (Sol.mk b3_0 (Pl.mk b3_1 b3_2 b3_3 b3_4) b3_5)).bind fun v1 => some v1
theorem Timpl_TurnSolid_0 {Y} (n : Nat) (b3_0 : Bool) (b3_1 b3_2 b3_3 b3_4 : Int) (b3_5 : List Sol) (b6_0 : Bool) (b6_1 b6_2 b6_3 b6_4 : Int) (r : Sol) (h : Dimpl_TurnSolid_0 n b3_0 b3_1 b3_2 b3_3 b3_4 b3_5 b6_0 b6_1 b6_2 b6_3 b6_4 = some r) : Wk Tryz.prog H Y 13 [.code (cp [1, 0, 1, 0, 0] (bodyOf Tryz.f13)), .code (cp [1, 0, 1, 0, 1] (bodyOf Tryz.f13)), .code (cp [1, 1] (bodyOf Tryz.f13))] (FinX Tryz.prog Tryz.f13 [] (.agg [bl r.inn, i64 r.pl.A, i64 r.pl.B, i64 r.pl.C, i64 r.pl.D, .sl true 6 r.kids.length ((eSol true).f r.kids)]) []) ⟨[(3, .ptr 3 0), (6, .ptr 6 0)], [(3, ⟨true, 0, [bl b3_0, i64 b3_1, i64 b3_2, i64 b3_3, i64 b3_4, .sl false 6 b3_5.length ((eSol false).f b3_5)]⟩), (6, ⟨true, 0, [bl b6_0, i64 b6_1, i64 b6_2, i64 b6_3, i64 b6_4, .nil]⟩)]⟩ := by
  unfold Dimpl_TurnSolid_0 at h
  obtain ⟨v1, hv1, h⟩ := bind_some h
  replace h := Option.some.inj h; subst h
  exact x_end 5 [(1, .call [] [] (.agg [bl v1.inn, i64 v1.pl.A, i64 v1.pl.B, i64 v1.pl.C, i64 v1.pl.D, .sl true 6 v1.kids.length ((eSol true).f v1.kids)]) [])] [] (ocons (Timpl_copySolid (Y := Y) n (Sol.mk b3_0 (Pl.mk b3_1 b3_2 b3_3 b3_4) b3_5) _ hv1) onil) onil (by kernel_rfl)
def Dimpl_TurnSolid_1 (n : Nat) (t16 b3_0 : Bool) (b3_1 b3_2 b3_3 b3_4 : Int) (b3_5 : List Sol) (b4_0 b5_0 : Int) (_b6_0 : Bool) (_b6_1 _b6_2 _b6_3 _b6_4 : Int) : Option Sol :=
  frk t16 ((Dimpl_copySolid n (Sol.mk b3_0 (Pl.mk b3_1 b3_2 b3_3 b3_4) b3_5)).bind fun v3 => some v3) ((Dimpl_movedfimpl_TurnSolidLit1 n (Sol.mk b3_0 (Pl.mk b3_1 b3_2 b3_3 b3_4) b3_5) (b4_0, b5_0)).bind fun v4 => some v4.1)
theorem Timpl_TurnSolid_1 {Y} (n : Nat) (t16 b3_0 : Bool) (b3_1 b3_2 b3_3 b3_4 : Int) (b3_5 : List Sol) (b4_0 b5_0 : Int) (b6_0 : Bool) (b6_1 b6_2 b6_3 b6_4 : Int) (r : Sol) (h : Dimpl_TurnSolid_1 n t16 b3_0 b3_1 b3_2 b3_3 b3_4 b3_5 b4_0 b5_0 b6_0 b6_1 b6_2 b6_3 b6_4 = some r) : Wk Tryz.prog H Y 13 [.code (cp [1, 0, 1] (bodyOf Tryz.f13)), .code (cp [1, 1] (bodyOf Tryz.f13))] (FinX Tryz.prog Tryz.f13 [] (.agg [bl r.inn, i64 r.pl.A, i64 r.pl.B, i64 r.pl.C, i64 r.pl.D, .sl true 6 r.kids.length ((eSol true).f r.kids)]) []) ⟨[(3, .ptr 3 0), (4, .ptr 4 0), (5, .ptr 5 0), (6, .ptr 6 0), (16, bl t16)], [(3, ⟨true, 0, [bl b3_0, i64 b3_1, i64 b3_2, i64 b3_3, i64 b3_4, .sl false 6 b3_5.length ((eSol false).f b3_5)]⟩), (4, ⟨true, 0, [i64 b4_0]⟩), (5, ⟨true, 0, [i64 b5_0]⟩), (6, ⟨true, 0, [bl b6_0, i64 b6_1, i64 b6_2, i64 b6_3, i64 b6_4, .nil]⟩)]⟩ := by
  unfold Dimpl_TurnSolid_1 at h
  refine x_frk 0 [] onil h (by kernel_rfl) (fun h => ?_) (fun h => ?_)
  · obtain ⟨v3, hv3, h⟩ := bind_some h
    replace h := Option.some.inj h; subst h
    exact x_end 6 [(1, .call [] [] (.agg [bl v3.inn, i64 v3.pl.A, i64 v3.pl.B, i64 v3.pl.C, i64 v3.pl.D, .sl true 6 v3.kids.length ((eSol true).f v3.kids)]) [])] [] (ocons (Timpl_copySolid (Y := Y) n (Sol.mk b3_0 (Pl.mk b3_1 b3_2 b3_3 b3_4) b3_5) _ hv3) onil) onil (by kernel_rfl)
  · obtain ⟨v4, hv4, h⟩ := bind_some h
    replace h := Option.some.inj h; subst h
    exact x_end 18 [(2, .call [] [] (.tup [.agg [bl v4.1.inn, i64 v4.1.pl.A, i64 v4.1.pl.B, i64 v4.1.pl.C, i64 v4.1.pl.D, .sl true 6 v4.1.kids.length ((eSol true).f v4.1.kids)], bl v4.2]) [])] [] (ocons (Timpl_movedfimpl_TurnSolidLit1 (Y := Y) n (Sol.mk b3_0 (Pl.mk b3_1 b3_2 b3_3 b3_4) b3_5) (b4_0, b5_0) _ hv4) (ocons (show hasSh (.tup [.agg [bl v4.1.inn, i64 v4.1.pl.A, i64 v4.1.pl.B, i64 v4.1.pl.C, i64 v4.1.pl.D, .sl true 6 v4.1.kids.length ((eSol true).f v4.1.kids)], bl v4.2]) = false by simp [hasSh, hasShL, nSh, nShI, nShB, nShP, nShT, nShN, nShPs]) onil)) onil (by kernel_rfl)
def Dimpl_TurnSolid (n : Nat) (a0 : Sol) (a1 a2 : Int) : Option Sol :=
  (Dimpl_isAxis a1).bind fun v0 => frk (!v0) (Dimpl_TurnSolid_0 n a0.inn a0.pl.A a0.pl.B a0.pl.C a0.pl.D a0.kids false 0 0 0 0) ((Dimpl_SolidOk n a0).bind fun v2 => Dimpl_TurnSolid_1 n (!v2) a0.inn a0.pl.A a0.pl.B a0.pl.C a0.pl.D a0.kids a1 a2 false 0 0 0 0)
theorem Timpl_TurnSolid {Y} (n : Nat) (a0 : Sol) (a1 a2 : Int) (r : Sol) (h : Dimpl_TurnSolid n a0 a1 a2 = some r) : Big Tryz.prog H Y (.call 13 [.agg [bl a0.inn, i64 a0.pl.A, i64 a0.pl.B, i64 a0.pl.C, i64 a0.pl.D, .sl false 6 a0.kids.length ((eSol false).f a0.kids)], i64 a1, i64 a2] (lk []) (.agg [bl r.inn, i64 r.pl.A, i64 r.pl.B, i64 r.pl.C, i64 r.pl.D, .sl true 6 r.kids.length ((eSol true).f r.kids)]) (lk [])) := by
  unfold Dimpl_TurnSolid at h
  refine x_call (fn := Tryz.f13) (c := bodyOf Tryz.f13) (bs0 := []) Tryz.func13 (by kernel_rfl) (by kernel_rfl) ?_
  obtain ⟨v0, hv0, h⟩ := bind_some h
  refine x_frk 14 [(5, .call [] [] (bl v0) [])] (ocons (Timpl_isAxis (Y := Y) a1 _ hv0) onil) h (by kernel_rfl) (fun h => ?_) (fun h => ?_)
  · exact x_to 7 [] onil (Timpl_TurnSolid_0 n a0.inn a0.pl.A a0.pl.B a0.pl.C a0.pl.D a0.kids false 0 0 0 0 r h) (by kernel_rfl)
  · obtain ⟨v2, hv2, h⟩ := bind_some h
    exact x_to 5 [(1, .call [] [] (bl v2) [])] (ocons (Timpl_SolidOk (Y := Y) n a0 _ hv2) onil) (Timpl_TurnSolid_1 n (!v2) a0.inn a0.pl.A a0.pl.B a0.pl.C a0.pl.D a0.kids a1 a2 false 0 0 0 0 r h) (by kernel_rfl)
/-! spec.l8Leaf -/
def Dspec_l8Leaf (a0 : Sol) : Option Bool :=
  some ((a0.kids.length : Int) == 0)
theorem Tspec_l8Leaf {Y} (a0 : Sol) (r : Bool) (h : Dspec_l8Leaf a0 = some r) : Big Tryz.prog H Y (.call 132 [.agg [bl a0.inn, i64 a0.pl.A, i64 a0.pl.B, i64 a0.pl.C, i64 a0.pl.D, .sl false 6 a0.kids.length ((eSol false).f a0.kids)]] (lk []) (bl r) (lk [])) := by
  unfold Dspec_l8Leaf at h
  refine x_call (fn := Tryz.f132) (c := bodyOf Tryz.f132) (bs0 := []) Tryz.func132 (by kernel_rfl) (by kernel_rfl) ?_
  replace h := Option.some.inj h; subst h
  exact x_end 13 [] [] onil onil (by kernel_rfl)
/-! spec.l8Count -/
def Dspec_l8Count_1 (_n : Nat) (self : (Sol × Int) → Option Int) (t1 : Int) (_b2_0 : Bool) (_b2_1 _b2_2 _b2_3 _b2_4 : Int) (b2_5 : List Sol) (rec0 : (Int × Int) → Option Int) (a : (Int × Int)) : Option Int :=
  match a with
  | (t5, t6) => frk (decide (t6 < (b2_5.length : Int))) ((lget b2_5 t6).bind fun v1 => (self (v1, w64 (t1 - t5))).bind fun v2 => rec0 (w64 (t5 + v2), w64 (t6 + 1))) (some t5)
theorem Tspec_l8Count_1 {Y} (n : Nat) (self : (Sol × Int) → Option Int) (hself : ∀ (a : (Sol × Int)) (r : Int), self a = some r → Big Tryz.prog H Y (.call 70 [.agg [bl a.1.inn, i64 a.1.pl.A, i64 a.1.pl.B, i64 a.1.pl.C, i64 a.1.pl.D, .sl false 6 a.1.kids.length ((eSol false).f a.1.kids)], i64 a.2] (lk []) (i64 r) (lk []))) (t1 : Int) (b2_0 : Bool) (b2_1 b2_2 b2_3 b2_4 : Int) (b2_5 : List Sol) : ∀ (m : Nat) (a : (Int × Int)) (r : Int), loopN (Dspec_l8Count_1 n self t1 b2_0 b2_1 b2_2 b2_3 b2_4 b2_5) m a = some r → Wk Tryz.prog H Y 70 [.code (cp [1, 1, 1, 0, 1, 0] (bodyOf Tryz.f70)), .blk 0, .code (cp [1, 1, 1, 1] (bodyOf Tryz.f70))] (FinX Tryz.prog Tryz.f70 [] (i64 r) []) ⟨[(1, i64 t1), (2, .ptr 2 0), (5, i64 a.1), (6, i64 a.2)], [(2, ⟨true, 0, [bl b2_0, i64 b2_1, i64 b2_2, i64 b2_3, i64 b2_4, .sl false 6 b2_5.length ((eSol false).f b2_5)]⟩)]⟩ := by
  refine loopN_ind (fun _rec0 hrec0 a r h => ?_)
  obtain ⟨t5, t6⟩ := a
  unfold Dspec_l8Count_1 at h
  refine x_frk 10 [] onil h (by kernel_rfl) (fun h => ?_) (fun h => ?_)
  · obtain ⟨v1, hv1, h⟩ := bind_some h
    obtain ⟨v2, hv2, h⟩ := bind_some h
    exact x_to 24 [(4, .val (.cptr ((eSol false).c v1 ++ (eSol false).f ((b2_5).drop (Int.toNat t6 + 1))))), (4, .call [] [] (i64 v2) [])] (ocons (ix (eSol false) hv1) (ocons (hself (v1, w64 (t1 - t5)) _ hv2) onil)) (hrec0 (w64 (t5 + v2), w64 (t6 + 1)) r h) (by kernel_rfl)
  · replace h := Option.some.inj h; subst h
    exact x_end 6 [] [] onil onil (by kernel_rfl)
def Dspec_l8Count_0 (n : Nat) (self : (Sol × Int) → Option Int) (t1 : Int) (t12 b2_0 : Bool) (b2_1 b2_2 b2_3 b2_4 : Int) (b2_5 : List Sol) : Option Int :=
  frk t12 (some 0) (loopN (Dspec_l8Count_1 n self t1 b2_0 b2_1 b2_2 b2_3 b2_4 b2_5) n (1, 0))
theorem Tspec_l8Count_0 {Y} (n : Nat) (self : (Sol × Int) → Option Int) (hself : ∀ (a : (Sol × Int)) (r : Int), self a = some r → Big Tryz.prog H Y (.call 70 [.agg [bl a.1.inn, i64 a.1.pl.A, i64 a.1.pl.B, i64 a.1.pl.C, i64 a.1.pl.D, .sl false 6 a.1.kids.length ((eSol false).f a.1.kids)], i64 a.2] (lk []) (i64 r) (lk []))) (t1 : Int) (t12 b2_0 : Bool) (b2_1 b2_2 b2_3 b2_4 : Int) (b2_5 : List Sol) (r : Int) (h : Dspec_l8Count_0 n self t1 t12 b2_0 b2_1 b2_2 b2_3 b2_4 b2_5 = some r) : Wk Tryz.prog H Y 70 [.code (cp [1, 0, 1] (bodyOf Tryz.f70)), .code (cp [1, 1] (bodyOf Tryz.f70))] (FinX Tryz.prog Tryz.f70 [] (i64 r) []) ⟨[(1, i64 t1), (2, .ptr 2 0), (12, bl t12)], [(2, ⟨true, 0, [bl b2_0, i64 b2_1, i64 b2_2, i64 b2_3, i64 b2_4, .sl false 6 b2_5.length ((eSol false).f b2_5)]⟩)]⟩ := by
  unfold Dspec_l8Count_0 at h
  refine x_frk 0 [] onil h (by kernel_rfl) (fun h => ?_) (fun h => ?_)
  · replace h := Option.some.inj h; subst h
    exact x_end 4 [] [] onil onil (by kernel_rfl)
  · exact x_to 11 [] onil (Tspec_l8Count_1 n self hself t1 b2_0 b2_1 b2_2 b2_3 b2_4 b2_5 n (1, 0) r h) (by kernel_rfl)
def Dspec_l8Count_b (n : Nat) (self : (Sol × Int) → Option Int) (a : (Sol × Int)) : Option Int :=
  match a with
  | (a0, a1) => (Dspec_l8Leaf a0).bind fun v0 => frk v0 (some 0) (Dspec_l8Count_0 n self a1 (decide (a1 ≤ 0)) a0.inn a0.pl.A a0.pl.B a0.pl.C a0.pl.D a0.kids)
def Dspec_l8Count (n : Nat) (a0 : Sol) (a1 : Int) : Option Int := loopN (Dspec_l8Count_b n) n (a0, a1)
theorem Tspec_l8Count_b {Y} (n : Nat) : ∀ (m : Nat) (a : (Sol × Int)) (r : Int), loopN (Dspec_l8Count_b n) m a = some r → ∀ (_ : Unit), Big Tryz.prog H Y (.call 70 [.agg [bl a.1.inn, i64 a.1.pl.A, i64 a.1.pl.B, i64 a.1.pl.C, i64 a.1.pl.D, .sl false 6 a.1.kids.length ((eSol false).f a.1.kids)], i64 a.2] (lk []) (i64 r) (lk [])) := by
  refine loopN_ind (fun self hs a r h => ?_)
  have hself : ∀ (a : (Sol × Int)) (r : Int), self a = some r → Big Tryz.prog H Y (.call 70 [.agg [bl a.1.inn, i64 a.1.pl.A, i64 a.1.pl.B, i64 a.1.pl.C, i64 a.1.pl.D, .sl false 6 a.1.kids.length ((eSol false).f a.1.kids)], i64 a.2] (lk []) (i64 r) (lk [])) := fun a r h => hs a r h ()
  intro _
  obtain ⟨a0, a1⟩ := a
  unfold Dspec_l8Count_b at h
  refine x_call (fn := Tryz.f70) (c := bodyOf Tryz.f70) (bs0 := []) Tryz.func70 (by kernel_rfl) (by kernel_rfl) ?_
  obtain ⟨v0, hv0, h⟩ := bind_some h
  refine x_frk 11 [(3, .call [] [] (bl v0) [])] (ocons (Tspec_l8Leaf (Y := Y) a0 _ hv0) onil) h (by kernel_rfl) (fun h => ?_) (fun h => ?_)
  · replace h := Option.some.inj h; subst h
    exact x_end 9 [] [] onil onil (by kernel_rfl)
  · exact x_to 4 [] onil (Tspec_l8Count_0 n self hself a1 (decide (a1 ≤ 0)) a0.inn a0.pl.A a0.pl.B a0.pl.C a0.pl.D a0.kids r h) (by kernel_rfl)
theorem Tspec_l8Count {Y} (n : Nat) (a0 : Sol) (a1 r : Int) (h : Dspec_l8Count n a0 a1 = some r) : Big Tryz.prog H Y (.call 70 [.agg [bl a0.inn, i64 a0.pl.A, i64 a0.pl.B, i64 a0.pl.C, i64 a0.pl.D, .sl false 6 a0.kids.length ((eSol false).f a0.kids)], i64 a1] (lk []) (i64 r) (lk [])) := Tspec_l8Count_b n n (a0, a1) r h ()
/-! spec.l8Look -/
def Dspec_l8Look_0 (_n : Nat) (self : (Sol × (List Pl)) → Option Bool) (t1 : List Pl) (t42 _b2_0 : Bool) (b2_1 b2_2 b2_3 b2_4 : Int) (b2_5 : List Sol) : Option Bool :=
  frk t42 (some false) ((lget b2_5 0).bind fun v5 => (Dspec_l8Path t1 (Pl.mk b2_1 b2_2 b2_3 b2_4)).bind fun v6 => (self (v5, v6)).bind fun v7 => frk v7 ((lget b2_5 1).bind fun v8 => (Dspec_l3Flip (Pl.mk b2_1 b2_2 b2_3 b2_4)).bind fun v9 => (Dspec_l8Path t1 v9).bind fun v10 => (self (v8, v10)).bind fun v11 => some v11) (some false))
theorem Tspec_l8Look_0 {Y} (n : Nat) (self : (Sol × (List Pl)) → Option Bool) (hself : ∀ (a : (Sol × (List Pl))) (r : Bool), self a = some r → Big Tryz.prog H Y (.call 71 [.agg [bl a.1.inn, i64 a.1.pl.A, i64 a.1.pl.B, i64 a.1.pl.C, i64 a.1.pl.D, .sl false 6 a.1.kids.length ((eSol false).f a.1.kids)], .sl false 4 a.2.length ((ePl).f a.2)] (lk []) (bl r) (lk []))) (t1 : List Pl) (t42 b2_0 : Bool) (b2_1 b2_2 b2_3 b2_4 : Int) (b2_5 : List Sol) (r : Bool) (h : Dspec_l8Look_0 n self t1 t42 b2_0 b2_1 b2_2 b2_3 b2_4 b2_5 = some r) : Wk Tryz.prog H Y 71 [.code (cp [1, 1, 0, 1] (bodyOf Tryz.f71)), .code (cp [1, 1, 1] (bodyOf Tryz.f71))] (FinX Tryz.prog Tryz.f71 [] (bl r) []) ⟨[(1, .sl false 4 t1.length ((ePl).f t1)), (2, .ptr 2 0), (42, bl t42)], [(2, ⟨true, 0, [bl b2_0, i64 b2_1, i64 b2_2, i64 b2_3, i64 b2_4, .sl false 6 b2_5.length ((eSol false).f b2_5)]⟩)]⟩ := by
  unfold Dspec_l8Look_0 at h
  refine x_frk 0 [] onil h (by kernel_rfl) (fun h => ?_) (fun h => ?_)
  · replace h := Option.some.inj h; subst h
    exact x_end 4 [] [] onil onil (by kernel_rfl)
  · obtain ⟨v5, hv5, h⟩ := bind_some h
    obtain ⟨v6, hv6, h⟩ := bind_some h
    obtain ⟨v7, hv7, h⟩ := bind_some h
    refine x_frk 13 [(2, .val (.cptr ((eSol false).c v5 ++ (eSol false).f ((b2_5).drop (Int.toNat 0 + 1))))), (4, .call [] [] (.sl false 4 v6.length ((ePl).f v6)) []), (0, .call [] [] (bl v7) [])] (ocons (ix (eSol false) hv5) (ocons (shSl (L := v6) ePl ePl sPl (Tspec_l8Path (Y := Y) t1 (Pl.mk b2_1 b2_2 b2_3 b2_4) _ hv6)) (ocons (hself (v5, v6) _ hv7) onil))) h (by kernel_rfl) (fun h => ?_) (fun h => ?_)
    · obtain ⟨v8, hv8, h⟩ := bind_some h
      obtain ⟨v9, hv9, h⟩ := bind_some h
      obtain ⟨v10, hv10, h⟩ := bind_some h
      obtain ⟨v11, hv11, h⟩ := bind_some h
      replace h := Option.some.inj h; subst h
      exact x_end 13 [(2, .val (.cptr ((eSol false).c v8 ++ (eSol false).f ((b2_5).drop (Int.toNat 1 + 1))))), (4, .call [] [] (.agg [i64 v9.A, i64 v9.B, i64 v9.C, i64 v9.D]) []), (0, .call [] [] (.sl false 4 v10.length ((ePl).f v10)) []), (0, .call [] [] (bl v11) [])] [] (ocons (ix (eSol false) hv8) (ocons (Tspec_l3Flip (Y := Y) (Pl.mk b2_1 b2_2 b2_3 b2_4) _ hv9) (ocons (shSl (L := v10) ePl ePl sPl (Tspec_l8Path (Y := Y) t1 v9 _ hv10)) (ocons (hself (v8, v10) _ hv11) onil)))) onil (by kernel_rfl)
    · replace h := Option.some.inj h; subst h
      exact x_end 13 [] [] onil onil (by kernel_rfl)
def Dspec_l8Look_b (n : Nat) (self : (Sol × (List Pl)) → Option Bool) (a : (Sol × (List Pl))) : Option Bool :=
  match a with
  | (a0, a1) => (Dspec_l8Leaf a0).bind fun v0 => frk v0 (some (a0.pl.A == 0 && (a0.pl.B == 0 && (a0.pl.C == 0 && (a0.pl.D == 0 && true))))) (frk ((a0.kids.length : Int) != 2) (some false) (frk a0.inn (some false) ((Dspec_PlaneOk n a0.pl).bind fun v1 => frk (!v1) (some false) (frk ((a1.length : Int) == 24) (some false) ((Dspec_l6With n a1 a0.pl).bind fun v2 => frk v2 (some false) ((Dspec_l3Flip a0.pl).bind fun v3 => (Dspec_l6With n a1 v3).bind fun v4 => Dspec_l8Look_0 n self a1 v4 a0.inn a0.pl.A a0.pl.B a0.pl.C a0.pl.D a0.kids))))))
def Dspec_l8Look (n : Nat) (a0 : Sol) (a1 : (List Pl)) : Option Bool := loopN (Dspec_l8Look_b n) n (a0, a1)
theorem Tspec_l8Look_b {Y} (n : Nat) : ∀ (m : Nat) (a : (Sol × (List Pl))) (r : Bool), loopN (Dspec_l8Look_b n) m a = some r → ∀ (_ : Unit), Big Tryz.prog H Y (.call 71 [.agg [bl a.1.inn, i64 a.1.pl.A, i64 a.1.pl.B, i64 a.1.pl.C, i64 a.1.pl.D, .sl false 6 a.1.kids.length ((eSol false).f a.1.kids)], .sl false 4 a.2.length ((ePl).f a.2)] (lk []) (bl r) (lk [])) := by
  refine loopN_ind (fun self hs a r h => ?_)
  have hself : ∀ (a : (Sol × (List Pl))) (r : Bool), self a = some r → Big Tryz.prog H Y (.call 71 [.agg [bl a.1.inn, i64 a.1.pl.A, i64 a.1.pl.B, i64 a.1.pl.C, i64 a.1.pl.D, .sl false 6 a.1.kids.length ((eSol false).f a.1.kids)], .sl false 4 a.2.length ((ePl).f a.2)] (lk []) (bl r) (lk [])) := fun a r h => hs a r h ()
  intro _
  obtain ⟨a0, a1⟩ := a
  unfold Dspec_l8Look_b at h
  refine x_call (fn := Tryz.f71) (c := bodyOf Tryz.f71) (bs0 := []) Tryz.func71 (by kernel_rfl) (by kernel_rfl) ?_
  obtain ⟨v0, hv0, h⟩ := bind_some h
  refine x_frk 11 [(3, .call [] [] (bl v0) [])] (ocons (Tspec_l8Leaf (Y := Y) a0 _ hv0) onil) h (by kernel_rfl) (fun h => ?_) (fun h => ?_)
  · replace h := Option.some.inj h; subst h
    exact x_end 8 [] [] onil onil (by kernel_rfl)
  · refine x_frk 9 [] onil h (by kernel_rfl) (fun h => ?_) (fun h => ?_)
    · replace h := Option.some.inj h; subst h
      exact x_end 33 [] [] onil onil (by kernel_rfl)
    · refine x_frk 4 [] onil h (by kernel_rfl) (fun h => ?_) (fun h => ?_)
      · replace h := Option.some.inj h; subst h
        exact x_end 29 [] [] onil onil (by kernel_rfl)
      · obtain ⟨v1, hv1, h⟩ := bind_some h
        refine x_frk 6 [(2, .call [] [] (bl v1) [])] (ocons (Tspec_PlaneOk (Y := Y) n a0.pl _ hv1) onil) h (by kernel_rfl) (fun h => ?_) (fun h => ?_)
        · replace h := Option.some.inj h; subst h
          exact x_end 23 [] [] onil onil (by kernel_rfl)
        · refine x_frk 5 [] onil h (by kernel_rfl) (fun h => ?_) (fun h => ?_)
          · replace h := Option.some.inj h; subst h
            exact x_end 18 [] [] onil onil (by kernel_rfl)
          · obtain ⟨v2, hv2, h⟩ := bind_some h
            refine x_frk 6 [(3, .call [] [] (bl v2) [])] (ocons (Tspec_l6With (Y := Y) n a1 a0.pl _ hv2) onil) h (by kernel_rfl) (fun h => ?_) (fun h => ?_)
            · replace h := Option.some.inj h; subst h
              exact x_end 12 [] [] onil onil (by kernel_rfl)
            · obtain ⟨v3, hv3, h⟩ := bind_some h
              obtain ⟨v4, hv4, h⟩ := bind_some h
              exact x_to 7 [(3, .call [] [] (.agg [i64 v3.A, i64 v3.B, i64 v3.C, i64 v3.D]) []), (0, .call [] [] (bl v4) [])] (ocons (Tspec_l3Flip (Y := Y) a0.pl _ hv3) (ocons (Tspec_l6With (Y := Y) n a1 v3 _ hv4) onil)) (Tspec_l8Look_0 n self hself a1 v4 a0.inn a0.pl.A a0.pl.B a0.pl.C a0.pl.D a0.kids r h) (by kernel_rfl)
theorem Tspec_l8Look {Y} (n : Nat) (a0 : Sol) (a1 : (List Pl)) (r : Bool) (h : Dspec_l8Look n a0 a1 = some r) : Big Tryz.prog H Y (.call 71 [.agg [bl a0.inn, i64 a0.pl.A, i64 a0.pl.B, i64 a0.pl.C, i64 a0.pl.D, .sl false 6 a0.kids.length ((eSol false).f a0.kids)], .sl false 4 a1.length ((ePl).f a1)] (lk []) (bl r) (lk [])) := Tspec_l8Look_b n n (a0, a1) r h ()
/-! spec.SolidOk -/
def Dspec_SolidOk (n : Nat) (a0 : Sol) : Option Bool :=
  (Dspec_l8Count n a0 301).bind fun v0 => frk (decide (v0 ≤ 300)) ((Dspec_l8Look n a0 []).bind fun v1 => some v1) (some false)
theorem Tspec_SolidOk {Y} (n : Nat) (a0 : Sol) (r : Bool) (h : Dspec_SolidOk n a0 = some r) : Big Tryz.prog H Y (.call 14 [.agg [bl a0.inn, i64 a0.pl.A, i64 a0.pl.B, i64 a0.pl.C, i64 a0.pl.D, .sl false 6 a0.kids.length ((eSol false).f a0.kids)]] (lk []) (bl r) (lk [])) := by
  unfold Dspec_SolidOk at h
  refine x_call (fn := Tryz.f14) (c := bodyOf Tryz.f14) (bs0 := []) Tryz.func14 (by kernel_rfl) (by kernel_rfl) ?_
  obtain ⟨v0, hv0, h⟩ := bind_some h
  refine x_frk 11 [(3, .call [] [] (i64 v0) [])] (ocons (Tspec_l8Count (Y := Y) n a0 301 _ hv0) onil) h (by kernel_rfl) (fun h => ?_) (fun h => ?_)
  · obtain ⟨v1, hv1, h⟩ := bind_some h
    replace h := Option.some.inj h; subst h
    exact x_end 6 [(2, .call [] [(ePl).f []] (bl v1) [])] [] (ocons (Tspec_l8Look (Y := Y) n a0 [] _ hv1) (ocons (len_row (L := []) ePl) (ocons (Enc.share ePl ePl sPl []) onil))) onil (by kernel_rfl)
  · replace h := Option.some.inj h; subst h
    exact x_end 6 [] [] onil onil (by kernel_rfl)
/-! impl.Solid] -/
def Dslices_EqualFuncfimpl_SameTree_in_0 (_n : Nat) (self : (Sol × Sol) → Option Bool) (t1 t15 : List Sol) (t16 : Int) (rec0 : Int → Option Bool) (a : Int) : Option Bool :=
  match a with
  | t17 => frk (decide (t17 < t16)) ((lget t15 t17).bind fun v0 => (lget t1 t17).bind fun v1 => (self (v0, v1)).bind fun v2 => frk (!v2) (some false) (rec0 (w64 (t17 + 1)))) (some true)
theorem Tslices_EqualFuncfimpl_SameTree_in_0 {Y} (n : Nat) (self : (Sol × Sol) → Option Bool) (hself : ∀ (a : (Sol × Sol)) (r : Bool), self a = some r → Big Tryz.prog H Y (.call 15 [.agg [bl a.1.inn, i64 a.1.pl.A, i64 a.1.pl.B, i64 a.1.pl.C, i64 a.1.pl.D, .sl false 6 a.1.kids.length ((eSol false).f a.1.kids)], .agg [bl a.2.inn, i64 a.2.pl.A, i64 a.2.pl.B, i64 a.2.pl.C, i64 a.2.pl.D, .sl false 6 a.2.kids.length ((eSol false).f a.2.kids)]] (lk []) (bl r) (lk []))) (t1 t15 : List Sol) (t16 : Int) : ∀ (m : Nat) (a : Int) (r : Bool), loopN (Dslices_EqualFuncfimpl_SameTree_in_0 n self t1 t15 t16) m a = some r → Wk Tryz.prog H Y 72 [.code (cp [1, 1, 0, 1, 0] (bodyOf Tryz.f72)), .blk 0, .code (cp [1, 1, 1] (bodyOf Tryz.f72))] (FinX Tryz.prog Tryz.f72 [] (bl r) []) ⟨[(1, .sl false 6 t1.length ((eSol false).f t1)), (2, .lit (.func (.func 15) #[] #[])), (15, .sl false 6 t15.length ((eSol false).f t15)), (16, i64 t16), (17, i64 a)], []⟩ := by
  refine loopN_ind (fun _rec0 hrec0 a r h => ?_)
  obtain ⟨t17, rfl⟩ : ∃ x, x = a := ⟨a, rfl⟩
  unfold Dslices_EqualFuncfimpl_SameTree_in_0 at h
  refine x_frk 6 [] onil h (by kernel_rfl) (fun h => ?_) (fun h => ?_)
  · obtain ⟨v0, hv0, h⟩ := bind_some h
    obtain ⟨v1, hv1, h⟩ := bind_some h
    obtain ⟨v2, hv2, h⟩ := bind_some h
    refine x_frk 29 [(1, .val (.cptr ((eSol false).c v0 ++ (eSol false).f ((t15).drop (Int.toNat t17 + 1))))), (6, .val (.cptr ((eSol false).c v1 ++ (eSol false).f ((t1).drop (Int.toNat t17 + 1))))), (6, .call [] [] (bl v2) [])] (ocons (ix (eSol false) hv0) (ocons (ix (eSol false) hv1) (ocons (hself (v0, v1) _ hv2) onil))) h (by kernel_rfl) (fun h => ?_) (fun h => ?_)
    · replace h := Option.some.inj h; subst h
      exact x_end 4 [] [] onil onil (by kernel_rfl)
    · exact x_to 7 [] onil (hrec0 (w64 (t17 + 1)) r h) (by kernel_rfl)
  · replace h := Option.some.inj h; subst h
    exact x_end 5 [] [] onil onil (by kernel_rfl)
def Dslices_EqualFuncfimpl_SameTree_in (n : Nat) (self : (Sol × Sol) → Option Bool) (a0 : (List Sol)) (a1 : (List Sol)) : Option Bool :=
  frk ((a0.length : Int) != (a1.length : Int)) (some false) (loopN (Dslices_EqualFuncfimpl_SameTree_in_0 n self a1 a0 (a0.length : Int)) n 0)
theorem Tslices_EqualFuncfimpl_SameTree_in {Y} (n : Nat) (self : (Sol × Sol) → Option Bool) (hself : ∀ (a : (Sol × Sol)) (r : Bool), self a = some r → Big Tryz.prog H Y (.call 15 [.agg [bl a.1.inn, i64 a.1.pl.A, i64 a.1.pl.B, i64 a.1.pl.C, i64 a.1.pl.D, .sl false 6 a.1.kids.length ((eSol false).f a.1.kids)], .agg [bl a.2.inn, i64 a.2.pl.A, i64 a.2.pl.B, i64 a.2.pl.C, i64 a.2.pl.D, .sl false 6 a.2.kids.length ((eSol false).f a.2.kids)]] (lk []) (bl r) (lk []))) (a0 : (List Sol)) (a1 : (List Sol)) (r : Bool) (h : Dslices_EqualFuncfimpl_SameTree_in n self a0 a1 = some r) : Big Tryz.prog H Y (.call 72 [.sl false 6 a0.length ((eSol false).f a0), .sl false 6 a1.length ((eSol false).f a1), .lit (.func (.func 15) #[] #[])] (lk []) (bl r) (lk [])) := by
  unfold Dslices_EqualFuncfimpl_SameTree_in at h
  refine x_call (fn := Tryz.f72) (c := bodyOf Tryz.f72) (bs0 := []) Tryz.func72 (by kernel_rfl) (by kernel_rfl) ?_
  refine x_frk 13 [] onil h (by kernel_rfl) (fun h => ?_) (fun h => ?_)
  · replace h := Option.some.inj h; subst h
    exact x_end 4 [] [] onil onil (by kernel_rfl)
  · exact x_to 9 [] onil (Tslices_EqualFuncfimpl_SameTree_in_0 n self hself a1 a0 (a0.length : Int) n 0 r h) (by kernel_rfl)
/-! impl.SameTree -/
def Dimpl_SameTree_b (n : Nat) (self : (Sol × Sol) → Option Bool) (a : (Sol × Sol)) : Option Bool :=
  match a with
  | (a0, a1) => frk (a0.inn == a1.inn) (frk (a0.pl.A == a1.pl.A && (a0.pl.B == a1.pl.B && (a0.pl.C == a1.pl.C && (a0.pl.D == a1.pl.D && true)))) ((Dslices_EqualFuncfimpl_SameTree_in n self a0.kids a1.kids).bind fun v0 => some v0) (some false)) (some false)
def Dimpl_SameTree (n : Nat) (a0 : Sol) (a1 : Sol) : Option Bool := loopN (Dimpl_SameTree_b n) n (a0, a1)
theorem Timpl_SameTree_b {Y} (n : Nat) : ∀ (m : Nat) (a : (Sol × Sol)) (r : Bool), loopN (Dimpl_SameTree_b n) m a = some r → ∀ (_ : Unit), Big Tryz.prog H Y (.call 15 [.agg [bl a.1.inn, i64 a.1.pl.A, i64 a.1.pl.B, i64 a.1.pl.C, i64 a.1.pl.D, .sl false 6 a.1.kids.length ((eSol false).f a.1.kids)], .agg [bl a.2.inn, i64 a.2.pl.A, i64 a.2.pl.B, i64 a.2.pl.C, i64 a.2.pl.D, .sl false 6 a.2.kids.length ((eSol false).f a.2.kids)]] (lk []) (bl r) (lk [])) := by
  refine loopN_ind (fun self hs a r h => ?_)
  have hself : ∀ (a : (Sol × Sol)) (r : Bool), self a = some r → Big Tryz.prog H Y (.call 15 [.agg [bl a.1.inn, i64 a.1.pl.A, i64 a.1.pl.B, i64 a.1.pl.C, i64 a.1.pl.D, .sl false 6 a.1.kids.length ((eSol false).f a.1.kids)], .agg [bl a.2.inn, i64 a.2.pl.A, i64 a.2.pl.B, i64 a.2.pl.C, i64 a.2.pl.D, .sl false 6 a.2.kids.length ((eSol false).f a.2.kids)]] (lk []) (bl r) (lk [])) := fun a r h => hs a r h ()
  intro _
  obtain ⟨a0, a1⟩ := a
  unfold Dimpl_SameTree_b at h
  refine x_call (fn := Tryz.f15) (c := bodyOf Tryz.f15) (bs0 := []) Tryz.func15 (by kernel_rfl) (by kernel_rfl) ?_
  refine x_frk 14 [] onil h (by kernel_rfl) (fun h => ?_) (fun h => ?_)
  · refine x_frk 7 [] onil h (by kernel_rfl) (fun h => ?_) (fun h => ?_)
    · obtain ⟨v0, hv0, h⟩ := bind_some h
      replace h := Option.some.inj h; subst h
      exact x_end 8 [(4, .call [] [] (bl v0) [])] [] (ocons (Tslices_EqualFuncfimpl_SameTree_in (Y := Y) n self hself a0.kids a1.kids _ hv0) onil) onil (by kernel_rfl)
    · replace h := Option.some.inj h; subst h
      exact x_end 8 [] [] onil onil (by kernel_rfl)
  · replace h := Option.some.inj h; subst h
    exact x_end 15 [] [] onil onil (by kernel_rfl)
theorem Timpl_SameTree {Y} (n : Nat) (a0 : Sol) (a1 : Sol) (r : Bool) (h : Dimpl_SameTree n a0 a1 = some r) : Big Tryz.prog H Y (.call 15 [.agg [bl a0.inn, i64 a0.pl.A, i64 a0.pl.B, i64 a0.pl.C, i64 a0.pl.D, .sl false 6 a0.kids.length ((eSol false).f a0.kids)], .agg [bl a1.inn, i64 a1.pl.A, i64 a1.pl.B, i64 a1.pl.C, i64 a1.pl.D, .sl false 6 a1.kids.length ((eSol false).f a1.kids)]] (lk []) (bl r) (lk [])) := Timpl_SameTree_b n n (a0, a1) r h ()
/-! laws.at -/
def Dlaws_at (a0 : (List Int)) (a1 : Int) : Option Int :=
  frk (decide (a1 < (a0.length : Int))) ((lget a0 a1).bind fun v0 => some (w64 v0)) (some (Int.tmod (w64 ((w64 (a1 * 31)) + (w64 ((a0.length : Int) * 7)))) 256))
theorem Tlaws_at {Y} (a0 : (List Int)) (a1 r : Int) (h : Dlaws_at a0 a1 = some r) : Big Tryz.prog H Y (.call 16 [.sl false 1 a0.length ((eU8).f a0), i64 a1] (lk []) (i64 r) (lk [])) := by
  unfold Dlaws_at at h
  refine x_call (fn := Tryz.f16) (c := bodyOf Tryz.f16) (bs0 := []) Tryz.func16 (by kernel_rfl) (by kernel_rfl) ?_
  refine x_frk 12 [] onil h (by kernel_rfl) (fun h => ?_) (fun h => ?_)
  · obtain ⟨v0, hv0, h⟩ := bind_some h
    replace h := Option.some.inj h; subst h
    exact x_end 9 [(2, .val (.cptr (eU8.c v0 ++ (eU8).f ((a0).drop (Int.toNat a1 + 1)))))] [] (ocons (ix eU8 hv0) onil) onil (by kernel_rfl)
  · replace h := Option.some.inj h; subst h
    exact x_end 12 [] [] onil onil (by kernel_rfl)
/-! impl.Mirror$1 -/
def Dimpl_MirrorLit1 (a0 : Pl) (a1 : Int) : Option (Pl × Bool) :=
  (Dimpl_normal a0).bind fun v0 => (lget [v0.1, v0.2.1, v0.2.2] a1).bind fun _v1 => (lget [v0.1, v0.2.1, v0.2.2] a1).bind fun v2 => (lget [v0.1, v0.2.1, v0.2.2] a1).bind fun _v3 => (lget [v0.1, v0.2.1, v0.2.2] a1).bind fun _v4 => (some (List.set [v0.1, v0.2.1, v0.2.2] (Int.toNat a1) (w64 (0 - v2)))).bind fun v5 => some ((Pl.mk (v5.getD 0 0) (v5.getD 1 0) (v5.getD 2 0) a0.D), true)
theorem Timpl_MirrorLit1 {Y} (a0 : Pl) (a1 : Int) (r : (Pl × Bool)) (h : Dimpl_MirrorLit1 a0 a1 = some r) : Big Tryz.prog H Y (.call 73 [.agg [i64 a0.A, i64 a0.B, i64 a0.C, i64 a0.D], .cptr [i64 a1]] (lk []) (.tup [.agg [i64 r.1.A, i64 r.1.B, i64 r.1.C, i64 r.1.D], bl r.2]) (lk [])) := by
  unfold Dimpl_MirrorLit1 at h
  refine x_call (fn := Tryz.f73) (c := bodyOf Tryz.f73) (bs0 := []) Tryz.func73 (by kernel_rfl) (by kernel_rfl) ?_
  obtain ⟨v0, hv0, h⟩ := bind_some h
  obtain ⟨_v1, hv1, h⟩ := bind_some h
  obtain ⟨v2, hv2, h⟩ := bind_some h
  obtain ⟨_v3, hv3, h⟩ := bind_some h
  obtain ⟨_v4, hv4, h⟩ := bind_some h
  obtain ⟨v5, hv5, h⟩ := bind_some h
  replace h := Option.some.inj h; subst h
  exact x_end 37 [(4, .call [] [] (.agg [i64 v0.1, i64 v0.2.1, i64 v0.2.2]) []), (4, .unit), (0, .val (i64 v2)), (1, .unit), (0, .cells [i64 (v5.getD 0 0), i64 (v5.getD 1 0), i64 (v5.getD 2 0)])] [] (ocons (Timpl_normal (Y := Y) a0 _ hv0) (ocons (arIn (L := [v0.1, v0.2.1, v0.2.2]) (n := 3) hv1 rfl) (ocons (arLd [] [] .i64 (L := [v0.1, v0.2.1, v0.2.2]) hv2) (ocons (arIn (L := [v0.1, v0.2.1, v0.2.2]) (n := 3) hv3 rfl) (ocons (arSt [] [] .i64 (L := [v0.1, v0.2.1, v0.2.2]) (v := v5) 3 hv4 rfl hv5) onil))))) onil (by kernel_rfl)
/-! impl.moved -/
def Dimpl_movedfimpl_MirrorLit1_b (_n : Nat) (self : (Sol × Int) → Option (Sol × Bool)) (a : (Sol × Int)) : Option (Sol × Bool) :=
  match a with
  | (a0, a1) => (Dimpl_Solid_isLeaf a0).bind fun v0 => frk v0 ((Dimpl_Leaf a0.inn).bind fun v1 => some (v1, true)) ((Dimpl_MirrorLit1 a0.pl a1).bind fun v2 => (lget a0.kids 0).bind fun v3 => (self (v3, a1)).bind fun v4 => (lget a0.kids 1).bind fun v5 => (self (v5, a1)).bind fun v6 => (Dimpl_nodeo1o2 v2.1 v4.1 v6.1).bind fun v7 => frk v2.2 (frk v4.2 (some (v7, v6.2)) (some (v7, false))) (some (v7, false)))
def Dimpl_movedfimpl_MirrorLit1 (n : Nat) (a0 : Sol) (a1 : Int) : Option (Sol × Bool) := loopN (Dimpl_movedfimpl_MirrorLit1_b n) n (a0, a1)
theorem Timpl_movedfimpl_MirrorLit1_b {Y} (n : Nat) : ∀ (m : Nat) (a : (Sol × Int)) (r : (Sol × Bool)), loopN (Dimpl_movedfimpl_MirrorLit1_b n) m a = some r → ∀ (_ : Unit), Big Tryz.prog H Y (.call 66 [.agg [bl a.1.inn, i64 a.1.pl.A, i64 a.1.pl.B, i64 a.1.pl.C, i64 a.1.pl.D, .sl false 6 a.1.kids.length ((eSol false).f a.1.kids)], .fnv 73 [.cptr [i64 a.2]]] (lk []) (.tup [.agg [bl r.1.inn, i64 r.1.pl.A, i64 r.1.pl.B, i64 r.1.pl.C, i64 r.1.pl.D, .sl true 6 r.1.kids.length ((eSol true).f r.1.kids)], bl r.2]) (lk [])) := by
  refine loopN_ind (fun self hs a r h => ?_)
  have hself : ∀ (a : (Sol × Int)) (r : (Sol × Bool)), self a = some r → Big Tryz.prog H Y (.call 66 [.agg [bl a.1.inn, i64 a.1.pl.A, i64 a.1.pl.B, i64 a.1.pl.C, i64 a.1.pl.D, .sl false 6 a.1.kids.length ((eSol false).f a.1.kids)], .fnv 73 [.cptr [i64 a.2]]] (lk []) (.tup [.agg [bl r.1.inn, i64 r.1.pl.A, i64 r.1.pl.B, i64 r.1.pl.C, i64 r.1.pl.D, .sl true 6 r.1.kids.length ((eSol true).f r.1.kids)], bl r.2]) (lk [])) := fun a r h => hs a r h ()
  intro _
  obtain ⟨a0, a1⟩ := a
  unfold Dimpl_movedfimpl_MirrorLit1_b at h
  refine x_call (fn := Tryz.f66) (c := bodyOf Tryz.f66) (bs0 := []) Tryz.func66 (by kernel_rfl) (by kernel_rfl) ?_
  obtain ⟨v0, hv0, h⟩ := bind_some h
  refine x_frk 11 [(3, .call [] [] (bl v0) [])] (ocons (Timpl_Solid_isLeaf (Y := Y) a0 [] _ hv0) onil) h (by kernel_rfl) (fun h => ?_) (fun h => ?_)
  · obtain ⟨v1, hv1, h⟩ := bind_some h
    replace h := Option.some.inj h; subst h
    exact x_end 8 [(2, .call [] [] (.agg [bl v1.inn, i64 v1.pl.A, i64 v1.pl.B, i64 v1.pl.C, i64 v1.pl.D, .sl true 6 v1.kids.length ((eSol true).f v1.kids)]) [])] [] (ocons (Timpl_Leaf (Y := Y) a0.inn _ hv1) onil) onil (by kernel_rfl)
  · obtain ⟨v2, hv2, h⟩ := bind_some h
    obtain ⟨v3, hv3, h⟩ := bind_some h
    obtain ⟨v4, hv4, h⟩ := bind_some h
    obtain ⟨v5, hv5, h⟩ := bind_some h
    obtain ⟨v6, hv6, h⟩ := bind_some h
    obtain ⟨v7, hv7, h⟩ := bind_some h
    refine x_frk 52 [(3, .call [] [] (.tup [.agg [i64 v2.1.A, i64 v2.1.B, i64 v2.1.C, i64 v2.1.D], bl v2.2]) []), (8, .val (.cptr ((eSol false).c v3 ++ (eSol false).f ((a0.kids).drop (Int.toNat 0 + 1))))), (2, .call [] [] (.tup [.agg [bl v4.1.inn, i64 v4.1.pl.A, i64 v4.1.pl.B, i64 v4.1.pl.C, i64 v4.1.pl.D, .sl true 6 v4.1.kids.length ((eSol true).f v4.1.kids)], bl v4.2]) []), (8, .val (.cptr ((eSol false).c v5 ++ (eSol false).f ((a0.kids).drop (Int.toNat 1 + 1))))), (2, .call [] [] (.tup [.agg [bl v6.1.inn, i64 v6.1.pl.A, i64 v6.1.pl.B, i64 v6.1.pl.C, i64 v6.1.pl.D, .sl true 6 v6.1.kids.length ((eSol true).f v6.1.kids)], bl v6.2]) []), (9, .call [] [] (.agg [bl v7.inn, i64 v7.pl.A, i64 v7.pl.B, i64 v7.pl.C, i64 v7.pl.D, .sl true 6 v7.kids.length ((eSol true).f v7.kids)]) [])] (ocons (Timpl_MirrorLit1 (Y := Y) a0.pl a1 _ hv2) (ocons (ix (eSol false) hv3) (ocons (hself (v3, a1) _ hv4) (ocons (ix (eSol false) hv5) (ocons (hself (v5, a1) _ hv6) (ocons (Timpl_nodeo1o2 (Y := Y) v2.1 v4.1 v6.1 _ hv7) onil)))))) h (by kernel_rfl) (fun h => ?_) (fun h => ?_)
    · refine x_frk 3 [] onil h (by kernel_rfl) (fun h => ?_) (fun h => ?_)
      · replace h := Option.some.inj h; subst h
        exact x_end 5 [] [] onil onil (by kernel_rfl)
      · replace h := Option.some.inj h; subst h
        exact x_end 5 [] [] onil onil (by kernel_rfl)
    · replace h := Option.some.inj h; subst h
      exact x_end 8 [] [] onil onil (by kernel_rfl)
theorem Timpl_movedfimpl_MirrorLit1 {Y} (n : Nat) (a0 : Sol) (a1 : Int) (r : (Sol × Bool)) (h : Dimpl_movedfimpl_MirrorLit1 n a0 a1 = some r) : Big Tryz.prog H Y (.call 66 [.agg [bl a0.inn, i64 a0.pl.A, i64 a0.pl.B, i64 a0.pl.C, i64 a0.pl.D, .sl false 6 a0.kids.length ((eSol false).f a0.kids)], .fnv 73 [.cptr [i64 a1]]] (lk []) (.tup [.agg [bl r.1.inn, i64 r.1.pl.A, i64 r.1.pl.B, i64 r.1.pl.C, i64 r.1.pl.D, .sl true 6 r.1.kids.length ((eSol true).f r.1.kids)], bl r.2]) (lk [])) := Timpl_movedfimpl_MirrorLit1_b n n (a0, a1) r h ()
/-! impl.Mirror -/
def Dimpl_Mirror_0 (n : Nat) (b2_0 : Bool) (b2_1 b2_2 b2_3 b2_4 : Int) (b2_5 : List Sol) (_b4_0 : Bool) (_b4_1 _b4_2 _b4_3 _b4_4 : Int) : Option Sol :=
  (Dimpl_copySolid n (Sol.mk b2_0 (Pl.mk b2_1 b2_2 b2_3 b2_4) b2_5)).bind fun v1 => some v1
theorem Timpl_Mirror_0 {Y} (n : Nat) (b2_0 : Bool) (b2_1 b2_2 b2_3 b2_4 : Int) (b2_5 : List Sol) (b4_0 : Bool) (b4_1 b4_2 b4_3 b4_4 : Int) (r : Sol) (h : Dimpl_Mirror_0 n b2_0 b2_1 b2_2 b2_3 b2_4 b2_5 b4_0 b4_1 b4_2 b4_3 b4_4 = some r) : Wk Tryz.prog H Y 17 [.code (cp [1, 0, 1, 0, 0] (bodyOf Tryz.f17)), .code (cp [1, 0, 1, 0, 1] (bodyOf Tryz.f17)), .code (cp [1, 1] (bodyOf Tryz.f17))] (FinX Tryz.prog Tryz.f17 [] (.agg [bl r.inn, i64 r.pl.A, i64 r.pl.B, i64 r.pl.C, i64 r.pl.D, .sl true 6 r.kids.length ((eSol true).f r.kids)]) []) ⟨[(2, .ptr 2 0), (4, .ptr 4 0)], [(2, ⟨true, 0, [bl b2_0, i64 b2_1, i64 b2_2, i64 b2_3, i64 b2_4, .sl false 6 b2_5.length ((eSol false).f b2_5)]⟩), (4, ⟨true, 0, [bl b4_0, i64 b4_1, i64 b4_2, i64 b4_3, i64 b4_4, .nil]⟩)]⟩ := by
  unfold Dimpl_Mirror_0 at h
  obtain ⟨v1, hv1, h⟩ := bind_some h
  replace h := Option.some.inj h; subst h
  exact x_end 5 [(1, .call [] [] (.agg [bl v1.inn, i64 v1.pl.A, i64 v1.pl.B, i64 v1.pl.C, i64 v1.pl.D, .sl true 6 v1.kids.length ((eSol true).f v1.kids)]) [])] [] (ocons (Timpl_copySolid (Y := Y) n (Sol.mk b2_0 (Pl.mk b2_1 b2_2 b2_3 b2_4) b2_5) _ hv1) onil) onil (by kernel_rfl)
def Dimpl_Mirror_1 (n : Nat) (t14 b2_0 : Bool) (b2_1 b2_2 b2_3 b2_4 : Int) (b2_5 : List Sol) (b3_0 : Int) (_b4_0 : Bool) (_b4_1 _b4_2 _b4_3 _b4_4 : Int) : Option Sol :=
  frk t14 ((Dimpl_copySolid n (Sol.mk b2_0 (Pl.mk b2_1 b2_2 b2_3 b2_4) b2_5)).bind fun v3 => some v3) ((Dimpl_movedfimpl_MirrorLit1 n (Sol.mk b2_0 (Pl.mk b2_1 b2_2 b2_3 b2_4) b2_5) b3_0).bind fun v4 => some v4.1)
theorem Timpl_Mirror_1 {Y} (n : Nat) (t14 b2_0 : Bool) (b2_1 b2_2 b2_3 b2_4 : Int) (b2_5 : List Sol) (b3_0 : Int) (b4_0 : Bool) (b4_1 b4_2 b4_3 b4_4 : Int) (r : Sol) (h : Dimpl_Mirror_1 n t14 b2_0 b2_1 b2_2 b2_3 b2_4 b2_5 b3_0 b4_0 b4_1 b4_2 b4_3 b4_4 = some r) : Wk Tryz.prog H Y 17 [.code (cp [1, 0, 1] (bodyOf Tryz.f17)), .code (cp [1, 1] (bodyOf Tryz.f17))] (FinX Tryz.prog Tryz.f17 [] (.agg [bl r.inn, i64 r.pl.A, i64 r.pl.B, i64 r.pl.C, i64 r.pl.D, .sl true 6 r.kids.length ((eSol true).f r.kids)]) []) ⟨[(2, .ptr 2 0), (3, .ptr 3 0), (4, .ptr 4 0), (14, bl t14)], [(2, ⟨true, 0, [bl b2_0, i64 b2_1, i64 b2_2, i64 b2_3, i64 b2_4, .sl false 6 b2_5.length ((eSol false).f b2_5)]⟩), (3, ⟨true, 0, [i64 b3_0]⟩), (4, ⟨true, 0, [bl b4_0, i64 b4_1, i64 b4_2, i64 b4_3, i64 b4_4, .nil]⟩)]⟩ := by
  unfold Dimpl_Mirror_1 at h
  refine x_frk 0 [] onil h (by kernel_rfl) (fun h => ?_) (fun h => ?_)
  · obtain ⟨v3, hv3, h⟩ := bind_some h
    replace h := Option.some.inj h; subst h
    exact x_end 6 [(1, .call [] [] (.agg [bl v3.inn, i64 v3.pl.A, i64 v3.pl.B, i64 v3.pl.C, i64 v3.pl.D, .sl true 6 v3.kids.length ((eSol true).f v3.kids)]) [])] [] (ocons (Timpl_copySolid (Y := Y) n (Sol.mk b2_0 (Pl.mk b2_1 b2_2 b2_3 b2_4) b2_5) _ hv3) onil) onil (by kernel_rfl)
  · obtain ⟨v4, hv4, h⟩ := bind_some h
    replace h := Option.some.inj h; subst h
    exact x_end 18 [(2, .call [] [] (.tup [.agg [bl v4.1.inn, i64 v4.1.pl.A, i64 v4.1.pl.B, i64 v4.1.pl.C, i64 v4.1.pl.D, .sl true 6 v4.1.kids.length ((eSol true).f v4.1.kids)], bl v4.2]) [])] [] (ocons (Timpl_movedfimpl_MirrorLit1 (Y := Y) n (Sol.mk b2_0 (Pl.mk b2_1 b2_2 b2_3 b2_4) b2_5) b3_0 _ hv4) (ocons (show hasSh (.tup [.agg [bl v4.1.inn, i64 v4.1.pl.A, i64 v4.1.pl.B, i64 v4.1.pl.C, i64 v4.1.pl.D, .sl true 6 v4.1.kids.length ((eSol true).f v4.1.kids)], bl v4.2]) = false by simp [hasSh, hasShL, nSh, nShI, nShB, nShP, nShT, nShN, nShPs]) onil)) onil (by kernel_rfl)
def Dimpl_Mirror (n : Nat) (a0 : Sol) (a1 : Int) : Option Sol :=
  (Dimpl_isAxis a1).bind fun v0 => frk (!v0) (Dimpl_Mirror_0 n a0.inn a0.pl.A a0.pl.B a0.pl.C a0.pl.D a0.kids false 0 0 0 0) ((Dimpl_SolidOk n a0).bind fun v2 => Dimpl_Mirror_1 n (!v2) a0.inn a0.pl.A a0.pl.B a0.pl.C a0.pl.D a0.kids a1 false 0 0 0 0)
theorem Timpl_Mirror {Y} (n : Nat) (a0 : Sol) (a1 : Int) (r : Sol) (h : Dimpl_Mirror n a0 a1 = some r) : Big Tryz.prog H Y (.call 17 [.agg [bl a0.inn, i64 a0.pl.A, i64 a0.pl.B, i64 a0.pl.C, i64 a0.pl.D, .sl false 6 a0.kids.length ((eSol false).f a0.kids)], i64 a1] (lk []) (.agg [bl r.inn, i64 r.pl.A, i64 r.pl.B, i64 r.pl.C, i64 r.pl.D, .sl true 6 r.kids.length ((eSol true).f r.kids)]) (lk [])) := by
  unfold Dimpl_Mirror at h
  refine x_call (fn := Tryz.f17) (c := bodyOf Tryz.f17) (bs0 := []) Tryz.func17 (by kernel_rfl) (by kernel_rfl) ?_
  obtain ⟨v0, hv0, h⟩ := bind_some h
  refine x_frk 13 [(4, .call [] [] (bl v0) [])] (ocons (Timpl_isAxis (Y := Y) a1 _ hv0) onil) h (by kernel_rfl) (fun h => ?_) (fun h => ?_)
  · exact x_to 7 [] onil (Timpl_Mirror_0 n a0.inn a0.pl.A a0.pl.B a0.pl.C a0.pl.D a0.kids false 0 0 0 0 r h) (by kernel_rfl)
  · obtain ⟨v2, hv2, h⟩ := bind_some h
    exact x_to 5 [(1, .call [] [] (bl v2) [])] (ocons (Timpl_SolidOk (Y := Y) n a0 _ hv2) onil) (Timpl_Mirror_1 n (!v2) a0.inn a0.pl.A a0.pl.B a0.pl.C a0.pl.D a0.kids a1 false 0 0 0 0 r h) (by kernel_rfl)
/-! impl.PtOk -/
def Dimpl_PtOk (a0 : Pt) : Option Bool :=
  (Dimpl_inRange a0.X (-1000000) 1000000).bind fun v0 => frk v0 ((Dimpl_inRange a0.Y (-1000000) 1000000).bind fun v1 => frk v1 ((Dimpl_inRange a0.Z (-1000000) 1000000).bind fun v2 => some v2) (some false)) (some false)
theorem Timpl_PtOk {Y} (a0 : Pt) (r : Bool) (h : Dimpl_PtOk a0 = some r) : Big Tryz.prog H Y (.call 75 [.agg [i64 a0.X, i64 a0.Y, i64 a0.Z]] (lk []) (bl r) (lk [])) := by
  unfold Dimpl_PtOk at h
  refine x_call (fn := Tryz.f75) (c := bodyOf Tryz.f75) (bs0 := []) Tryz.func75 (by kernel_rfl) (by kernel_rfl) ?_
  obtain ⟨v0, hv0, h⟩ := bind_some h
  refine x_frk 11 [(4, .call [] [] (bl v0) [])] (ocons (Timpl_inRange (Y := Y) a0.X (-1000000) 1000000 _ hv0) onil) h (by kernel_rfl) (fun h => ?_) (fun h => ?_)
  · obtain ⟨v1, hv1, h⟩ := bind_some h
    refine x_frk 5 [(2, .call [] [] (bl v1) [])] (ocons (Timpl_inRange (Y := Y) a0.Y (-1000000) 1000000 _ hv1) onil) h (by kernel_rfl) (fun h => ?_) (fun h => ?_)
    · obtain ⟨v2, hv2, h⟩ := bind_some h
      replace h := Option.some.inj h; subst h
      exact x_end 6 [(2, .call [] [] (bl v2) [])] [] (ocons (Timpl_inRange (Y := Y) a0.Z (-1000000) 1000000 _ hv2) onil) onil (by kernel_rfl)
    · replace h := Option.some.inj h; subst h
      exact x_end 6 [] [] onil onil (by kernel_rfl)
  · replace h := Option.some.inj h; subst h
    exact x_end 11 [] [] onil onil (by kernel_rfl)
/-! impl.TurnPt -/
def Dimpl_TurnPt_0 (n : Nat) (t1 t2 : Int) (t15 : Bool) (b3_0 b3_1 b3_2 _b6_0 _b6_1 _b6_2 : Int) : Option Pt :=
  frk t15 (some (Pt.mk b3_0 b3_1 b3_2)) ((Dimpl_turned n (b3_0, b3_1, b3_2) t1 t2).bind fun v2 => some (Pt.mk v2.1 v2.2.1 v2.2.2))
theorem Timpl_TurnPt_0 {Y} (n : Nat) (t1 t2 : Int) (t15 : Bool) (b3_0 b3_1 b3_2 b6_0 b6_1 b6_2 : Int) (r : Pt) (h : Dimpl_TurnPt_0 n t1 t2 t15 b3_0 b3_1 b3_2 b6_0 b6_1 b6_2 = some r) : Wk Tryz.prog H Y 20 [.code (cp [1, 0, 1] (bodyOf Tryz.f20)), .code (cp [1, 1] (bodyOf Tryz.f20))] (FinX Tryz.prog Tryz.f20 [] (.agg [i64 r.X, i64 r.Y, i64 r.Z]) []) ⟨[(1, i64 t1), (2, i64 t2), (3, .ptr 3 0), (6, .ptr 6 0), (15, bl t15)], [(3, ⟨true, 0, [i64 b3_0, i64 b3_1, i64 b3_2]⟩), (6, ⟨true, 0, [i64 b6_0, i64 b6_1, i64 b6_2]⟩)]⟩ := by
  unfold Dimpl_TurnPt_0 at h
  refine x_frk 0 [] onil h (by kernel_rfl) (fun h => ?_) (fun h => ?_)
  · replace h := Option.some.inj h; subst h
    exact x_end 5 [] [] onil onil (by kernel_rfl)
  · obtain ⟨v2, hv2, h⟩ := bind_some h
    replace h := Option.some.inj h; subst h
    exact x_end 27 [(9, .call [] [] (.agg [i64 v2.1, i64 v2.2.1, i64 v2.2.2]) [])] [] (ocons (Timpl_turned (Y := Y) n (b3_0, b3_1, b3_2) t1 t2 _ hv2) onil) onil (by kernel_rfl)
def Dimpl_TurnPt (n : Nat) (a0 : Pt) (a1 a2 : Int) : Option Pt :=
  (Dimpl_isAxis a1).bind fun v0 => frk (!v0) (some a0) ((Dimpl_PtOk a0).bind fun v1 => Dimpl_TurnPt_0 n a1 a2 (!v1) a0.X a0.Y a0.Z 0 0 0)
theorem Timpl_TurnPt {Y} (n : Nat) (a0 : Pt) (a1 a2 : Int) (r : Pt) (h : Dimpl_TurnPt n a0 a1 a2 = some r) : Big Tryz.prog H Y (.call 20 [.agg [i64 a0.X, i64 a0.Y, i64 a0.Z], i64 a1, i64 a2] (lk []) (.agg [i64 r.X, i64 r.Y, i64 r.Z]) (lk [])) := by
  unfold Dimpl_TurnPt at h
  refine x_call (fn := Tryz.f20) (c := bodyOf Tryz.f20) (bs0 := []) Tryz.func20 (by kernel_rfl) (by kernel_rfl) ?_
  obtain ⟨v0, hv0, h⟩ := bind_some h
  refine x_frk 12 [(3, .call [] [] (bl v0) [])] (ocons (Timpl_isAxis (Y := Y) a1 _ hv0) onil) h (by kernel_rfl) (fun h => ?_) (fun h => ?_)
  · replace h := Option.some.inj h; subst h
    exact x_end 11 [] [] onil onil (by kernel_rfl)
  · obtain ⟨v1, hv1, h⟩ := bind_some h
    exact x_to 5 [(1, .call [] [] (bl v1) [])] (ocons (Timpl_PtOk (Y := Y) a0 _ hv1) onil) (Timpl_TurnPt_0 n a1 a2 (!v1) a0.X a0.Y a0.Z 0 0 0 r h) (by kernel_rfl)
/-! impl.spotAt -/
def Dimpl_spotAt (a0 : Pt) : Option Spot :=
  some (Spot.mk a0.X a0.Y a0.Z 1)
theorem Timpl_spotAt {Y} (a0 : Pt) (r : Spot) (h : Dimpl_spotAt a0 = some r) : Big Tryz.prog H Y (.call 76 [.agg [i64 a0.X, i64 a0.Y, i64 a0.Z]] (lk []) (.agg [i64 r.X, i64 r.Y, i64 r.Z, i64 r.W]) (lk [])) := by
  unfold Dimpl_spotAt at h
  refine x_call (fn := Tryz.f76) (c := bodyOf Tryz.f76) (bs0 := []) Tryz.func76 (by kernel_rfl) (by kernel_rfl) ?_
  replace h := Option.some.inj h; subst h
  exact x_end 16 [] [] onil onil (by kernel_rfl)
/-! impl.SpotOk -/
def Dimpl_SpotOk (n : Nat) (a0 : Spot) : Option Bool :=
  (Dimpl_inRange a0.W 1 1000000000).bind fun v0 => frk (!v0) (some false) ((Dimpl_inRange a0.X (-1000000000) 1000000000).bind fun v1 => frk (!v1) (some false) ((Dimpl_inRange a0.Y (-1000000000) 1000000000).bind fun v2 => frk (!v2) (some false) ((Dimpl_inRange a0.Z (-1000000000) 1000000000).bind fun v3 => frk (!v3) (some false) ((Dimpl_divisor n [a0.X, a0.Y, a0.Z, a0.W]).bind fun v4 => some (v4 == 1)))))
theorem Timpl_SpotOk {Y} (n : Nat) (a0 : Spot) (r : Bool) (h : Dimpl_SpotOk n a0 = some r) : Big Tryz.prog H Y (.call 170 [.agg [i64 a0.X, i64 a0.Y, i64 a0.Z, i64 a0.W]] (lk []) (bl r) (lk [])) := by
  unfold Dimpl_SpotOk at h
  refine x_call (fn := Tryz.f170) (c := bodyOf Tryz.f170) (bs0 := []) Tryz.func170 (by kernel_rfl) (by kernel_rfl) ?_
  obtain ⟨v0, hv0, h⟩ := bind_some h
  refine x_frk 13 [(4, .call [] [] (bl v0) [])] (ocons (Timpl_inRange (Y := Y) a0.W 1 1000000000 _ hv0) onil) h (by kernel_rfl) (fun h => ?_) (fun h => ?_)
  · replace h := Option.some.inj h; subst h
    exact x_end 4 [] [] onil onil (by kernel_rfl)
  · obtain ⟨v1, hv1, h⟩ := bind_some h
    refine x_frk 35 [(12, .call [] [] (bl v1) [])] (ocons (Timpl_inRange (Y := Y) a0.X (-1000000000) 1000000000 _ hv1) onil) h (by kernel_rfl) (fun h => ?_) (fun h => ?_)
    · replace h := Option.some.inj h; subst h
      exact x_end 4 [] [] onil onil (by kernel_rfl)
    · obtain ⟨v2, hv2, h⟩ := bind_some h
      refine x_frk 28 [(6, .call [] [] (bl v2) [])] (ocons (Timpl_inRange (Y := Y) a0.Y (-1000000000) 1000000000 _ hv2) onil) h (by kernel_rfl) (fun h => ?_) (fun h => ?_)
      · replace h := Option.some.inj h; subst h
        exact x_end 4 [] [] onil onil (by kernel_rfl)
      · obtain ⟨v3, hv3, h⟩ := bind_some h
        refine x_frk 28 [(6, .call [] [] (bl v3) [])] (ocons (Timpl_inRange (Y := Y) a0.Z (-1000000000) 1000000000 _ hv3) onil) h (by kernel_rfl) (fun h => ?_) (fun h => ?_)
        · replace h := Option.some.inj h; subst h
          exact x_end 4 [] [] onil onil (by kernel_rfl)
        · obtain ⟨v4, hv4, h⟩ := bind_some h
          replace h := Option.some.inj h; subst h
          exact x_end 30 [(12, .call [] [(eInt).f [a0.X, a0.Y, a0.Z, a0.W]] (i64 v4) [])] [] (ocons (Timpl_divisor (Y := Y) n [a0.X, a0.Y, a0.Z, a0.W] _ hv4) (ocons (len_row (L := [a0.X, a0.Y, a0.Z, a0.W]) eInt) (ocons (Enc.share eInt eInt sInt [a0.X, a0.Y, a0.Z, a0.W]) onil))) onil (by kernel_rfl)
/-! impl.sideAt -/
def Dimpl_sideAt (a0 : Pl) (a1 : Spot) : Option Int :=
  (Dimpl_sign (w64 ((w64 ((w64 ((w64 (a0.A * a1.X)) + (w64 (a0.B * a1.Y)))) + (w64 (a0.C * a1.Z)))) + (w64 (a0.D * a1.W))))).bind fun v0 => some v0
theorem Timpl_sideAt {Y} (a0 : Pl) (a1 : Spot) (r : Int) (h : Dimpl_sideAt a0 a1 = some r) : Big Tryz.prog H Y (.call 187 [.agg [i64 a0.A, i64 a0.B, i64 a0.C, i64 a0.D], .agg [i64 a1.X, i64 a1.Y, i64 a1.Z, i64 a1.W]] (lk []) (i64 r) (lk [])) := by
  unfold Dimpl_sideAt at h
  refine x_call (fn := Tryz.f187) (c := bodyOf Tryz.f187) (bs0 := []) Tryz.func187 (by kernel_rfl) (by kernel_rfl) ?_
  obtain ⟨v0, hv0, h⟩ := bind_some h
  replace h := Option.some.inj h; subst h
  exact x_end 34 [(26, .call [] [] (i64 v0) [])] [] (ocons (Timpl_sign (Y := Y) (w64 ((w64 ((w64 ((w64 (a0.A * a1.X)) + (w64 (a0.B * a1.Y)))) + (w64 (a0.C * a1.Z)))) + (w64 (a0.D * a1.W)))) _ hv0) onil) onil (by kernel_rfl)
/-! impl.Solid).around -/
def Dimpl_Solid_around_0 (_n : Nat) (self : (Sol × Spot) → Option (Int × Int)) (_t0_0 : Bool) (_t0_1 _t0_2 _t0_3 _t0_4 : Int) (t0_5 : List Sol) (t7 t8 : Int) (t36 : Bool) (b3_0 b3_1 b3_2 b3_3 : Int) : Option (Int × Int) :=
  frk t36 ((lget t0_5 1).bind fun v4 => (self (v4, (Spot.mk b3_0 b3_1 b3_2 b3_3))).bind fun v5 => some (w64 (t7 + v5.1), w64 (t8 + v5.2))) (some (t7, t8))
theorem Timpl_Solid_around_0 {Y} (n : Nat) (self : (Sol × Spot) → Option (Int × Int)) (hself : ∀ (a : (Sol × Spot)) (q0 : List AV) (r : (Int × Int)), self a = some r → Big Tryz.prog H Y (.call 154 [.cptr ([bl a.1.inn, i64 a.1.pl.A, i64 a.1.pl.B, i64 a.1.pl.C, i64 a.1.pl.D, .sl false 6 a.1.kids.length ((eSol false).f a.1.kids)] ++ q0), .agg [i64 a.2.X, i64 a.2.Y, i64 a.2.Z, i64 a.2.W]] (lk []) (.tup [i64 r.1, i64 r.2]) (lk []))) (t0_0 : Bool) (t0_1 t0_2 t0_3 t0_4 : Int) (t0_5 : List Sol) (t0_r : List AV) (t7 t8 : Int) (t36 : Bool) (b3_0 b3_1 b3_2 b3_3 : Int) (q0 : List AV) (r : (Int × Int)) (h : Dimpl_Solid_around_0 n self t0_0 t0_1 t0_2 t0_3 t0_4 t0_5 t7 t8 t36 b3_0 b3_1 b3_2 b3_3 = some r) : Wk Tryz.prog H Y 154 [.code (cp [1, 1, 1, 1, 1, 0, 1] (bodyOf Tryz.f154)), .code (cp [1, 1, 1, 1, 1, 1] (bodyOf Tryz.f154))] (FinX Tryz.prog Tryz.f154 [] (.tup [i64 r.1, i64 r.2]) []) ⟨[(0, .cptr ([bl t0_0, i64 t0_1, i64 t0_2, i64 t0_3, i64 t0_4, .sl false 6 t0_5.length ((eSol false).f t0_5)] ++ t0_r)), (3, .ptr 3 0), (7, i64 t7), (8, i64 t8), (36, bl t36)], [(3, ⟨true, 0, [i64 b3_0, i64 b3_1, i64 b3_2, i64 b3_3]⟩)]⟩ := by
  unfold Dimpl_Solid_around_0 at h
  refine x_frk 0 [] onil h (by kernel_rfl) (fun h => ?_) (fun h => ?_)
  · obtain ⟨v4, hv4, h⟩ := bind_some h
    obtain ⟨v5, hv5, h⟩ := bind_some h
    replace h := Option.some.inj h; subst h
    exact x_end 35 [(4, .val (.cptr ((eSol false).c v4 ++ (eSol false).f ((t0_5).drop (Int.toNat 1 + 1))))), (1, .call [] [] (.tup [i64 v5.1, i64 v5.2]) [])] [] (ocons (ix (eSol false) hv4) (ocons (hself (v4, (Spot.mk b3_0 b3_1 b3_2 b3_3)) ((eSol false).f ((t0_5).drop (Int.toNat 1 + 1))) _ hv5) onil)) onil (by kernel_rfl)
  · replace h := Option.some.inj h; subst h
    exact x_end 8 [] [] onil onil (by kernel_rfl)
def Dimpl_Solid_around_b (n : Nat) (self : (Sol × Spot) → Option (Int × Int)) (a : (Sol × Spot)) : Option (Int × Int) :=
  match a with
  | (a0, a1) => (Dimpl_Solid_isLeaf a0).bind fun v0 => frk v0 (frk a0.inn (some (1, 0)) (some (0, 1))) ((Dimpl_sideAt a0.pl a1).bind fun v1 => frk (decide (v1 ≥ 0)) ((lget a0.kids 0).bind fun v2 => (self (v2, a1)).bind fun v3 => Dimpl_Solid_around_0 n self a0.inn a0.pl.A a0.pl.B a0.pl.C a0.pl.D a0.kids v3.1 v3.2 (decide (v1 ≤ 0)) a1.X a1.Y a1.Z a1.W) (Dimpl_Solid_around_0 n self a0.inn a0.pl.A a0.pl.B a0.pl.C a0.pl.D a0.kids 0 0 (decide (v1 ≤ 0)) a1.X a1.Y a1.Z a1.W))
def Dimpl_Solid_around (n : Nat) (a0 : Sol) (a1 : Spot) : Option (Int × Int) := loopN (Dimpl_Solid_around_b n) n (a0, a1)
theorem Timpl_Solid_around_b {Y} (n : Nat) : ∀ (m : Nat) (a : (Sol × Spot)) (r : (Int × Int)), loopN (Dimpl_Solid_around_b n) m a = some r → ∀ (q0 : List AV), Big Tryz.prog H Y (.call 154 [.cptr ([bl a.1.inn, i64 a.1.pl.A, i64 a.1.pl.B, i64 a.1.pl.C, i64 a.1.pl.D, .sl false 6 a.1.kids.length ((eSol false).f a.1.kids)] ++ q0), .agg [i64 a.2.X, i64 a.2.Y, i64 a.2.Z, i64 a.2.W]] (lk []) (.tup [i64 r.1, i64 r.2]) (lk [])) := by
  refine loopN_ind (fun self hs a r h => ?_)
  have hself : ∀ (a : (Sol × Spot)) (q0 : List AV) (r : (Int × Int)), self a = some r → Big Tryz.prog H Y (.call 154 [.cptr ([bl a.1.inn, i64 a.1.pl.A, i64 a.1.pl.B, i64 a.1.pl.C, i64 a.1.pl.D, .sl false 6 a.1.kids.length ((eSol false).f a.1.kids)] ++ q0), .agg [i64 a.2.X, i64 a.2.Y, i64 a.2.Z, i64 a.2.W]] (lk []) (.tup [i64 r.1, i64 r.2]) (lk [])) := fun a q0 r h => hs a r h q0
  intro q0
  obtain ⟨a0, a1⟩ := a
  unfold Dimpl_Solid_around_b at h
  refine x_call (fn := Tryz.f154) (c := bodyOf Tryz.f154) (bs0 := []) Tryz.func154 (by kernel_rfl) (by kernel_rfl) ?_
  obtain ⟨v0, hv0, h⟩ := bind_some h
  refine x_frk 12 [(4, .call [] [] (bl v0) [])] (ocons (Timpl_Solid_isLeaf (Y := Y) a0 q0 _ hv0) onil) h (by kernel_rfl) (fun h => ?_) (fun h => ?_)
  · refine x_frk 8 [] onil h (by kernel_rfl) (fun h => ?_) (fun h => ?_)
    · replace h := Option.some.inj h; subst h
      exact x_end 5 [] [] onil onil (by kernel_rfl)
    · replace h := Option.some.inj h; subst h
      exact x_end 6 [] [] onil onil (by kernel_rfl)
  · obtain ⟨v1, hv1, h⟩ := bind_some h
    refine x_frk 22 [(5, .call [] [] (i64 v1) [])] (ocons (Timpl_sideAt (Y := Y) a0.pl a1 _ hv1) onil) h (by kernel_rfl) (fun h => ?_) (fun h => ?_)
    · obtain ⟨v2, hv2, h⟩ := bind_some h
      obtain ⟨v3, hv3, h⟩ := bind_some h
      exact x_to 20 [(4, .val (.cptr ((eSol false).c v2 ++ (eSol false).f ((a0.kids).drop (Int.toNat 0 + 1))))), (1, .call [] [] (.tup [i64 v3.1, i64 v3.2]) [])] (ocons (ix (eSol false) hv2) (ocons (hself (v2, a1) ((eSol false).f ((a0.kids).drop (Int.toNat 0 + 1))) _ hv3) onil)) (Timpl_Solid_around_0 n self hself a0.inn a0.pl.A a0.pl.B a0.pl.C a0.pl.D a0.kids q0 v3.1 v3.2 (decide (v1 ≤ 0)) a1.X a1.Y a1.Z a1.W q0 r h) (by kernel_rfl)
    · exact x_to 7 [] onil (Timpl_Solid_around_0 n self hself a0.inn a0.pl.A a0.pl.B a0.pl.C a0.pl.D a0.kids q0 0 0 (decide (v1 ≤ 0)) a1.X a1.Y a1.Z a1.W q0 r h) (by kernel_rfl)
theorem Timpl_Solid_around {Y} (n : Nat) (a0 : Sol) (a1 : Spot) (q0 : List AV) (r : (Int × Int)) (h : Dimpl_Solid_around n a0 a1 = some r) : Big Tryz.prog H Y (.call 154 [.cptr ([bl a0.inn, i64 a0.pl.A, i64 a0.pl.B, i64 a0.pl.C, i64 a0.pl.D, .sl false 6 a0.kids.length ((eSol false).f a0.kids)] ++ q0), .agg [i64 a1.X, i64 a1.Y, i64 a1.Z, i64 a1.W]] (lk []) (.tup [i64 r.1, i64 r.2]) (lk [])) := Timpl_Solid_around_b n n (a0, a1) r h q0
/-! impl.Around -/
def Dimpl_Around_0 (n : Nat) (t13 b2_0 : Bool) (b2_1 b2_2 b2_3 b2_4 : Int) (b2_5 : List Sol) (b3_0 b3_1 b3_2 b3_3 : Int) : Option (Int × Int) :=
  frk t13 (some (0, 0)) ((Dimpl_Solid_around n (Sol.mk b2_0 (Pl.mk b2_1 b2_2 b2_3 b2_4) b2_5) (Spot.mk b3_0 b3_1 b3_2 b3_3)).bind fun v2 => some v2)
theorem Timpl_Around_0 {Y} (n : Nat) (t13 b2_0 : Bool) (b2_1 b2_2 b2_3 b2_4 : Int) (b2_5 : List Sol) (b3_0 b3_1 b3_2 b3_3 : Int) (r : (Int × Int)) (h : Dimpl_Around_0 n t13 b2_0 b2_1 b2_2 b2_3 b2_4 b2_5 b3_0 b3_1 b3_2 b3_3 = some r) : Wk Tryz.prog H Y 123 [.code (cp [1, 0, 1] (bodyOf Tryz.f123)), .code (cp [1, 1] (bodyOf Tryz.f123))] (FinX Tryz.prog Tryz.f123 [] (.tup [i64 r.1, i64 r.2]) []) ⟨[(2, .ptr 2 0), (3, .ptr 3 0), (13, bl t13)], [(2, ⟨true, 0, [bl b2_0, i64 b2_1, i64 b2_2, i64 b2_3, i64 b2_4, .sl false 6 b2_5.length ((eSol false).f b2_5)]⟩), (3, ⟨true, 0, [i64 b3_0, i64 b3_1, i64 b3_2, i64 b3_3]⟩)]⟩ := by
  unfold Dimpl_Around_0 at h
  refine x_frk 0 [] onil h (by kernel_rfl) (fun h => ?_) (fun h => ?_)
  · replace h := Option.some.inj h; subst h
    exact x_end 5 [] [] onil onil (by kernel_rfl)
  · obtain ⟨v2, hv2, h⟩ := bind_some h
    replace h := Option.some.inj h; subst h
    exact x_end 10 [(1, .call [] [] (.tup [i64 v2.1, i64 v2.2]) [])] [] (ocons (Timpl_Solid_around (Y := Y) n (Sol.mk b2_0 (Pl.mk b2_1 b2_2 b2_3 b2_4) b2_5) (Spot.mk b3_0 b3_1 b3_2 b3_3) [] _ hv2) onil) onil (by kernel_rfl)
def Dimpl_Around (n : Nat) (a0 : Sol) (a1 : Spot) : Option (Int × Int) :=
  (Dimpl_SpotOk n a1).bind fun v0 => frk (!v0) (some (0, 0)) ((Dimpl_SolidOk n a0).bind fun v1 => Dimpl_Around_0 n (!v1) a0.inn a0.pl.A a0.pl.B a0.pl.C a0.pl.D a0.kids a1.X a1.Y a1.Z a1.W)
theorem Timpl_Around {Y} (n : Nat) (a0 : Sol) (a1 : Spot) (r : (Int × Int)) (h : Dimpl_Around n a0 a1 = some r) : Big Tryz.prog H Y (.call 123 [.agg [bl a0.inn, i64 a0.pl.A, i64 a0.pl.B, i64 a0.pl.C, i64 a0.pl.D, .sl false 6 a0.kids.length ((eSol false).f a0.kids)], .agg [i64 a1.X, i64 a1.Y, i64 a1.Z, i64 a1.W]] (lk []) (.tup [i64 r.1, i64 r.2]) (lk [])) := by
  unfold Dimpl_Around at h
  refine x_call (fn := Tryz.f123) (c := bodyOf Tryz.f123) (bs0 := []) Tryz.func123 (by kernel_rfl) (by kernel_rfl) ?_
  obtain ⟨v0, hv0, h⟩ := bind_some h
  refine x_frk 14 [(5, .call [] [] (bl v0) [])] (ocons (Timpl_SpotOk (Y := Y) n a1 _ hv0) onil) h (by kernel_rfl) (fun h => ?_) (fun h => ?_)
  · replace h := Option.some.inj h; subst h
    exact x_end 11 [] [] onil onil (by kernel_rfl)
  · obtain ⟨v1, hv1, h⟩ := bind_some h
    exact x_to 5 [(1, .call [] [] (bl v1) [])] (ocons (Timpl_SolidOk (Y := Y) n a0 _ hv1) onil) (Timpl_Around_0 n (!v1) a0.inn a0.pl.A a0.pl.B a0.pl.C a0.pl.D a0.kids a1.X a1.Y a1.Z a1.W r h) (by kernel_rfl)
/-! impl.where -/
def Dimpl_where (a0 a1 : Int) : Option Int :=
  frk (a0 == 0) (some (-1)) (frk (a1 == 0) (some 1) (some 0))
theorem Timpl_where {Y} (a0 a1 r : Int) (h : Dimpl_where a0 a1 = some r) : Big Tryz.prog H Y (.call 122 [i64 a0, i64 a1] (lk []) (i64 r) (lk [])) := by
  unfold Dimpl_where at h
  refine x_call (fn := Tryz.f122) (c := bodyOf Tryz.f122) (bs0 := []) Tryz.func122 (by kernel_rfl) (by kernel_rfl) ?_
  refine x_frk 12 [] onil h (by kernel_rfl) (fun h => ?_) (fun h => ?_)
  · replace h := Option.some.inj h; subst h
    exact x_end 4 [] [] onil onil (by kernel_rfl)
  · refine x_frk 6 [] onil h (by kernel_rfl) (fun h => ?_) (fun h => ?_)
    · replace h := Option.some.inj h; subst h
      exact x_end 4 [] [] onil onil (by kernel_rfl)
    · replace h := Option.some.inj h; subst h
      exact x_end 6 [] [] onil onil (by kernel_rfl)
/-! impl.Where -/
def Dimpl_Where (n : Nat) (a0 : Sol) (a1 : Spot) : Option Int :=
  (Dimpl_Around n a0 a1).bind fun v0 => (Dimpl_where v0.1 v0.2).bind fun v1 => some v1
theorem Timpl_Where {Y} (n : Nat) (a0 : Sol) (a1 : Spot) (r : Int) (h : Dimpl_Where n a0 a1 = some r) : Big Tryz.prog H Y (.call 53 [.agg [bl a0.inn, i64 a0.pl.A, i64 a0.pl.B, i64 a0.pl.C, i64 a0.pl.D, .sl false 6 a0.kids.length ((eSol false).f a0.kids)], .agg [i64 a1.X, i64 a1.Y, i64 a1.Z, i64 a1.W]] (lk []) (i64 r) (lk [])) := by
  unfold Dimpl_Where at h
  refine x_call (fn := Tryz.f53) (c := bodyOf Tryz.f53) (bs0 := []) Tryz.func53 (by kernel_rfl) (by kernel_rfl) ?_
  obtain ⟨v0, hv0, h⟩ := bind_some h
  obtain ⟨v1, hv1, h⟩ := bind_some h
  replace h := Option.some.inj h; subst h
  exact x_end 16 [(5, .call [] [] (.tup [i64 v0.1, i64 v0.2]) []), (2, .call [] [] (i64 v1) [])] [] (ocons (Timpl_Around (Y := Y) n a0 a1 _ hv0) (ocons (Timpl_where (Y := Y) v0.1 v0.2 _ hv1) onil)) onil (by kernel_rfl)
/-! impl.WherePt -/
def Dimpl_WherePt (n : Nat) (a0 : Sol) (a1 : Pt) : Option Int :=
  (Dimpl_PtOk a1).bind fun v0 => frk (!v0) (some (-1)) ((Dimpl_spotAt a1).bind fun v1 => (Dimpl_Where n a0 v1).bind fun v2 => some v2)
theorem Timpl_WherePt {Y} (n : Nat) (a0 : Sol) (a1 : Pt) (r : Int) (h : Dimpl_WherePt n a0 a1 = some r) : Big Tryz.prog H Y (.call 19 [.agg [bl a0.inn, i64 a0.pl.A, i64 a0.pl.B, i64 a0.pl.C, i64 a0.pl.D, .sl false 6 a0.kids.length ((eSol false).f a0.kids)], .agg [i64 a1.X, i64 a1.Y, i64 a1.Z]] (lk []) (i64 r) (lk [])) := by
  unfold Dimpl_WherePt at h
  refine x_call (fn := Tryz.f19) (c := bodyOf Tryz.f19) (bs0 := []) Tryz.func19 (by kernel_rfl) (by kernel_rfl) ?_
  obtain ⟨v0, hv0, h⟩ := bind_some h
  refine x_frk 13 [(4, .call [] [] (bl v0) [])] (ocons (Timpl_PtOk (Y := Y) a1 _ hv0) onil) h (by kernel_rfl) (fun h => ?_) (fun h => ?_)
  · replace h := Option.some.inj h; subst h
    exact x_end 4 [] [] onil onil (by kernel_rfl)
  · obtain ⟨v1, hv1, h⟩ := bind_some h
    obtain ⟨v2, hv2, h⟩ := bind_some h
    replace h := Option.some.inj h; subst h
    exact x_end 9 [(2, .call [] [] (.agg [i64 v1.X, i64 v1.Y, i64 v1.Z, i64 v1.W]) []), (0, .call [] [] (i64 v2) [])] [] (ocons (Timpl_spotAt (Y := Y) a1 _ hv1) (ocons (Timpl_Where (Y := Y) n a0 v1 _ hv2) onil)) onil (by kernel_rfl)
/-! laws.FnTurned -/
def Dlaws_FnTurned_0 (n : Nat) (b3_0 : Bool) (b3_1 b3_2 b3_3 b3_4 : Int) (b3_5 : List Sol) (b6_0 : Bool) (b6_1 b6_2 b6_3 b6_4 : Int) (b6_5 : List Sol) : Option Bool :=
  (Dimpl_SameTree n (Sol.mk b6_0 (Pl.mk b6_1 b6_2 b6_3 b6_4) b6_5) (Sol.mk b3_0 (Pl.mk b3_1 b3_2 b3_3 b3_4) b3_5)).bind fun v4 => some v4
theorem Tlaws_FnTurned_0 {Y} (n : Nat) (b3_0 : Bool) (b3_1 b3_2 b3_3 b3_4 : Int) (b3_5 : List Sol) (b6_0 : Bool) (b6_1 b6_2 b6_3 b6_4 : Int) (b6_5 : List Sol) (r : Bool) (h : Dlaws_FnTurned_0 n b3_0 b3_1 b3_2 b3_3 b3_4 b3_5 b6_0 b6_1 b6_2 b6_3 b6_4 b6_5 = some r) : Wk Tryz.prog H Y 3 [.code (cp [1, 1, 1, 1, 0, 1, 0, 0] (bodyOf Tryz.f3)), .code (cp [1, 1, 1, 1, 0, 1, 0, 1] (bodyOf Tryz.f3)), .code (cp [1, 1, 1, 1, 1] (bodyOf Tryz.f3))] (FinX Tryz.prog Tryz.f3 [] (bl r) []) ⟨[(3, .ptr 3 0), (6, .ptr 6 0)], [(3, ⟨true, 0, [bl b3_0, i64 b3_1, i64 b3_2, i64 b3_3, i64 b3_4, .sl false 6 b3_5.length ((eSol false).f b3_5)]⟩), (6, ⟨true, 0, [bl b6_0, i64 b6_1, i64 b6_2, i64 b6_3, i64 b6_4, .sl true 6 b6_5.length ((eSol true).f b6_5)]⟩)]⟩ := by
  unfold Dlaws_FnTurned_0 at h
  obtain ⟨v4, hv4, h⟩ := bind_some h
  replace h := Option.some.inj h; subst h
  exact x_end 6 [(0, .rows [(eSol false).f b6_5]), (1, .call [] [] (bl v4) [])] [] (ocons (Enc.share (eSol true) (eSol false) (sSol true) b6_5) (ocons (Timpl_SameTree (Y := Y) n (Sol.mk b6_0 (Pl.mk b6_1 b6_2 b6_3 b6_4) b6_5) (Sol.mk b3_0 (Pl.mk b3_1 b3_2 b3_3 b3_4) b3_5) _ hv4) onil)) onil (by kernel_rfl)
def Dlaws_FnTurned_2 (n : Nat) (t4 t5 : Int) (b3_0 : Bool) (b3_1 b3_2 b3_3 b3_4 : Int) (b3_5 : List Sol) (b6_0 : Bool) (b6_1 b6_2 b6_3 b6_4 : Int) (b6_5 : List Sol) (b7_0 b7_1 b7_2 : Int) (b8_0 : Bool) (b8_1 b8_2 b8_3 b8_4 : Int) (b8_5 : List Sol) (b9_0 b9_1 b9_2 : Int) : Option Bool :=
  (Dimpl_SolidOk n (Sol.mk b6_0 (Pl.mk b6_1 b6_2 b6_3 b6_4) b6_5)).bind fun v10 => frk v10 ((Dimpl_TurnPt n (Pt.mk b7_0 b7_1 b7_2) t4 t5).bind fun v11 => (Dimpl_WherePt n (Sol.mk b6_0 (Pl.mk b6_1 b6_2 b6_3 b6_4) b6_5) v11).bind fun v12 => (Dimpl_WherePt n (Sol.mk b3_0 (Pl.mk b3_1 b3_2 b3_3 b3_4) b3_5) (Pt.mk b7_0 b7_1 b7_2)).bind fun v13 => frk (v12 == v13) ((Dimpl_TurnSolid n (Sol.mk b3_0 (Pl.mk b3_1 b3_2 b3_3 b3_4) b3_5) t4 4).bind fun v14 => (Dimpl_SameTree n v14 (Sol.mk b3_0 (Pl.mk b3_1 b3_2 b3_3 b3_4) b3_5)).bind fun v15 => frk v15 ((Dimpl_TurnSolid n (Sol.mk b3_0 (Pl.mk b3_1 b3_2 b3_3 b3_4) b3_5) t4 1).bind fun v16 => (Dimpl_TurnSolid n v16 t4 3).bind fun v17 => (Dimpl_SameTree n v17 (Sol.mk b3_0 (Pl.mk b3_1 b3_2 b3_3 b3_4) b3_5)).bind fun v18 => frk v18 ((Dimpl_SolidOk n (Sol.mk b8_0 (Pl.mk b8_1 b8_2 b8_3 b8_4) b8_5)).bind fun v19 => frk v19 ((Dimpl_WherePt n (Sol.mk b8_0 (Pl.mk b8_1 b8_2 b8_3 b8_4) b8_5) (Pt.mk b9_0 b9_1 b9_2)).bind fun v20 => (Dimpl_WherePt n (Sol.mk b3_0 (Pl.mk b3_1 b3_2 b3_3 b3_4) b3_5) (Pt.mk b7_0 b7_1 b7_2)).bind fun v21 => frk (v20 == v21) ((Dimpl_Mirror n (Sol.mk b8_0 (Pl.mk b8_1 b8_2 b8_3 b8_4) b8_5) t4).bind fun v22 => (Dimpl_SameTree n v22 (Sol.mk b3_0 (Pl.mk b3_1 b3_2 b3_3 b3_4) b3_5)).bind fun v23 => some v23) (some false)) (some false)) (some false)) (some false)) (some false)) (some false)
theorem Tlaws_FnTurned_2 {Y} (n : Nat) (t4 t5 : Int) (b3_0 : Bool) (b3_1 b3_2 b3_3 b3_4 : Int) (b3_5 : List Sol) (b6_0 : Bool) (b6_1 b6_2 b6_3 b6_4 : Int) (b6_5 : List Sol) (b7_0 b7_1 b7_2 : Int) (b8_0 : Bool) (b8_1 b8_2 b8_3 b8_4 : Int) (b8_5 : List Sol) (b9_0 b9_1 b9_2 : Int) (r : Bool) (h : Dlaws_FnTurned_2 n t4 t5 b3_0 b3_1 b3_2 b3_3 b3_4 b3_5 b6_0 b6_1 b6_2 b6_3 b6_4 b6_5 b7_0 b7_1 b7_2 b8_0 b8_1 b8_2 b8_3 b8_4 b8_5 b9_0 b9_1 b9_2 = some r) : Wk Tryz.prog H Y 3 [.code (cp [1, 1, 1, 1, 1, 1, 1, 1, 1, 0] (bodyOf Tryz.f3)), .code (cp [1, 1, 1, 1, 1, 1, 1, 1, 1, 1] (bodyOf Tryz.f3))] (FinX Tryz.prog Tryz.f3 [] (bl r) []) ⟨[(3, .ptr 3 0), (4, i64 t4), (5, i64 t5), (6, .ptr 6 0), (7, .ptr 7 0), (8, .ptr 8 0), (9, .ptr 9 0)], [(3, ⟨true, 0, [bl b3_0, i64 b3_1, i64 b3_2, i64 b3_3, i64 b3_4, .sl false 6 b3_5.length ((eSol false).f b3_5)]⟩), (6, ⟨true, 0, [bl b6_0, i64 b6_1, i64 b6_2, i64 b6_3, i64 b6_4, .sl true 6 b6_5.length ((eSol true).f b6_5)]⟩), (7, ⟨true, 0, [i64 b7_0, i64 b7_1, i64 b7_2]⟩), (8, ⟨true, 0, [bl b8_0, i64 b8_1, i64 b8_2, i64 b8_3, i64 b8_4, .sl true 6 b8_5.length ((eSol true).f b8_5)]⟩), (9, ⟨true, 0, [i64 b9_0, i64 b9_1, i64 b9_2]⟩)]⟩ := by
  unfold Dlaws_FnTurned_2 at h
  obtain ⟨v10, hv10, h⟩ := bind_some h
  refine x_frk 4 [(0, .rows [(eSol false).f b6_5]), (0, .call [] [] (bl v10) [])] (ocons (Enc.share (eSol true) (eSol false) (sSol true) b6_5) (ocons (Timpl_SolidOk (Y := Y) n (Sol.mk b6_0 (Pl.mk b6_1 b6_2 b6_3 b6_4) b6_5) _ hv10) onil)) h (by kernel_rfl) (fun h => ?_) (fun h => ?_)
  · obtain ⟨v11, hv11, h⟩ := bind_some h
    obtain ⟨v12, hv12, h⟩ := bind_some h
    obtain ⟨v13, hv13, h⟩ := bind_some h
    refine x_frk 12 [(0, .rows [(eSol false).f b6_5]), (3, .call [] [] (.agg [i64 v11.X, i64 v11.Y, i64 v11.Z]) []), (0, .call [] [] (i64 v12) []), (2, .call [] [] (i64 v13) [])] (ocons (Enc.share (eSol true) (eSol false) (sSol true) b6_5) (ocons (Timpl_TurnPt (Y := Y) n (Pt.mk b7_0 b7_1 b7_2) t4 t5 _ hv11) (ocons (Timpl_WherePt (Y := Y) n (Sol.mk b6_0 (Pl.mk b6_1 b6_2 b6_3 b6_4) b6_5) v11 _ hv12) (ocons (Timpl_WherePt (Y := Y) n (Sol.mk b3_0 (Pl.mk b3_1 b3_2 b3_3 b3_4) b3_5) (Pt.mk b7_0 b7_1 b7_2) _ hv13) onil)))) h (by kernel_rfl) (fun h => ?_) (fun h => ?_)
    · obtain ⟨v14, hv14, h⟩ := bind_some h
      obtain ⟨v15, hv15, h⟩ := bind_some h
      refine x_frk 7 [(2, .call [] [] (.agg [bl v14.inn, i64 v14.pl.A, i64 v14.pl.B, i64 v14.pl.C, i64 v14.pl.D, .sl true 6 v14.kids.length ((eSol true).f v14.kids)]) []), (1, .call [] [(eSol false).f v14.kids] (bl v15) [])] (ocons (Timpl_TurnSolid (Y := Y) n (Sol.mk b3_0 (Pl.mk b3_1 b3_2 b3_3 b3_4) b3_5) t4 4 _ hv14) (ocons (Timpl_SameTree (Y := Y) n v14 (Sol.mk b3_0 (Pl.mk b3_1 b3_2 b3_3 b3_4) b3_5) _ hv15) (ocons (Enc.share (eSol true) (eSol false) (sSol true) v14.kids) onil))) h (by kernel_rfl) (fun h => ?_) (fun h => ?_)
      · obtain ⟨v16, hv16, h⟩ := bind_some h
        obtain ⟨v17, hv17, h⟩ := bind_some h
        obtain ⟨v18, hv18, h⟩ := bind_some h
        refine x_frk 9 [(2, .call [] [] (.agg [bl v16.inn, i64 v16.pl.A, i64 v16.pl.B, i64 v16.pl.C, i64 v16.pl.D, .sl true 6 v16.kids.length ((eSol true).f v16.kids)]) []), (1, .call [] [(eSol false).f v16.kids] (.agg [bl v17.inn, i64 v17.pl.A, i64 v17.pl.B, i64 v17.pl.C, i64 v17.pl.D, .sl true 6 v17.kids.length ((eSol true).f v17.kids)]) []), (1, .call [] [(eSol false).f v17.kids] (bl v18) [])] (ocons (Timpl_TurnSolid (Y := Y) n (Sol.mk b3_0 (Pl.mk b3_1 b3_2 b3_3 b3_4) b3_5) t4 1 _ hv16) (ocons (Timpl_TurnSolid (Y := Y) n v16 t4 3 _ hv17) (ocons (Enc.share (eSol true) (eSol false) (sSol true) v16.kids) (ocons (Timpl_SameTree (Y := Y) n v17 (Sol.mk b3_0 (Pl.mk b3_1 b3_2 b3_3 b3_4) b3_5) _ hv18) (ocons (Enc.share (eSol true) (eSol false) (sSol true) v17.kids) onil))))) h (by kernel_rfl) (fun h => ?_) (fun h => ?_)
        · obtain ⟨v19, hv19, h⟩ := bind_some h
          refine x_frk 4 [(0, .rows [(eSol false).f b8_5]), (0, .call [] [] (bl v19) [])] (ocons (Enc.share (eSol true) (eSol false) (sSol true) b8_5) (ocons (Timpl_SolidOk (Y := Y) n (Sol.mk b8_0 (Pl.mk b8_1 b8_2 b8_3 b8_4) b8_5) _ hv19) onil)) h (by kernel_rfl) (fun h => ?_) (fun h => ?_)
          · obtain ⟨v20, hv20, h⟩ := bind_some h
            obtain ⟨v21, hv21, h⟩ := bind_some h
            refine x_frk 9 [(0, .rows [(eSol false).f b8_5]), (1, .call [] [] (i64 v20) []), (2, .call [] [] (i64 v21) [])] (ocons (Enc.share (eSol true) (eSol false) (sSol true) b8_5) (ocons (Timpl_WherePt (Y := Y) n (Sol.mk b8_0 (Pl.mk b8_1 b8_2 b8_3 b8_4) b8_5) (Pt.mk b9_0 b9_1 b9_2) _ hv20) (ocons (Timpl_WherePt (Y := Y) n (Sol.mk b3_0 (Pl.mk b3_1 b3_2 b3_3 b3_4) b3_5) (Pt.mk b7_0 b7_1 b7_2) _ hv21) onil))) h (by kernel_rfl) (fun h => ?_) (fun h => ?_)
            · obtain ⟨v22, hv22, h⟩ := bind_some h
              obtain ⟨v23, hv23, h⟩ := bind_some h
              replace h := Option.some.inj h; subst h
              exact x_end 8 [(0, .rows [(eSol false).f b8_5]), (1, .call [] [] (.agg [bl v22.inn, i64 v22.pl.A, i64 v22.pl.B, i64 v22.pl.C, i64 v22.pl.D, .sl true 6 v22.kids.length ((eSol true).f v22.kids)]) []), (1, .call [] [(eSol false).f v22.kids] (bl v23) [])] [] (ocons (Enc.share (eSol true) (eSol false) (sSol true) b8_5) (ocons (Timpl_Mirror (Y := Y) n (Sol.mk b8_0 (Pl.mk b8_1 b8_2 b8_3 b8_4) b8_5) t4 _ hv22) (ocons (Timpl_SameTree (Y := Y) n v22 (Sol.mk b3_0 (Pl.mk b3_1 b3_2 b3_3 b3_4) b3_5) _ hv23) (ocons (Enc.share (eSol true) (eSol false) (sSol true) v22.kids) onil)))) onil (by kernel_rfl)
            · replace h := Option.some.inj h; subst h
              exact x_end 8 [] [] onil onil (by kernel_rfl)
          · replace h := Option.some.inj h; subst h
            exact x_end 17 [] [] onil onil (by kernel_rfl)
        · replace h := Option.some.inj h; subst h
          exact x_end 21 [] [] onil onil (by kernel_rfl)
      · replace h := Option.some.inj h; subst h
        exact x_end 30 [] [] onil onil (by kernel_rfl)
    · replace h := Option.some.inj h; subst h
      exact x_end 37 [] [] onil onil (by kernel_rfl)
  · replace h := Option.some.inj h; subst h
    exact x_end 49 [] [] onil onil (by kernel_rfl)
def Dlaws_FnTurned_1 (n : Nat) (t0 : List Int) (t4 t5 : Int) (t32 b3_0 : Bool) (b3_1 b3_2 b3_3 b3_4 : Int) (b3_5 : List Sol) (b6_0 : Bool) (b6_1 b6_2 b6_3 b6_4 : Int) (b6_5 : List Sol) : Option Bool :=
  frk t32 ((Dimpl_SameTree n (Sol.mk b6_0 (Pl.mk b6_1 b6_2 b6_3 b6_4) b6_5) (Sol.mk b3_0 (Pl.mk b3_1 b3_2 b3_3 b3_4) b3_5)).bind fun v5 => some v5) ((Dlaws_at t0 2).bind fun v6 => (Dlaws_at t0 3).bind fun v7 => (Dlaws_at t0 4).bind fun v8 => (Dimpl_Mirror n (Sol.mk b3_0 (Pl.mk b3_1 b3_2 b3_3 b3_4) b3_5) t4).bind fun v9 => frk (t4 == 0) (Dlaws_FnTurned_2 n t4 t5 b3_0 b3_1 b3_2 b3_3 b3_4 b3_5 b6_0 b6_1 b6_2 b6_3 b6_4 b6_5 (w64 ((Int.tmod v6 9) - 4)) (w64 ((Int.tmod v7 9) - 4)) (w64 ((Int.tmod v8 9) - 4)) v9.inn v9.pl.A v9.pl.B v9.pl.C v9.pl.D v9.kids (w64 (0 - (w64 ((Int.tmod v6 9) - 4)))) (w64 ((Int.tmod v7 9) - 4)) (w64 ((Int.tmod v8 9) - 4))) (frk (t4 == 1) (Dlaws_FnTurned_2 n t4 t5 b3_0 b3_1 b3_2 b3_3 b3_4 b3_5 b6_0 b6_1 b6_2 b6_3 b6_4 b6_5 (w64 ((Int.tmod v6 9) - 4)) (w64 ((Int.tmod v7 9) - 4)) (w64 ((Int.tmod v8 9) - 4)) v9.inn v9.pl.A v9.pl.B v9.pl.C v9.pl.D v9.kids (w64 ((Int.tmod v6 9) - 4)) (w64 (0 - (w64 ((Int.tmod v7 9) - 4)))) (w64 ((Int.tmod v8 9) - 4))) (Dlaws_FnTurned_2 n t4 t5 b3_0 b3_1 b3_2 b3_3 b3_4 b3_5 b6_0 b6_1 b6_2 b6_3 b6_4 b6_5 (w64 ((Int.tmod v6 9) - 4)) (w64 ((Int.tmod v7 9) - 4)) (w64 ((Int.tmod v8 9) - 4)) v9.inn v9.pl.A v9.pl.B v9.pl.C v9.pl.D v9.kids (w64 ((Int.tmod v6 9) - 4)) (w64 ((Int.tmod v7 9) - 4)) (w64 (0 - (w64 ((Int.tmod v8 9) - 4)))))))
theorem Tlaws_FnTurned_1 {Y} (n : Nat) (t0 : List Int) (t4 t5 : Int) (t32 b3_0 : Bool) (b3_1 b3_2 b3_3 b3_4 : Int) (b3_5 : List Sol) (b6_0 : Bool) (b6_1 b6_2 b6_3 b6_4 : Int) (b6_5 : List Sol) (r : Bool) (h : Dlaws_FnTurned_1 n t0 t4 t5 t32 b3_0 b3_1 b3_2 b3_3 b3_4 b3_5 b6_0 b6_1 b6_2 b6_3 b6_4 b6_5 = some r) : Wk Tryz.prog H Y 3 [.code (cp [1, 1, 1, 1, 0, 1] (bodyOf Tryz.f3)), .code (cp [1, 1, 1, 1, 1] (bodyOf Tryz.f3))] (FinX Tryz.prog Tryz.f3 [] (bl r) []) ⟨[(0, .sl false 1 t0.length ((eU8).f t0)), (3, .ptr 3 0), (4, i64 t4), (5, i64 t5), (6, .ptr 6 0), (32, bl t32)], [(3, ⟨true, 0, [bl b3_0, i64 b3_1, i64 b3_2, i64 b3_3, i64 b3_4, .sl false 6 b3_5.length ((eSol false).f b3_5)]⟩), (6, ⟨true, 0, [bl b6_0, i64 b6_1, i64 b6_2, i64 b6_3, i64 b6_4, .sl true 6 b6_5.length ((eSol true).f b6_5)]⟩)]⟩ := by
  unfold Dlaws_FnTurned_1 at h
  refine x_frk 0 [] onil h (by kernel_rfl) (fun h => ?_) (fun h => ?_)
  · obtain ⟨v5, hv5, h⟩ := bind_some h
    replace h := Option.some.inj h; subst h
    exact x_end 7 [(0, .rows [(eSol false).f b6_5]), (1, .call [] [] (bl v5) [])] [] (ocons (Enc.share (eSol true) (eSol false) (sSol true) b6_5) (ocons (Timpl_SameTree (Y := Y) n (Sol.mk b6_0 (Pl.mk b6_1 b6_2 b6_3 b6_4) b6_5) (Sol.mk b3_0 (Pl.mk b3_1 b3_2 b3_3 b3_4) b3_5) _ hv5) onil)) onil (by kernel_rfl)
  · obtain ⟨v6, hv6, h⟩ := bind_some h
    obtain ⟨v7, hv7, h⟩ := bind_some h
    obtain ⟨v8, hv8, h⟩ := bind_some h
    obtain ⟨v9, hv9, h⟩ := bind_some h
    refine x_frk 44 [(1, .call [] [] (i64 v6) []), (3, .call [] [] (i64 v7) []), (3, .call [] [] (i64 v8) []), (7, .call [] [] (.agg [bl v9.inn, i64 v9.pl.A, i64 v9.pl.B, i64 v9.pl.C, i64 v9.pl.D, .sl true 6 v9.kids.length ((eSol true).f v9.kids)]) [])] (ocons (Tlaws_at (Y := Y) t0 2 _ hv6) (ocons (Tlaws_at (Y := Y) t0 3 _ hv7) (ocons (Tlaws_at (Y := Y) t0 4 _ hv8) (ocons (Timpl_Mirror (Y := Y) n (Sol.mk b3_0 (Pl.mk b3_1 b3_2 b3_3 b3_4) b3_5) t4 _ hv9) onil)))) h (by kernel_rfl) (fun h => ?_) (fun h => ?_)
    · exact x_to 9 [] onil (Tlaws_FnTurned_2 n t4 t5 b3_0 b3_1 b3_2 b3_3 b3_4 b3_5 b6_0 b6_1 b6_2 b6_3 b6_4 b6_5 (w64 ((Int.tmod v6 9) - 4)) (w64 ((Int.tmod v7 9) - 4)) (w64 ((Int.tmod v8 9) - 4)) v9.inn v9.pl.A v9.pl.B v9.pl.C v9.pl.D v9.kids (w64 (0 - (w64 ((Int.tmod v6 9) - 4)))) (w64 ((Int.tmod v7 9) - 4)) (w64 ((Int.tmod v8 9) - 4)) r h) (by kernel_rfl)
    · refine x_frk 5 [] onil h (by kernel_rfl) (fun h => ?_) (fun h => ?_)
      · exact x_to 9 [] onil (Tlaws_FnTurned_2 n t4 t5 b3_0 b3_1 b3_2 b3_3 b3_4 b3_5 b6_0 b6_1 b6_2 b6_3 b6_4 b6_5 (w64 ((Int.tmod v6 9) - 4)) (w64 ((Int.tmod v7 9) - 4)) (w64 ((Int.tmod v8 9) - 4)) v9.inn v9.pl.A v9.pl.B v9.pl.C v9.pl.D v9.kids (w64 ((Int.tmod v6 9) - 4)) (w64 (0 - (w64 ((Int.tmod v7 9) - 4)))) (w64 ((Int.tmod v8 9) - 4)) r h) (by kernel_rfl)
      · exact x_to 9 [] onil (Tlaws_FnTurned_2 n t4 t5 b3_0 b3_1 b3_2 b3_3 b3_4 b3_5 b6_0 b6_1 b6_2 b6_3 b6_4 b6_5 (w64 ((Int.tmod v6 9) - 4)) (w64 ((Int.tmod v7 9) - 4)) (w64 ((Int.tmod v8 9) - 4)) v9.inn v9.pl.A v9.pl.B v9.pl.C v9.pl.D v9.kids (w64 ((Int.tmod v6 9) - 4)) (w64 ((Int.tmod v7 9) - 4)) (w64 (0 - (w64 ((Int.tmod v8 9) - 4)))) r h) (by kernel_rfl)
def Dlaws_FnTurned (n : Nat) (a0 : (List Int)) : Option Bool :=
  (Dlaws_big a0).bind fun v0 => frk v0 (some true) ((Dspec_DrawTurnSolid n a0).bind fun v1 => (Dimpl_TurnSolid n v1.1 v1.2.1 v1.2.2).bind fun v2 => (Dspec_SolidOk n v1.1).bind fun v3 => frk (!v3) (Dlaws_FnTurned_0 n v1.1.inn v1.1.pl.A v1.1.pl.B v1.1.pl.C v1.1.pl.D v1.1.kids v2.inn v2.pl.A v2.pl.B v2.pl.C v2.pl.D v2.kids) (frk (decide (v1.2.1 < 0)) (Dlaws_FnTurned_0 n v1.1.inn v1.1.pl.A v1.1.pl.B v1.1.pl.C v1.1.pl.D v1.1.kids v2.inn v2.pl.A v2.pl.B v2.pl.C v2.pl.D v2.kids) (Dlaws_FnTurned_1 n a0 v1.2.1 v1.2.2 (decide (v1.2.1 > 2)) v1.1.inn v1.1.pl.A v1.1.pl.B v1.1.pl.C v1.1.pl.D v1.1.kids v2.inn v2.pl.A v2.pl.B v2.pl.C v2.pl.D v2.kids)))
theorem Tlaws_FnTurned {Y} (n : Nat) (a0 : (List Int)) (r : Bool) (h : Dlaws_FnTurned n a0 = some r) : Big Tryz.prog H Y (.call 3 [.sl false 1 a0.length ((eU8).f a0)] (lk []) (bl r) (lk [])) := by
  unfold Dlaws_FnTurned at h
  refine x_call (fn := Tryz.f3) (c := bodyOf Tryz.f3) (bs0 := []) Tryz.func3 (by kernel_rfl) (by kernel_rfl) ?_
  obtain ⟨v0, hv0, h⟩ := bind_some h
  refine x_frk 10 [(2, .call [] [] (bl v0) [])] (ocons (Tlaws_big (Y := Y) a0 _ hv0) onil) h (by kernel_rfl) (fun h => ?_) (fun h => ?_)
  · replace h := Option.some.inj h; subst h
    exact x_end 4 [] [] onil onil (by kernel_rfl)
  · obtain ⟨v1, hv1, h⟩ := bind_some h
    obtain ⟨v2, hv2, h⟩ := bind_some h
    obtain ⟨v3, hv3, h⟩ := bind_some h
    refine x_frk 30 [(1, .call [] [] (.tup [.agg [bl v1.1.inn, i64 v1.1.pl.A, i64 v1.1.pl.B, i64 v1.1.pl.C, i64 v1.1.pl.D, .sl false 6 v1.1.kids.length ((eSol false).f v1.1.kids)], i64 v1.2.1, i64 v1.2.2]) []), (11, .call [] [] (.agg [bl v2.inn, i64 v2.pl.A, i64 v2.pl.B, i64 v2.pl.C, i64 v2.pl.D, .sl true 6 v2.kids.length ((eSol true).f v2.kids)]) []), (3, .call [] [] (bl v3) [])] (ocons (Tspec_DrawTurnSolid (Y := Y) n a0 _ hv1) (ocons (Timpl_TurnSolid (Y := Y) n v1.1 v1.2.1 v1.2.2 _ hv2) (ocons (Tspec_SolidOk (Y := Y) n v1.1 _ hv3) onil))) h (by kernel_rfl) (fun h => ?_) (fun h => ?_)
    · exact x_to 10 [] onil (Tlaws_FnTurned_0 n v1.1.inn v1.1.pl.A v1.1.pl.B v1.1.pl.C v1.1.pl.D v1.1.kids v2.inn v2.pl.A v2.pl.B v2.pl.C v2.pl.D v2.kids r h) (by kernel_rfl)
    · refine x_frk 4 [] onil h (by kernel_rfl) (fun h => ?_) (fun h => ?_)
      · exact x_to 6 [] onil (Tlaws_FnTurned_0 n v1.1.inn v1.1.pl.A v1.1.pl.B v1.1.pl.C v1.1.pl.D v1.1.kids v2.inn v2.pl.A v2.pl.B v2.pl.C v2.pl.D v2.kids r h) (by kernel_rfl)
      · exact x_to 4 [] onil (Tlaws_FnTurned_1 n a0 v1.2.1 v1.2.2 (decide (v1.2.1 > 2)) v1.1.inn v1.1.pl.A v1.1.pl.B v1.1.pl.C v1.1.pl.D v1.1.kids v2.inn v2.pl.A v2.pl.B v2.pl.C v2.pl.D v2.kids r h) (by kernel_rfl)
end Evl.T
