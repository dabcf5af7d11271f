/- Walks. No condition. -/
import Derived.Test.YtpjeibdllddkjaaWy
namespace Evl.T
open Go Evl Go.Proofs
set_option maxRecDepth 100000
/-! impl.DeskOk -/
def Dimpl_DeskOk_7 (n : Nat) (a0 : ((Sol × Sol × Sol × Sol × Sol × Sol × Sol × Sol) × (Bool × Bool × Bool × Bool × Bool × Bool × Bool × Bool))) (t26 : Bool) : Option Bool :=
  frk t26 (some false) ((Dimpl_Desk_held n a0).bind fun v16 => some (decide (v16 ≤ 900)))
theorem Timpl_DeskOk_7 {Y} (n : Nat) (a0 : ((Sol × Sol × Sol × Sol × Sol × Sol × Sol × Sol) × (Bool × Bool × Bool × Bool × Bool × Bool × Bool × Bool))) (t26 : Bool) (r : Bool) (h : Dimpl_DeskOk_7 n a0 t26 = some r) : Wk Try.prog H Y 35 [.code (cp [1, 0, 1, 0, 0, 1, 1, 0, 0, 1, 1] (bodyOf Try.f35)), .blk 1, .code (cp [1, 0, 1, 0, 0, 1, 1, 1] (bodyOf Try.f35)), .lp (cp [1, 0, 1, 0] (bodyOf Try.f35)), .blk 0, .code (cp [1, 1] (bodyOf Try.f35))] (FinX Try.prog Try.f35 [] (bl r) []) ⟨[(1, .ptr 1 0), (6, .agg [bl a0.1.1.inn, i64 a0.1.1.pl.A, i64 a0.1.1.pl.B, i64 a0.1.1.pl.C, i64 a0.1.1.pl.D, .sl false 6 a0.1.1.kids.length ((eSol false).f a0.1.1.kids), bl a0.1.2.1.inn, i64 a0.1.2.1.pl.A, i64 a0.1.2.1.pl.B, i64 a0.1.2.1.pl.C, i64 a0.1.2.1.pl.D, .sl false 6 a0.1.2.1.kids.length ((eSol false).f a0.1.2.1.kids), bl a0.1.2.2.1.inn, i64 a0.1.2.2.1.pl.A, i64 a0.1.2.2.1.pl.B, i64 a0.1.2.2.1.pl.C, i64 a0.1.2.2.1.pl.D, .sl false 6 a0.1.2.2.1.kids.length ((eSol false).f a0.1.2.2.1.kids), bl a0.1.2.2.2.1.inn, i64 a0.1.2.2.2.1.pl.A, i64 a0.1.2.2.2.1.pl.B, i64 a0.1.2.2.2.1.pl.C, i64 a0.1.2.2.2.1.pl.D, .sl false 6 a0.1.2.2.2.1.kids.length ((eSol false).f a0.1.2.2.2.1.kids), bl a0.1.2.2.2.2.1.inn, i64 a0.1.2.2.2.2.1.pl.A, i64 a0.1.2.2.2.2.1.pl.B, i64 a0.1.2.2.2.2.1.pl.C, i64 a0.1.2.2.2.2.1.pl.D, .sl false 6 a0.1.2.2.2.2.1.kids.length ((eSol false).f a0.1.2.2.2.2.1.kids), bl a0.1.2.2.2.2.2.1.inn, i64 a0.1.2.2.2.2.2.1.pl.A, i64 a0.1.2.2.2.2.2.1.pl.B, i64 a0.1.2.2.2.2.2.1.pl.C, i64 a0.1.2.2.2.2.2.1.pl.D, .sl false 6 a0.1.2.2.2.2.2.1.kids.length ((eSol false).f a0.1.2.2.2.2.2.1.kids), bl a0.1.2.2.2.2.2.2.1.inn, i64 a0.1.2.2.2.2.2.2.1.pl.A, i64 a0.1.2.2.2.2.2.2.1.pl.B, i64 a0.1.2.2.2.2.2.2.1.pl.C, i64 a0.1.2.2.2.2.2.2.1.pl.D, .sl false 6 a0.1.2.2.2.2.2.2.1.kids.length ((eSol false).f a0.1.2.2.2.2.2.2.1.kids), bl a0.1.2.2.2.2.2.2.2.inn, i64 a0.1.2.2.2.2.2.2.2.pl.A, i64 a0.1.2.2.2.2.2.2.2.pl.B, i64 a0.1.2.2.2.2.2.2.2.pl.C, i64 a0.1.2.2.2.2.2.2.2.pl.D, .sl false 6 a0.1.2.2.2.2.2.2.2.kids.length ((eSol false).f a0.1.2.2.2.2.2.2.2.kids)]), (7, i64 7), (26, bl t26)], [(1, ⟨true, 0, (cT54 a0)⟩)]⟩ := by
  unfold Dimpl_DeskOk_7 at h
  refine x_frk 0 [] onil h (by kernel_rfl) (fun h => ?_) (fun h => ?_)
  · replace h := Option.some.inj h; subst h
    exact x_end 4 [] [] onil onil (by kernel_rfl)
  · obtain ⟨v16, hv16, h⟩ := bind_some h
    replace h := Option.some.inj h; subst h
    exact x_end 21 [(3, .call [] [] (i64 v16) [])] [] (ocons (Timpl_Desk_held (Y := Y) n a0 [] _ hv16) onil) onil (by kernel_rfl)
def Dimpl_DeskOk_8 (n : Nat) (a0 : ((Sol × Sol × Sol × Sol × Sol × Sol × Sol × Sol) × (Bool × Bool × Bool × Bool × Bool × Bool × Bool × Bool))) : Option Bool :=
  (Dimpl_Desk_held n a0).bind fun v17 => some (decide (v17 ≤ 900))
theorem Timpl_DeskOk_8 {Y} (n : Nat) (a0 : ((Sol × Sol × Sol × Sol × Sol × Sol × Sol × Sol) × (Bool × Bool × Bool × Bool × Bool × Bool × Bool × Bool))) (r : Bool) (h : Dimpl_DeskOk_8 n a0 = some r) : Wk Try.prog H Y 35 [.code (cp [1, 0, 1, 0] (bodyOf Try.f35)), .blk 0, .code (cp [1, 1] (bodyOf Try.f35))] (FinX Try.prog Try.f35 [] (bl r) []) ⟨[(1, .ptr 1 0), (6, .agg [bl a0.1.1.inn, i64 a0.1.1.pl.A, i64 a0.1.1.pl.B, i64 a0.1.1.pl.C, i64 a0.1.1.pl.D, .sl false 6 a0.1.1.kids.length ((eSol false).f a0.1.1.kids), bl a0.1.2.1.inn, i64 a0.1.2.1.pl.A, i64 a0.1.2.1.pl.B, i64 a0.1.2.1.pl.C, i64 a0.1.2.1.pl.D, .sl false 6 a0.1.2.1.kids.length ((eSol false).f a0.1.2.1.kids), bl a0.1.2.2.1.inn, i64 a0.1.2.2.1.pl.A, i64 a0.1.2.2.1.pl.B, i64 a0.1.2.2.1.pl.C, i64 a0.1.2.2.1.pl.D, .sl false 6 a0.1.2.2.1.kids.length ((eSol false).f a0.1.2.2.1.kids), bl a0.1.2.2.2.1.inn, i64 a0.1.2.2.2.1.pl.A, i64 a0.1.2.2.2.1.pl.B, i64 a0.1.2.2.2.1.pl.C, i64 a0.1.2.2.2.1.pl.D, .sl false 6 a0.1.2.2.2.1.kids.length ((eSol false).f a0.1.2.2.2.1.kids), bl a0.1.2.2.2.2.1.inn, i64 a0.1.2.2.2.2.1.pl.A, i64 a0.1.2.2.2.2.1.pl.B, i64 a0.1.2.2.2.2.1.pl.C, i64 a0.1.2.2.2.2.1.pl.D, .sl false 6 a0.1.2.2.2.2.1.kids.length ((eSol false).f a0.1.2.2.2.2.1.kids), bl a0.1.2.2.2.2.2.1.inn, i64 a0.1.2.2.2.2.2.1.pl.A, i64 a0.1.2.2.2.2.2.1.pl.B, i64 a0.1.2.2.2.2.2.1.pl.C, i64 a0.1.2.2.2.2.2.1.pl.D, .sl false 6 a0.1.2.2.2.2.2.1.kids.length ((eSol false).f a0.1.2.2.2.2.2.1.kids), bl a0.1.2.2.2.2.2.2.1.inn, i64 a0.1.2.2.2.2.2.2.1.pl.A, i64 a0.1.2.2.2.2.2.2.1.pl.B, i64 a0.1.2.2.2.2.2.2.1.pl.C, i64 a0.1.2.2.2.2.2.2.1.pl.D, .sl false 6 a0.1.2.2.2.2.2.2.1.kids.length ((eSol false).f a0.1.2.2.2.2.2.2.1.kids), bl a0.1.2.2.2.2.2.2.2.inn, i64 a0.1.2.2.2.2.2.2.2.pl.A, i64 a0.1.2.2.2.2.2.2.2.pl.B, i64 a0.1.2.2.2.2.2.2.2.pl.C, i64 a0.1.2.2.2.2.2.2.2.pl.D, .sl false 6 a0.1.2.2.2.2.2.2.2.kids.length ((eSol false).f a0.1.2.2.2.2.2.2.2.kids)]), (7, i64 8)], [(1, ⟨true, 0, (cT54 a0)⟩)]⟩ := by
  unfold Dimpl_DeskOk_8 at h
  obtain ⟨v17, hv17, h⟩ := bind_some h
  replace h := Option.some.inj h; subst h
  exact x_end 14 [(1, .call [] [] (i64 v17) [])] [] (ocons (Timpl_Desk_held (Y := Y) n a0 [] _ hv17) onil) onil (by kernel_rfl)
def Dimpl_DeskOk_6 (n : Nat) (a0 : ((Sol × Sol × Sol × Sol × Sol × Sol × Sol × Sol) × (Bool × Bool × Bool × Bool × Bool × Bool × Bool × Bool))) (t26 : Bool) : Option Bool :=
  frk t26 (some false) ((Dimpl_SolidOk n a0.1.2.2.2.2.2.2.2).bind fun v14 => frk (!v14) (some false) (frk (!a0.2.2.2.2.2.2.2.2) ((Dimpl_SameTree n a0.1.2.2.2.2.2.2.2 (Sol.mk false (Pl.mk 0 0 0 0) [])).bind fun v15 => Dimpl_DeskOk_7 n a0 (!v15)) (Dimpl_DeskOk_8 n a0)))
theorem Timpl_DeskOk_6 {Y} (n : Nat) (a0 : ((Sol × Sol × Sol × Sol × Sol × Sol × Sol × Sol) × (Bool × Bool × Bool × Bool × Bool × Bool × Bool × Bool))) (t26 : Bool) (r : Bool) (h : Dimpl_DeskOk_6 n a0 t26 = some r) : Wk Try.prog H Y 35 [.code (cp [1, 0, 1, 0, 0, 1, 1, 0, 0, 1, 1] (bodyOf Try.f35)), .blk 1, .code (cp [1, 0, 1, 0, 0, 1, 1, 1] (bodyOf Try.f35)), .lp (cp [1, 0, 1, 0] (bodyOf Try.f35)), .blk 0, .code (cp [1, 1] (bodyOf Try.f35))] (FinX Try.prog Try.f35 [] (bl r) []) ⟨[(1, .ptr 1 0), (6, .agg [bl a0.1.1.inn, i64 a0.1.1.pl.A, i64 a0.1.1.pl.B, i64 a0.1.1.pl.C, i64 a0.1.1.pl.D, .sl false 6 a0.1.1.kids.length ((eSol false).f a0.1.1.kids), bl a0.1.2.1.inn, i64 a0.1.2.1.pl.A, i64 a0.1.2.1.pl.B, i64 a0.1.2.1.pl.C, i64 a0.1.2.1.pl.D, .sl false 6 a0.1.2.1.kids.length ((eSol false).f a0.1.2.1.kids), bl a0.1.2.2.1.inn, i64 a0.1.2.2.1.pl.A, i64 a0.1.2.2.1.pl.B, i64 a0.1.2.2.1.pl.C, i64 a0.1.2.2.1.pl.D, .sl false 6 a0.1.2.2.1.kids.length ((eSol false).f a0.1.2.2.1.kids), bl a0.1.2.2.2.1.inn, i64 a0.1.2.2.2.1.pl.A, i64 a0.1.2.2.2.1.pl.B, i64 a0.1.2.2.2.1.pl.C, i64 a0.1.2.2.2.1.pl.D, .sl false 6 a0.1.2.2.2.1.kids.length ((eSol false).f a0.1.2.2.2.1.kids), bl a0.1.2.2.2.2.1.inn, i64 a0.1.2.2.2.2.1.pl.A, i64 a0.1.2.2.2.2.1.pl.B, i64 a0.1.2.2.2.2.1.pl.C, i64 a0.1.2.2.2.2.1.pl.D, .sl false 6 a0.1.2.2.2.2.1.kids.length ((eSol false).f a0.1.2.2.2.2.1.kids), bl a0.1.2.2.2.2.2.1.inn, i64 a0.1.2.2.2.2.2.1.pl.A, i64 a0.1.2.2.2.2.2.1.pl.B, i64 a0.1.2.2.2.2.2.1.pl.C, i64 a0.1.2.2.2.2.2.1.pl.D, .sl false 6 a0.1.2.2.2.2.2.1.kids.length ((eSol false).f a0.1.2.2.2.2.2.1.kids), bl a0.1.2.2.2.2.2.2.1.inn, i64 a0.1.2.2.2.2.2.2.1.pl.A, i64 a0.1.2.2.2.2.2.2.1.pl.B, i64 a0.1.2.2.2.2.2.2.1.pl.C, i64 a0.1.2.2.2.2.2.2.1.pl.D, .sl false 6 a0.1.2.2.2.2.2.2.1.kids.length ((eSol false).f a0.1.2.2.2.2.2.2.1.kids), bl a0.1.2.2.2.2.2.2.2.inn, i64 a0.1.2.2.2.2.2.2.2.pl.A, i64 a0.1.2.2.2.2.2.2.2.pl.B, i64 a0.1.2.2.2.2.2.2.2.pl.C, i64 a0.1.2.2.2.2.2.2.2.pl.D, .sl false 6 a0.1.2.2.2.2.2.2.2.kids.length ((eSol false).f a0.1.2.2.2.2.2.2.2.kids)]), (7, i64 6), (26, bl t26)], [(1, ⟨true, 0, (cT54 a0)⟩)]⟩ := by
  unfold Dimpl_DeskOk_6 at h
  refine x_frk 0 [] onil h (by kernel_rfl) (fun h => ?_) (fun h => ?_)
  · replace h := Option.some.inj h; subst h
    exact x_end 4 [] [] onil onil (by kernel_rfl)
  · obtain ⟨v14, hv14, h⟩ := bind_some h
    refine x_frk 31 [(9, .call [] [] (bl v14) [])] (ocons (Timpl_SolidOk (Y := Y) n a0.1.2.2.2.2.2.2.2 _ hv14) onil) h (by kernel_rfl) (fun h => ?_) (fun h => ?_)
    · replace h := Option.some.inj h; subst h
      exact x_end 18 [] [] onil onil (by kernel_rfl)
    · refine x_frk 6 [] onil h (by kernel_rfl) (fun h => ?_) (fun h => ?_)
      · obtain ⟨v15, hv15, h⟩ := bind_some h
        exact x_to 7 [(2, .call [(false, 6)] [] (bl v15) [])] (ocons (Timpl_SameTree (Y := Y) n a0.1.2.2.2.2.2.2.2 (Sol.mk false (Pl.mk 0 0 0 0) []) _ hv15) onil) (Timpl_DeskOk_7 n a0 (!v15) r h) (by kernel_rfl)
      · exact x_to 15 [] onil (Timpl_DeskOk_8 n a0 r h) (by kernel_rfl)
def Dimpl_DeskOk_9 (n : Nat) (a0 : ((Sol × Sol × Sol × Sol × Sol × Sol × Sol × Sol) × (Bool × Bool × Bool × Bool × Bool × Bool × Bool × Bool))) : Option Bool :=
  (Dimpl_SolidOk n a0.1.2.2.2.2.2.2.2).bind fun v18 => frk (!v18) (some false) (frk (!a0.2.2.2.2.2.2.2.2) ((Dimpl_SameTree n a0.1.2.2.2.2.2.2.2 (Sol.mk false (Pl.mk 0 0 0 0) [])).bind fun v19 => Dimpl_DeskOk_7 n a0 (!v19)) (Dimpl_DeskOk_8 n a0))
theorem Timpl_DeskOk_9 {Y} (n : Nat) (a0 : ((Sol × Sol × Sol × Sol × Sol × Sol × Sol × Sol) × (Bool × Bool × Bool × Bool × Bool × Bool × Bool × Bool))) (r : Bool) (h : Dimpl_DeskOk_9 n a0 = some r) : Wk Try.prog H Y 35 [.code (cp [1, 0, 1, 0] (bodyOf Try.f35)), .blk 0, .code (cp [1, 1] (bodyOf Try.f35))] (FinX Try.prog Try.f35 [] (bl r) []) ⟨[(1, .ptr 1 0), (6, .agg [bl a0.1.1.inn, i64 a0.1.1.pl.A, i64 a0.1.1.pl.B, i64 a0.1.1.pl.C, i64 a0.1.1.pl.D, .sl false 6 a0.1.1.kids.length ((eSol false).f a0.1.1.kids), bl a0.1.2.1.inn, i64 a0.1.2.1.pl.A, i64 a0.1.2.1.pl.B, i64 a0.1.2.1.pl.C, i64 a0.1.2.1.pl.D, .sl false 6 a0.1.2.1.kids.length ((eSol false).f a0.1.2.1.kids), bl a0.1.2.2.1.inn, i64 a0.1.2.2.1.pl.A, i64 a0.1.2.2.1.pl.B, i64 a0.1.2.2.1.pl.C, i64 a0.1.2.2.1.pl.D, .sl false 6 a0.1.2.2.1.kids.length ((eSol false).f a0.1.2.2.1.kids), bl a0.1.2.2.2.1.inn, i64 a0.1.2.2.2.1.pl.A, i64 a0.1.2.2.2.1.pl.B, i64 a0.1.2.2.2.1.pl.C, i64 a0.1.2.2.2.1.pl.D, .sl false 6 a0.1.2.2.2.1.kids.length ((eSol false).f a0.1.2.2.2.1.kids), bl a0.1.2.2.2.2.1.inn, i64 a0.1.2.2.2.2.1.pl.A, i64 a0.1.2.2.2.2.1.pl.B, i64 a0.1.2.2.2.2.1.pl.C, i64 a0.1.2.2.2.2.1.pl.D, .sl false 6 a0.1.2.2.2.2.1.kids.length ((eSol false).f a0.1.2.2.2.2.1.kids), bl a0.1.2.2.2.2.2.1.inn, i64 a0.1.2.2.2.2.2.1.pl.A, i64 a0.1.2.2.2.2.2.1.pl.B, i64 a0.1.2.2.2.2.2.1.pl.C, i64 a0.1.2.2.2.2.2.1.pl.D, .sl false 6 a0.1.2.2.2.2.2.1.kids.length ((eSol false).f a0.1.2.2.2.2.2.1.kids), bl a0.1.2.2.2.2.2.2.1.inn, i64 a0.1.2.2.2.2.2.2.1.pl.A, i64 a0.1.2.2.2.2.2.2.1.pl.B, i64 a0.1.2.2.2.2.2.2.1.pl.C, i64 a0.1.2.2.2.2.2.2.1.pl.D, .sl false 6 a0.1.2.2.2.2.2.2.1.kids.length ((eSol false).f a0.1.2.2.2.2.2.2.1.kids), bl a0.1.2.2.2.2.2.2.2.inn, i64 a0.1.2.2.2.2.2.2.2.pl.A, i64 a0.1.2.2.2.2.2.2.2.pl.B, i64 a0.1.2.2.2.2.2.2.2.pl.C, i64 a0.1.2.2.2.2.2.2.2.pl.D, .sl false 6 a0.1.2.2.2.2.2.2.2.kids.length ((eSol false).f a0.1.2.2.2.2.2.2.2.kids)]), (7, i64 7)], [(1, ⟨true, 0, (cT54 a0)⟩)]⟩ := by
  unfold Dimpl_DeskOk_9 at h
  obtain ⟨v18, hv18, h⟩ := bind_some h
  refine x_frk 24 [(7, .call [] [] (bl v18) [])] (ocons (Timpl_SolidOk (Y := Y) n a0.1.2.2.2.2.2.2.2 _ hv18) onil) h (by kernel_rfl) (fun h => ?_) (fun h => ?_)
  · replace h := Option.some.inj h; subst h
    exact x_end 18 [] [] onil onil (by kernel_rfl)
  · refine x_frk 6 [] onil h (by kernel_rfl) (fun h => ?_) (fun h => ?_)
    · obtain ⟨v19, hv19, h⟩ := bind_some h
      exact x_to 7 [(2, .call [(false, 6)] [] (bl v19) [])] (ocons (Timpl_SameTree (Y := Y) n a0.1.2.2.2.2.2.2.2 (Sol.mk false (Pl.mk 0 0 0 0) []) _ hv19) onil) (Timpl_DeskOk_7 n a0 (!v19) r h) (by kernel_rfl)
    · exact x_to 15 [] onil (Timpl_DeskOk_8 n a0 r h) (by kernel_rfl)
def Dimpl_DeskOk_5 (n : Nat) (a0 : ((Sol × Sol × Sol × Sol × Sol × Sol × Sol × Sol) × (Bool × Bool × Bool × Bool × Bool × Bool × Bool × Bool))) (t26 : Bool) : Option Bool :=
  frk t26 (some false) ((Dimpl_SolidOk n a0.1.2.2.2.2.2.2.1).bind fun v12 => frk (!v12) (some false) (frk (!a0.2.2.2.2.2.2.2.1) ((Dimpl_SameTree n a0.1.2.2.2.2.2.2.1 (Sol.mk false (Pl.mk 0 0 0 0) [])).bind fun v13 => Dimpl_DeskOk_6 n a0 (!v13)) (Dimpl_DeskOk_9 n a0)))
theorem Timpl_DeskOk_5 {Y} (n : Nat) (a0 : ((Sol × Sol × Sol × Sol × Sol × Sol × Sol × Sol) × (Bool × Bool × Bool × Bool × Bool × Bool × Bool × Bool))) (t26 : Bool) (r : Bool) (h : Dimpl_DeskOk_5 n a0 t26 = some r) : Wk Try.prog H Y 35 [.code (cp [1, 0, 1, 0, 0, 1, 1, 0, 0, 1, 1] (bodyOf Try.f35)), .blk 1, .code (cp [1, 0, 1, 0, 0, 1, 1, 1] (bodyOf Try.f35)), .lp (cp [1, 0, 1, 0] (bodyOf Try.f35)), .blk 0, .code (cp [1, 1] (bodyOf Try.f35))] (FinX Try.prog Try.f35 [] (bl r) []) ⟨[(1, .ptr 1 0), (6, .agg [bl a0.1.1.inn, i64 a0.1.1.pl.A, i64 a0.1.1.pl.B, i64 a0.1.1.pl.C, i64 a0.1.1.pl.D, .sl false 6 a0.1.1.kids.length ((eSol false).f a0.1.1.kids), bl a0.1.2.1.inn, i64 a0.1.2.1.pl.A, i64 a0.1.2.1.pl.B, i64 a0.1.2.1.pl.C, i64 a0.1.2.1.pl.D, .sl false 6 a0.1.2.1.kids.length ((eSol false).f a0.1.2.1.kids), bl a0.1.2.2.1.inn, i64 a0.1.2.2.1.pl.A, i64 a0.1.2.2.1.pl.B, i64 a0.1.2.2.1.pl.C, i64 a0.1.2.2.1.pl.D, .sl false 6 a0.1.2.2.1.kids.length ((eSol false).f a0.1.2.2.1.kids), bl a0.1.2.2.2.1.inn, i64 a0.1.2.2.2.1.pl.A, i64 a0.1.2.2.2.1.pl.B, i64 a0.1.2.2.2.1.pl.C, i64 a0.1.2.2.2.1.pl.D, .sl false 6 a0.1.2.2.2.1.kids.length ((eSol false).f a0.1.2.2.2.1.kids), bl a0.1.2.2.2.2.1.inn, i64 a0.1.2.2.2.2.1.pl.A, i64 a0.1.2.2.2.2.1.pl.B, i64 a0.1.2.2.2.2.1.pl.C, i64 a0.1.2.2.2.2.1.pl.D, .sl false 6 a0.1.2.2.2.2.1.kids.length ((eSol false).f a0.1.2.2.2.2.1.kids), bl a0.1.2.2.2.2.2.1.inn, i64 a0.1.2.2.2.2.2.1.pl.A, i64 a0.1.2.2.2.2.2.1.pl.B, i64 a0.1.2.2.2.2.2.1.pl.C, i64 a0.1.2.2.2.2.2.1.pl.D, .sl false 6 a0.1.2.2.2.2.2.1.kids.length ((eSol false).f a0.1.2.2.2.2.2.1.kids), bl a0.1.2.2.2.2.2.2.1.inn, i64 a0.1.2.2.2.2.2.2.1.pl.A, i64 a0.1.2.2.2.2.2.2.1.pl.B, i64 a0.1.2.2.2.2.2.2.1.pl.C, i64 a0.1.2.2.2.2.2.2.1.pl.D, .sl false 6 a0.1.2.2.2.2.2.2.1.kids.length ((eSol false).f a0.1.2.2.2.2.2.2.1.kids), bl a0.1.2.2.2.2.2.2.2.inn, i64 a0.1.2.2.2.2.2.2.2.pl.A, i64 a0.1.2.2.2.2.2.2.2.pl.B, i64 a0.1.2.2.2.2.2.2.2.pl.C, i64 a0.1.2.2.2.2.2.2.2.pl.D, .sl false 6 a0.1.2.2.2.2.2.2.2.kids.length ((eSol false).f a0.1.2.2.2.2.2.2.2.kids)]), (7, i64 5), (26, bl t26)], [(1, ⟨true, 0, (cT54 a0)⟩)]⟩ := by
  unfold Dimpl_DeskOk_5 at h
  refine x_frk 0 [] onil h (by kernel_rfl) (fun h => ?_) (fun h => ?_)
  · replace h := Option.some.inj h; subst h
    exact x_end 4 [] [] onil onil (by kernel_rfl)
  · obtain ⟨v12, hv12, h⟩ := bind_some h
    refine x_frk 31 [(9, .call [] [] (bl v12) [])] (ocons (Timpl_SolidOk (Y := Y) n a0.1.2.2.2.2.2.2.1 _ hv12) onil) h (by kernel_rfl) (fun h => ?_) (fun h => ?_)
    · replace h := Option.some.inj h; subst h
      exact x_end 18 [] [] onil onil (by kernel_rfl)
    · refine x_frk 6 [] onil h (by kernel_rfl) (fun h => ?_) (fun h => ?_)
      · obtain ⟨v13, hv13, h⟩ := bind_some h
        exact x_to 7 [(2, .call [(false, 6)] [] (bl v13) [])] (ocons (Timpl_SameTree (Y := Y) n a0.1.2.2.2.2.2.2.1 (Sol.mk false (Pl.mk 0 0 0 0) []) _ hv13) onil) (Timpl_DeskOk_6 n a0 (!v13) r h) (by kernel_rfl)
      · exact x_to 15 [] onil (Timpl_DeskOk_9 n a0 r h) (by kernel_rfl)
def Dimpl_DeskOk_10 (n : Nat) (a0 : ((Sol × Sol × Sol × Sol × Sol × Sol × Sol × Sol) × (Bool × Bool × Bool × Bool × Bool × Bool × Bool × Bool))) : Option Bool :=
  (Dimpl_SolidOk n a0.1.2.2.2.2.2.2.1).bind fun v20 => frk (!v20) (some false) (frk (!a0.2.2.2.2.2.2.2.1) ((Dimpl_SameTree n a0.1.2.2.2.2.2.2.1 (Sol.mk false (Pl.mk 0 0 0 0) [])).bind fun v21 => Dimpl_DeskOk_6 n a0 (!v21)) (Dimpl_DeskOk_9 n a0))
theorem Timpl_DeskOk_10 {Y} (n : Nat) (a0 : ((Sol × Sol × Sol × Sol × Sol × Sol × Sol × Sol) × (Bool × Bool × Bool × Bool × Bool × Bool × Bool × Bool))) (r : Bool) (h : Dimpl_DeskOk_10 n a0 = some r) : Wk Try.prog H Y 35 [.code (cp [1, 0, 1, 0] (bodyOf Try.f35)), .blk 0, .code (cp [1, 1] (bodyOf Try.f35))] (FinX Try.prog Try.f35 [] (bl r) []) ⟨[(1, .ptr 1 0), (6, .agg [bl a0.1.1.inn, i64 a0.1.1.pl.A, i64 a0.1.1.pl.B, i64 a0.1.1.pl.C, i64 a0.1.1.pl.D, .sl false 6 a0.1.1.kids.length ((eSol false).f a0.1.1.kids), bl a0.1.2.1.inn, i64 a0.1.2.1.pl.A, i64 a0.1.2.1.pl.B, i64 a0.1.2.1.pl.C, i64 a0.1.2.1.pl.D, .sl false 6 a0.1.2.1.kids.length ((eSol false).f a0.1.2.1.kids), bl a0.1.2.2.1.inn, i64 a0.1.2.2.1.pl.A, i64 a0.1.2.2.1.pl.B, i64 a0.1.2.2.1.pl.C, i64 a0.1.2.2.1.pl.D, .sl false 6 a0.1.2.2.1.kids.length ((eSol false).f a0.1.2.2.1.kids), bl a0.1.2.2.2.1.inn, i64 a0.1.2.2.2.1.pl.A, i64 a0.1.2.2.2.1.pl.B, i64 a0.1.2.2.2.1.pl.C, i64 a0.1.2.2.2.1.pl.D, .sl false 6 a0.1.2.2.2.1.kids.length ((eSol false).f a0.1.2.2.2.1.kids), bl a0.1.2.2.2.2.1.inn, i64 a0.1.2.2.2.2.1.pl.A, i64 a0.1.2.2.2.2.1.pl.B, i64 a0.1.2.2.2.2.1.pl.C, i64 a0.1.2.2.2.2.1.pl.D, .sl false 6 a0.1.2.2.2.2.1.kids.length ((eSol false).f a0.1.2.2.2.2.1.kids), bl a0.1.2.2.2.2.2.1.inn, i64 a0.1.2.2.2.2.2.1.pl.A, i64 a0.1.2.2.2.2.2.1.pl.B, i64 a0.1.2.2.2.2.2.1.pl.C, i64 a0.1.2.2.2.2.2.1.pl.D, .sl false 6 a0.1.2.2.2.2.2.1.kids.length ((eSol false).f a0.1.2.2.2.2.2.1.kids), bl a0.1.2.2.2.2.2.2.1.inn, i64 a0.1.2.2.2.2.2.2.1.pl.A, i64 a0.1.2.2.2.2.2.2.1.pl.B, i64 a0.1.2.2.2.2.2.2.1.pl.C, i64 a0.1.2.2.2.2.2.2.1.pl.D, .sl false 6 a0.1.2.2.2.2.2.2.1.kids.length ((eSol false).f a0.1.2.2.2.2.2.2.1.kids), bl a0.1.2.2.2.2.2.2.2.inn, i64 a0.1.2.2.2.2.2.2.2.pl.A, i64 a0.1.2.2.2.2.2.2.2.pl.B, i64 a0.1.2.2.2.2.2.2.2.pl.C, i64 a0.1.2.2.2.2.2.2.2.pl.D, .sl false 6 a0.1.2.2.2.2.2.2.2.kids.length ((eSol false).f a0.1.2.2.2.2.2.2.2.kids)]), (7, i64 6)], [(1, ⟨true, 0, (cT54 a0)⟩)]⟩ := by
  unfold Dimpl_DeskOk_10 at h
  obtain ⟨v20, hv20, h⟩ := bind_some h
  refine x_frk 24 [(7, .call [] [] (bl v20) [])] (ocons (Timpl_SolidOk (Y := Y) n a0.1.2.2.2.2.2.2.1 _ hv20) onil) h (by kernel_rfl) (fun h => ?_) (fun h => ?_)
  · replace h := Option.some.inj h; subst h
    exact x_end 18 [] [] onil onil (by kernel_rfl)
  · refine x_frk 6 [] onil h (by kernel_rfl) (fun h => ?_) (fun h => ?_)
    · obtain ⟨v21, hv21, h⟩ := bind_some h
      exact x_to 7 [(2, .call [(false, 6)] [] (bl v21) [])] (ocons (Timpl_SameTree (Y := Y) n a0.1.2.2.2.2.2.2.1 (Sol.mk false (Pl.mk 0 0 0 0) []) _ hv21) onil) (Timpl_DeskOk_6 n a0 (!v21) r h) (by kernel_rfl)
    · exact x_to 15 [] onil (Timpl_DeskOk_9 n a0 r h) (by kernel_rfl)
def Dimpl_DeskOk_4 (n : Nat) (a0 : ((Sol × Sol × Sol × Sol × Sol × Sol × Sol × Sol) × (Bool × Bool × Bool × Bool × Bool × Bool × Bool × Bool))) (t26 : Bool) : Option Bool :=
  frk t26 (some false) ((Dimpl_SolidOk n a0.1.2.2.2.2.2.1).bind fun v10 => frk (!v10) (some false) (frk (!a0.2.2.2.2.2.2.1) ((Dimpl_SameTree n a0.1.2.2.2.2.2.1 (Sol.mk false (Pl.mk 0 0 0 0) [])).bind fun v11 => Dimpl_DeskOk_5 n a0 (!v11)) (Dimpl_DeskOk_10 n a0)))
theorem Timpl_DeskOk_4 {Y} (n : Nat) (a0 : ((Sol × Sol × Sol × Sol × Sol × Sol × Sol × Sol) × (Bool × Bool × Bool × Bool × Bool × Bool × Bool × Bool))) (t26 : Bool) (r : Bool) (h : Dimpl_DeskOk_4 n a0 t26 = some r) : Wk Try.prog H Y 35 [.code (cp [1, 0, 1, 0, 0, 1, 1, 0, 0, 1, 1] (bodyOf Try.f35)), .blk 1, .code (cp [1, 0, 1, 0, 0, 1, 1, 1] (bodyOf Try.f35)), .lp (cp [1, 0, 1, 0] (bodyOf Try.f35)), .blk 0, .code (cp [1, 1] (bodyOf Try.f35))] (FinX Try.prog Try.f35 [] (bl r) []) ⟨[(1, .ptr 1 0), (6, .agg [bl a0.1.1.inn, i64 a0.1.1.pl.A, i64 a0.1.1.pl.B, i64 a0.1.1.pl.C, i64 a0.1.1.pl.D, .sl false 6 a0.1.1.kids.length ((eSol false).f a0.1.1.kids), bl a0.1.2.1.inn, i64 a0.1.2.1.pl.A, i64 a0.1.2.1.pl.B, i64 a0.1.2.1.pl.C, i64 a0.1.2.1.pl.D, .sl false 6 a0.1.2.1.kids.length ((eSol false).f a0.1.2.1.kids), bl a0.1.2.2.1.inn, i64 a0.1.2.2.1.pl.A, i64 a0.1.2.2.1.pl.B, i64 a0.1.2.2.1.pl.C, i64 a0.1.2.2.1.pl.D, .sl false 6 a0.1.2.2.1.kids.length ((eSol false).f a0.1.2.2.1.kids), bl a0.1.2.2.2.1.inn, i64 a0.1.2.2.2.1.pl.A, i64 a0.1.2.2.2.1.pl.B, i64 a0.1.2.2.2.1.pl.C, i64 a0.1.2.2.2.1.pl.D, .sl false 6 a0.1.2.2.2.1.kids.length ((eSol false).f a0.1.2.2.2.1.kids), bl a0.1.2.2.2.2.1.inn, i64 a0.1.2.2.2.2.1.pl.A, i64 a0.1.2.2.2.2.1.pl.B, i64 a0.1.2.2.2.2.1.pl.C, i64 a0.1.2.2.2.2.1.pl.D, .sl false 6 a0.1.2.2.2.2.1.kids.length ((eSol false).f a0.1.2.2.2.2.1.kids), bl a0.1.2.2.2.2.2.1.inn, i64 a0.1.2.2.2.2.2.1.pl.A, i64 a0.1.2.2.2.2.2.1.pl.B, i64 a0.1.2.2.2.2.2.1.pl.C, i64 a0.1.2.2.2.2.2.1.pl.D, .sl false 6 a0.1.2.2.2.2.2.1.kids.length ((eSol false).f a0.1.2.2.2.2.2.1.kids), bl a0.1.2.2.2.2.2.2.1.inn, i64 a0.1.2.2.2.2.2.2.1.pl.A, i64 a0.1.2.2.2.2.2.2.1.pl.B, i64 a0.1.2.2.2.2.2.2.1.pl.C, i64 a0.1.2.2.2.2.2.2.1.pl.D, .sl false 6 a0.1.2.2.2.2.2.2.1.kids.length ((eSol false).f a0.1.2.2.2.2.2.2.1.kids), bl a0.1.2.2.2.2.2.2.2.inn, i64 a0.1.2.2.2.2.2.2.2.pl.A, i64 a0.1.2.2.2.2.2.2.2.pl.B, i64 a0.1.2.2.2.2.2.2.2.pl.C, i64 a0.1.2.2.2.2.2.2.2.pl.D, .sl false 6 a0.1.2.2.2.2.2.2.2.kids.length ((eSol false).f a0.1.2.2.2.2.2.2.2.kids)]), (7, i64 4), (26, bl t26)], [(1, ⟨true, 0, (cT54 a0)⟩)]⟩ := by
  unfold Dimpl_DeskOk_4 at h
  refine x_frk 0 [] onil h (by kernel_rfl) (fun h => ?_) (fun h => ?_)
  · replace h := Option.some.inj h; subst h
    exact x_end 4 [] [] onil onil (by kernel_rfl)
  · obtain ⟨v10, hv10, h⟩ := bind_some h
    refine x_frk 31 [(9, .call [] [] (bl v10) [])] (ocons (Timpl_SolidOk (Y := Y) n a0.1.2.2.2.2.2.1 _ hv10) onil) h (by kernel_rfl) (fun h => ?_) (fun h => ?_)
    · replace h := Option.some.inj h; subst h
      exact x_end 18 [] [] onil onil (by kernel_rfl)
    · refine x_frk 6 [] onil h (by kernel_rfl) (fun h => ?_) (fun h => ?_)
      · obtain ⟨v11, hv11, h⟩ := bind_some h
        exact x_to 7 [(2, .call [(false, 6)] [] (bl v11) [])] (ocons (Timpl_SameTree (Y := Y) n a0.1.2.2.2.2.2.1 (Sol.mk false (Pl.mk 0 0 0 0) []) _ hv11) onil) (Timpl_DeskOk_5 n a0 (!v11) r h) (by kernel_rfl)
      · exact x_to 15 [] onil (Timpl_DeskOk_10 n a0 r h) (by kernel_rfl)
def Dimpl_DeskOk_11 (n : Nat) (a0 : ((Sol × Sol × Sol × Sol × Sol × Sol × Sol × Sol) × (Bool × Bool × Bool × Bool × Bool × Bool × Bool × Bool))) : Option Bool :=
  (Dimpl_SolidOk n a0.1.2.2.2.2.2.1).bind fun v22 => frk (!v22) (some false) (frk (!a0.2.2.2.2.2.2.1) ((Dimpl_SameTree n a0.1.2.2.2.2.2.1 (Sol.mk false (Pl.mk 0 0 0 0) [])).bind fun v23 => Dimpl_DeskOk_5 n a0 (!v23)) (Dimpl_DeskOk_10 n a0))
theorem Timpl_DeskOk_11 {Y} (n : Nat) (a0 : ((Sol × Sol × Sol × Sol × Sol × Sol × Sol × Sol) × (Bool × Bool × Bool × Bool × Bool × Bool × Bool × Bool))) (r : Bool) (h : Dimpl_DeskOk_11 n a0 = some r) : Wk Try.prog H Y 35 [.code (cp [1, 0, 1, 0] (bodyOf Try.f35)), .blk 0, .code (cp [1, 1] (bodyOf Try.f35))] (FinX Try.prog Try.f35 [] (bl r) []) ⟨[(1, .ptr 1 0), (6, .agg [bl a0.1.1.inn, i64 a0.1.1.pl.A, i64 a0.1.1.pl.B, i64 a0.1.1.pl.C, i64 a0.1.1.pl.D, .sl false 6 a0.1.1.kids.length ((eSol false).f a0.1.1.kids), bl a0.1.2.1.inn, i64 a0.1.2.1.pl.A, i64 a0.1.2.1.pl.B, i64 a0.1.2.1.pl.C, i64 a0.1.2.1.pl.D, .sl false 6 a0.1.2.1.kids.length ((eSol false).f a0.1.2.1.kids), bl a0.1.2.2.1.inn, i64 a0.1.2.2.1.pl.A, i64 a0.1.2.2.1.pl.B, i64 a0.1.2.2.1.pl.C, i64 a0.1.2.2.1.pl.D, .sl false 6 a0.1.2.2.1.kids.length ((eSol false).f a0.1.2.2.1.kids), bl a0.1.2.2.2.1.inn, i64 a0.1.2.2.2.1.pl.A, i64 a0.1.2.2.2.1.pl.B, i64 a0.1.2.2.2.1.pl.C, i64 a0.1.2.2.2.1.pl.D, .sl false 6 a0.1.2.2.2.1.kids.length ((eSol false).f a0.1.2.2.2.1.kids), bl a0.1.2.2.2.2.1.inn, i64 a0.1.2.2.2.2.1.pl.A, i64 a0.1.2.2.2.2.1.pl.B, i64 a0.1.2.2.2.2.1.pl.C, i64 a0.1.2.2.2.2.1.pl.D, .sl false 6 a0.1.2.2.2.2.1.kids.length ((eSol false).f a0.1.2.2.2.2.1.kids), bl a0.1.2.2.2.2.2.1.inn, i64 a0.1.2.2.2.2.2.1.pl.A, i64 a0.1.2.2.2.2.2.1.pl.B, i64 a0.1.2.2.2.2.2.1.pl.C, i64 a0.1.2.2.2.2.2.1.pl.D, .sl false 6 a0.1.2.2.2.2.2.1.kids.length ((eSol false).f a0.1.2.2.2.2.2.1.kids), bl a0.1.2.2.2.2.2.2.1.inn, i64 a0.1.2.2.2.2.2.2.1.pl.A, i64 a0.1.2.2.2.2.2.2.1.pl.B, i64 a0.1.2.2.2.2.2.2.1.pl.C, i64 a0.1.2.2.2.2.2.2.1.pl.D, .sl false 6 a0.1.2.2.2.2.2.2.1.kids.length ((eSol false).f a0.1.2.2.2.2.2.2.1.kids), bl a0.1.2.2.2.2.2.2.2.inn, i64 a0.1.2.2.2.2.2.2.2.pl.A, i64 a0.1.2.2.2.2.2.2.2.pl.B, i64 a0.1.2.2.2.2.2.2.2.pl.C, i64 a0.1.2.2.2.2.2.2.2.pl.D, .sl false 6 a0.1.2.2.2.2.2.2.2.kids.length ((eSol false).f a0.1.2.2.2.2.2.2.2.kids)]), (7, i64 5)], [(1, ⟨true, 0, (cT54 a0)⟩)]⟩ := by
  unfold Dimpl_DeskOk_11 at h
  obtain ⟨v22, hv22, h⟩ := bind_some h
  refine x_frk 24 [(7, .call [] [] (bl v22) [])] (ocons (Timpl_SolidOk (Y := Y) n a0.1.2.2.2.2.2.1 _ hv22) onil) h (by kernel_rfl) (fun h => ?_) (fun h => ?_)
  · replace h := Option.some.inj h; subst h
    exact x_end 18 [] [] onil onil (by kernel_rfl)
  · refine x_frk 6 [] onil h (by kernel_rfl) (fun h => ?_) (fun h => ?_)
    · obtain ⟨v23, hv23, h⟩ := bind_some h
      exact x_to 7 [(2, .call [(false, 6)] [] (bl v23) [])] (ocons (Timpl_SameTree (Y := Y) n a0.1.2.2.2.2.2.1 (Sol.mk false (Pl.mk 0 0 0 0) []) _ hv23) onil) (Timpl_DeskOk_5 n a0 (!v23) r h) (by kernel_rfl)
    · exact x_to 15 [] onil (Timpl_DeskOk_10 n a0 r h) (by kernel_rfl)
def Dimpl_DeskOk_3 (n : Nat) (a0 : ((Sol × Sol × Sol × Sol × Sol × Sol × Sol × Sol) × (Bool × Bool × Bool × Bool × Bool × Bool × Bool × Bool))) (t26 : Bool) : Option Bool :=
  frk t26 (some false) ((Dimpl_SolidOk n a0.1.2.2.2.2.1).bind fun v8 => frk (!v8) (some false) (frk (!a0.2.2.2.2.2.1) ((Dimpl_SameTree n a0.1.2.2.2.2.1 (Sol.mk false (Pl.mk 0 0 0 0) [])).bind fun v9 => Dimpl_DeskOk_4 n a0 (!v9)) (Dimpl_DeskOk_11 n a0)))
theorem Timpl_DeskOk_3 {Y} (n : Nat) (a0 : ((Sol × Sol × Sol × Sol × Sol × Sol × Sol × Sol) × (Bool × Bool × Bool × Bool × Bool × Bool × Bool × Bool))) (t26 : Bool) (r : Bool) (h : Dimpl_DeskOk_3 n a0 t26 = some r) : Wk Try.prog H Y 35 [.code (cp [1, 0, 1, 0, 0, 1, 1, 0, 0, 1, 1] (bodyOf Try.f35)), .blk 1, .code (cp [1, 0, 1, 0, 0, 1, 1, 1] (bodyOf Try.f35)), .lp (cp [1, 0, 1, 0] (bodyOf Try.f35)), .blk 0, .code (cp [1, 1] (bodyOf Try.f35))] (FinX Try.prog Try.f35 [] (bl r) []) ⟨[(1, .ptr 1 0), (6, .agg [bl a0.1.1.inn, i64 a0.1.1.pl.A, i64 a0.1.1.pl.B, i64 a0.1.1.pl.C, i64 a0.1.1.pl.D, .sl false 6 a0.1.1.kids.length ((eSol false).f a0.1.1.kids), bl a0.1.2.1.inn, i64 a0.1.2.1.pl.A, i64 a0.1.2.1.pl.B, i64 a0.1.2.1.pl.C, i64 a0.1.2.1.pl.D, .sl false 6 a0.1.2.1.kids.length ((eSol false).f a0.1.2.1.kids), bl a0.1.2.2.1.inn, i64 a0.1.2.2.1.pl.A, i64 a0.1.2.2.1.pl.B, i64 a0.1.2.2.1.pl.C, i64 a0.1.2.2.1.pl.D, .sl false 6 a0.1.2.2.1.kids.length ((eSol false).f a0.1.2.2.1.kids), bl a0.1.2.2.2.1.inn, i64 a0.1.2.2.2.1.pl.A, i64 a0.1.2.2.2.1.pl.B, i64 a0.1.2.2.2.1.pl.C, i64 a0.1.2.2.2.1.pl.D, .sl false 6 a0.1.2.2.2.1.kids.length ((eSol false).f a0.1.2.2.2.1.kids), bl a0.1.2.2.2.2.1.inn, i64 a0.1.2.2.2.2.1.pl.A, i64 a0.1.2.2.2.2.1.pl.B, i64 a0.1.2.2.2.2.1.pl.C, i64 a0.1.2.2.2.2.1.pl.D, .sl false 6 a0.1.2.2.2.2.1.kids.length ((eSol false).f a0.1.2.2.2.2.1.kids), bl a0.1.2.2.2.2.2.1.inn, i64 a0.1.2.2.2.2.2.1.pl.A, i64 a0.1.2.2.2.2.2.1.pl.B, i64 a0.1.2.2.2.2.2.1.pl.C, i64 a0.1.2.2.2.2.2.1.pl.D, .sl false 6 a0.1.2.2.2.2.2.1.kids.length ((eSol false).f a0.1.2.2.2.2.2.1.kids), bl a0.1.2.2.2.2.2.2.1.inn, i64 a0.1.2.2.2.2.2.2.1.pl.A, i64 a0.1.2.2.2.2.2.2.1.pl.B, i64 a0.1.2.2.2.2.2.2.1.pl.C, i64 a0.1.2.2.2.2.2.2.1.pl.D, .sl false 6 a0.1.2.2.2.2.2.2.1.kids.length ((eSol false).f a0.1.2.2.2.2.2.2.1.kids), bl a0.1.2.2.2.2.2.2.2.inn, i64 a0.1.2.2.2.2.2.2.2.pl.A, i64 a0.1.2.2.2.2.2.2.2.pl.B, i64 a0.1.2.2.2.2.2.2.2.pl.C, i64 a0.1.2.2.2.2.2.2.2.pl.D, .sl false 6 a0.1.2.2.2.2.2.2.2.kids.length ((eSol false).f a0.1.2.2.2.2.2.2.2.kids)]), (7, i64 3), (26, bl t26)], [(1, ⟨true, 0, (cT54 a0)⟩)]⟩ := by
  unfold Dimpl_DeskOk_3 at h
  refine x_frk 0 [] onil h (by kernel_rfl) (fun h => ?_) (fun h => ?_)
  · replace h := Option.some.inj h; subst h
    exact x_end 4 [] [] onil onil (by kernel_rfl)
  · obtain ⟨v8, hv8, h⟩ := bind_some h
    refine x_frk 31 [(9, .call [] [] (bl v8) [])] (ocons (Timpl_SolidOk (Y := Y) n a0.1.2.2.2.2.1 _ hv8) onil) h (by kernel_rfl) (fun h => ?_) (fun h => ?_)
    · replace h := Option.some.inj h; subst h
      exact x_end 18 [] [] onil onil (by kernel_rfl)
    · refine x_frk 6 [] onil h (by kernel_rfl) (fun h => ?_) (fun h => ?_)
      · obtain ⟨v9, hv9, h⟩ := bind_some h
        exact x_to 7 [(2, .call [(false, 6)] [] (bl v9) [])] (ocons (Timpl_SameTree (Y := Y) n a0.1.2.2.2.2.1 (Sol.mk false (Pl.mk 0 0 0 0) []) _ hv9) onil) (Timpl_DeskOk_4 n a0 (!v9) r h) (by kernel_rfl)
      · exact x_to 15 [] onil (Timpl_DeskOk_11 n a0 r h) (by kernel_rfl)
def Dimpl_DeskOk_12 (n : Nat) (a0 : ((Sol × Sol × Sol × Sol × Sol × Sol × Sol × Sol) × (Bool × Bool × Bool × Bool × Bool × Bool × Bool × Bool))) : Option Bool :=
  (Dimpl_SolidOk n a0.1.2.2.2.2.1).bind fun v24 => frk (!v24) (some false) (frk (!a0.2.2.2.2.2.1) ((Dimpl_SameTree n a0.1.2.2.2.2.1 (Sol.mk false (Pl.mk 0 0 0 0) [])).bind fun v25 => Dimpl_DeskOk_4 n a0 (!v25)) (Dimpl_DeskOk_11 n a0))
theorem Timpl_DeskOk_12 {Y} (n : Nat) (a0 : ((Sol × Sol × Sol × Sol × Sol × Sol × Sol × Sol) × (Bool × Bool × Bool × Bool × Bool × Bool × Bool × Bool))) (r : Bool) (h : Dimpl_DeskOk_12 n a0 = some r) : Wk Try.prog H Y 35 [.code (cp [1, 0, 1, 0] (bodyOf Try.f35)), .blk 0, .code (cp [1, 1] (bodyOf Try.f35))] (FinX Try.prog Try.f35 [] (bl r) []) ⟨[(1, .ptr 1 0), (6, .agg [bl a0.1.1.inn, i64 a0.1.1.pl.A, i64 a0.1.1.pl.B, i64 a0.1.1.pl.C, i64 a0.1.1.pl.D, .sl false 6 a0.1.1.kids.length ((eSol false).f a0.1.1.kids), bl a0.1.2.1.inn, i64 a0.1.2.1.pl.A, i64 a0.1.2.1.pl.B, i64 a0.1.2.1.pl.C, i64 a0.1.2.1.pl.D, .sl false 6 a0.1.2.1.kids.length ((eSol false).f a0.1.2.1.kids), bl a0.1.2.2.1.inn, i64 a0.1.2.2.1.pl.A, i64 a0.1.2.2.1.pl.B, i64 a0.1.2.2.1.pl.C, i64 a0.1.2.2.1.pl.D, .sl false 6 a0.1.2.2.1.kids.length ((eSol false).f a0.1.2.2.1.kids), bl a0.1.2.2.2.1.inn, i64 a0.1.2.2.2.1.pl.A, i64 a0.1.2.2.2.1.pl.B, i64 a0.1.2.2.2.1.pl.C, i64 a0.1.2.2.2.1.pl.D, .sl false 6 a0.1.2.2.2.1.kids.length ((eSol false).f a0.1.2.2.2.1.kids), bl a0.1.2.2.2.2.1.inn, i64 a0.1.2.2.2.2.1.pl.A, i64 a0.1.2.2.2.2.1.pl.B, i64 a0.1.2.2.2.2.1.pl.C, i64 a0.1.2.2.2.2.1.pl.D, .sl false 6 a0.1.2.2.2.2.1.kids.length ((eSol false).f a0.1.2.2.2.2.1.kids), bl a0.1.2.2.2.2.2.1.inn, i64 a0.1.2.2.2.2.2.1.pl.A, i64 a0.1.2.2.2.2.2.1.pl.B, i64 a0.1.2.2.2.2.2.1.pl.C, i64 a0.1.2.2.2.2.2.1.pl.D, .sl false 6 a0.1.2.2.2.2.2.1.kids.length ((eSol false).f a0.1.2.2.2.2.2.1.kids), bl a0.1.2.2.2.2.2.2.1.inn, i64 a0.1.2.2.2.2.2.2.1.pl.A, i64 a0.1.2.2.2.2.2.2.1.pl.B, i64 a0.1.2.2.2.2.2.2.1.pl.C, i64 a0.1.2.2.2.2.2.2.1.pl.D, .sl false 6 a0.1.2.2.2.2.2.2.1.kids.length ((eSol false).f a0.1.2.2.2.2.2.2.1.kids), bl a0.1.2.2.2.2.2.2.2.inn, i64 a0.1.2.2.2.2.2.2.2.pl.A, i64 a0.1.2.2.2.2.2.2.2.pl.B, i64 a0.1.2.2.2.2.2.2.2.pl.C, i64 a0.1.2.2.2.2.2.2.2.pl.D, .sl false 6 a0.1.2.2.2.2.2.2.2.kids.length ((eSol false).f a0.1.2.2.2.2.2.2.2.kids)]), (7, i64 4)], [(1, ⟨true, 0, (cT54 a0)⟩)]⟩ := by
  unfold Dimpl_DeskOk_12 at h
  obtain ⟨v24, hv24, h⟩ := bind_some h
  refine x_frk 24 [(7, .call [] [] (bl v24) [])] (ocons (Timpl_SolidOk (Y := Y) n a0.1.2.2.2.2.1 _ hv24) onil) h (by kernel_rfl) (fun h => ?_) (fun h => ?_)
  · replace h := Option.some.inj h; subst h
    exact x_end 18 [] [] onil onil (by kernel_rfl)
  · refine x_frk 6 [] onil h (by kernel_rfl) (fun h => ?_) (fun h => ?_)
    · obtain ⟨v25, hv25, h⟩ := bind_some h
      exact x_to 7 [(2, .call [(false, 6)] [] (bl v25) [])] (ocons (Timpl_SameTree (Y := Y) n a0.1.2.2.2.2.1 (Sol.mk false (Pl.mk 0 0 0 0) []) _ hv25) onil) (Timpl_DeskOk_4 n a0 (!v25) r h) (by kernel_rfl)
    · exact x_to 15 [] onil (Timpl_DeskOk_11 n a0 r h) (by kernel_rfl)
def Dimpl_DeskOk_2 (n : Nat) (a0 : ((Sol × Sol × Sol × Sol × Sol × Sol × Sol × Sol) × (Bool × Bool × Bool × Bool × Bool × Bool × Bool × Bool))) (t26 : Bool) : Option Bool :=
  frk t26 (some false) ((Dimpl_SolidOk n a0.1.2.2.2.1).bind fun v6 => frk (!v6) (some false) (frk (!a0.2.2.2.2.1) ((Dimpl_SameTree n a0.1.2.2.2.1 (Sol.mk false (Pl.mk 0 0 0 0) [])).bind fun v7 => Dimpl_DeskOk_3 n a0 (!v7)) (Dimpl_DeskOk_12 n a0)))
theorem Timpl_DeskOk_2 {Y} (n : Nat) (a0 : ((Sol × Sol × Sol × Sol × Sol × Sol × Sol × Sol) × (Bool × Bool × Bool × Bool × Bool × Bool × Bool × Bool))) (t26 : Bool) (r : Bool) (h : Dimpl_DeskOk_2 n a0 t26 = some r) : Wk Try.prog H Y 35 [.code (cp [1, 0, 1, 0, 0, 1, 1, 0, 0, 1, 1] (bodyOf Try.f35)), .blk 1, .code (cp [1, 0, 1, 0, 0, 1, 1, 1] (bodyOf Try.f35)), .lp (cp [1, 0, 1, 0] (bodyOf Try.f35)), .blk 0, .code (cp [1, 1] (bodyOf Try.f35))] (FinX Try.prog Try.f35 [] (bl r) []) ⟨[(1, .ptr 1 0), (6, .agg [bl a0.1.1.inn, i64 a0.1.1.pl.A, i64 a0.1.1.pl.B, i64 a0.1.1.pl.C, i64 a0.1.1.pl.D, .sl false 6 a0.1.1.kids.length ((eSol false).f a0.1.1.kids), bl a0.1.2.1.inn, i64 a0.1.2.1.pl.A, i64 a0.1.2.1.pl.B, i64 a0.1.2.1.pl.C, i64 a0.1.2.1.pl.D, .sl false 6 a0.1.2.1.kids.length ((eSol false).f a0.1.2.1.kids), bl a0.1.2.2.1.inn, i64 a0.1.2.2.1.pl.A, i64 a0.1.2.2.1.pl.B, i64 a0.1.2.2.1.pl.C, i64 a0.1.2.2.1.pl.D, .sl false 6 a0.1.2.2.1.kids.length ((eSol false).f a0.1.2.2.1.kids), bl a0.1.2.2.2.1.inn, i64 a0.1.2.2.2.1.pl.A, i64 a0.1.2.2.2.1.pl.B, i64 a0.1.2.2.2.1.pl.C, i64 a0.1.2.2.2.1.pl.D, .sl false 6 a0.1.2.2.2.1.kids.length ((eSol false).f a0.1.2.2.2.1.kids), bl a0.1.2.2.2.2.1.inn, i64 a0.1.2.2.2.2.1.pl.A, i64 a0.1.2.2.2.2.1.pl.B, i64 a0.1.2.2.2.2.1.pl.C, i64 a0.1.2.2.2.2.1.pl.D, .sl false 6 a0.1.2.2.2.2.1.kids.length ((eSol false).f a0.1.2.2.2.2.1.kids), bl a0.1.2.2.2.2.2.1.inn, i64 a0.1.2.2.2.2.2.1.pl.A, i64 a0.1.2.2.2.2.2.1.pl.B, i64 a0.1.2.2.2.2.2.1.pl.C, i64 a0.1.2.2.2.2.2.1.pl.D, .sl false 6 a0.1.2.2.2.2.2.1.kids.length ((eSol false).f a0.1.2.2.2.2.2.1.kids), bl a0.1.2.2.2.2.2.2.1.inn, i64 a0.1.2.2.2.2.2.2.1.pl.A, i64 a0.1.2.2.2.2.2.2.1.pl.B, i64 a0.1.2.2.2.2.2.2.1.pl.C, i64 a0.1.2.2.2.2.2.2.1.pl.D, .sl false 6 a0.1.2.2.2.2.2.2.1.kids.length ((eSol false).f a0.1.2.2.2.2.2.2.1.kids), bl a0.1.2.2.2.2.2.2.2.inn, i64 a0.1.2.2.2.2.2.2.2.pl.A, i64 a0.1.2.2.2.2.2.2.2.pl.B, i64 a0.1.2.2.2.2.2.2.2.pl.C, i64 a0.1.2.2.2.2.2.2.2.pl.D, .sl false 6 a0.1.2.2.2.2.2.2.2.kids.length ((eSol false).f a0.1.2.2.2.2.2.2.2.kids)]), (7, i64 2), (26, bl t26)], [(1, ⟨true, 0, (cT54 a0)⟩)]⟩ := by
  unfold Dimpl_DeskOk_2 at h
  refine x_frk 0 [] onil h (by kernel_rfl) (fun h => ?_) (fun h => ?_)
  · replace h := Option.some.inj h; subst h
    exact x_end 4 [] [] onil onil (by kernel_rfl)
  · obtain ⟨v6, hv6, h⟩ := bind_some h
    refine x_frk 31 [(9, .call [] [] (bl v6) [])] (ocons (Timpl_SolidOk (Y := Y) n a0.1.2.2.2.1 _ hv6) onil) h (by kernel_rfl) (fun h => ?_) (fun h => ?_)
    · replace h := Option.some.inj h; subst h
      exact x_end 18 [] [] onil onil (by kernel_rfl)
    · refine x_frk 6 [] onil h (by kernel_rfl) (fun h => ?_) (fun h => ?_)
      · obtain ⟨v7, hv7, h⟩ := bind_some h
        exact x_to 7 [(2, .call [(false, 6)] [] (bl v7) [])] (ocons (Timpl_SameTree (Y := Y) n a0.1.2.2.2.1 (Sol.mk false (Pl.mk 0 0 0 0) []) _ hv7) onil) (Timpl_DeskOk_3 n a0 (!v7) r h) (by kernel_rfl)
      · exact x_to 15 [] onil (Timpl_DeskOk_12 n a0 r h) (by kernel_rfl)
def Dimpl_DeskOk_13 (n : Nat) (a0 : ((Sol × Sol × Sol × Sol × Sol × Sol × Sol × Sol) × (Bool × Bool × Bool × Bool × Bool × Bool × Bool × Bool))) : Option Bool :=
  (Dimpl_SolidOk n a0.1.2.2.2.1).bind fun v26 => frk (!v26) (some false) (frk (!a0.2.2.2.2.1) ((Dimpl_SameTree n a0.1.2.2.2.1 (Sol.mk false (Pl.mk 0 0 0 0) [])).bind fun v27 => Dimpl_DeskOk_3 n a0 (!v27)) (Dimpl_DeskOk_12 n a0))
theorem Timpl_DeskOk_13 {Y} (n : Nat) (a0 : ((Sol × Sol × Sol × Sol × Sol × Sol × Sol × Sol) × (Bool × Bool × Bool × Bool × Bool × Bool × Bool × Bool))) (r : Bool) (h : Dimpl_DeskOk_13 n a0 = some r) : Wk Try.prog H Y 35 [.code (cp [1, 0, 1, 0] (bodyOf Try.f35)), .blk 0, .code (cp [1, 1] (bodyOf Try.f35))] (FinX Try.prog Try.f35 [] (bl r) []) ⟨[(1, .ptr 1 0), (6, .agg [bl a0.1.1.inn, i64 a0.1.1.pl.A, i64 a0.1.1.pl.B, i64 a0.1.1.pl.C, i64 a0.1.1.pl.D, .sl false 6 a0.1.1.kids.length ((eSol false).f a0.1.1.kids), bl a0.1.2.1.inn, i64 a0.1.2.1.pl.A, i64 a0.1.2.1.pl.B, i64 a0.1.2.1.pl.C, i64 a0.1.2.1.pl.D, .sl false 6 a0.1.2.1.kids.length ((eSol false).f a0.1.2.1.kids), bl a0.1.2.2.1.inn, i64 a0.1.2.2.1.pl.A, i64 a0.1.2.2.1.pl.B, i64 a0.1.2.2.1.pl.C, i64 a0.1.2.2.1.pl.D, .sl false 6 a0.1.2.2.1.kids.length ((eSol false).f a0.1.2.2.1.kids), bl a0.1.2.2.2.1.inn, i64 a0.1.2.2.2.1.pl.A, i64 a0.1.2.2.2.1.pl.B, i64 a0.1.2.2.2.1.pl.C, i64 a0.1.2.2.2.1.pl.D, .sl false 6 a0.1.2.2.2.1.kids.length ((eSol false).f a0.1.2.2.2.1.kids), bl a0.1.2.2.2.2.1.inn, i64 a0.1.2.2.2.2.1.pl.A, i64 a0.1.2.2.2.2.1.pl.B, i64 a0.1.2.2.2.2.1.pl.C, i64 a0.1.2.2.2.2.1.pl.D, .sl false 6 a0.1.2.2.2.2.1.kids.length ((eSol false).f a0.1.2.2.2.2.1.kids), bl a0.1.2.2.2.2.2.1.inn, i64 a0.1.2.2.2.2.2.1.pl.A, i64 a0.1.2.2.2.2.2.1.pl.B, i64 a0.1.2.2.2.2.2.1.pl.C, i64 a0.1.2.2.2.2.2.1.pl.D, .sl false 6 a0.1.2.2.2.2.2.1.kids.length ((eSol false).f a0.1.2.2.2.2.2.1.kids), bl a0.1.2.2.2.2.2.2.1.inn, i64 a0.1.2.2.2.2.2.2.1.pl.A, i64 a0.1.2.2.2.2.2.2.1.pl.B, i64 a0.1.2.2.2.2.2.2.1.pl.C, i64 a0.1.2.2.2.2.2.2.1.pl.D, .sl false 6 a0.1.2.2.2.2.2.2.1.kids.length ((eSol false).f a0.1.2.2.2.2.2.2.1.kids), bl a0.1.2.2.2.2.2.2.2.inn, i64 a0.1.2.2.2.2.2.2.2.pl.A, i64 a0.1.2.2.2.2.2.2.2.pl.B, i64 a0.1.2.2.2.2.2.2.2.pl.C, i64 a0.1.2.2.2.2.2.2.2.pl.D, .sl false 6 a0.1.2.2.2.2.2.2.2.kids.length ((eSol false).f a0.1.2.2.2.2.2.2.2.kids)]), (7, i64 3)], [(1, ⟨true, 0, (cT54 a0)⟩)]⟩ := by
  unfold Dimpl_DeskOk_13 at h
  obtain ⟨v26, hv26, h⟩ := bind_some h
  refine x_frk 24 [(7, .call [] [] (bl v26) [])] (ocons (Timpl_SolidOk (Y := Y) n a0.1.2.2.2.1 _ hv26) onil) h (by kernel_rfl) (fun h => ?_) (fun h => ?_)
  · replace h := Option.some.inj h; subst h
    exact x_end 18 [] [] onil onil (by kernel_rfl)
  · refine x_frk 6 [] onil h (by kernel_rfl) (fun h => ?_) (fun h => ?_)
    · obtain ⟨v27, hv27, h⟩ := bind_some h
      exact x_to 7 [(2, .call [(false, 6)] [] (bl v27) [])] (ocons (Timpl_SameTree (Y := Y) n a0.1.2.2.2.1 (Sol.mk false (Pl.mk 0 0 0 0) []) _ hv27) onil) (Timpl_DeskOk_3 n a0 (!v27) r h) (by kernel_rfl)
    · exact x_to 15 [] onil (Timpl_DeskOk_12 n a0 r h) (by kernel_rfl)
def Dimpl_DeskOk_1 (n : Nat) (a0 : ((Sol × Sol × Sol × Sol × Sol × Sol × Sol × Sol) × (Bool × Bool × Bool × Bool × Bool × Bool × Bool × Bool))) (t26 : Bool) : Option Bool :=
  frk t26 (some false) ((Dimpl_SolidOk n a0.1.2.2.1).bind fun v4 => frk (!v4) (some false) (frk (!a0.2.2.2.1) ((Dimpl_SameTree n a0.1.2.2.1 (Sol.mk false (Pl.mk 0 0 0 0) [])).bind fun v5 => Dimpl_DeskOk_2 n a0 (!v5)) (Dimpl_DeskOk_13 n a0)))
theorem Timpl_DeskOk_1 {Y} (n : Nat) (a0 : ((Sol × Sol × Sol × Sol × Sol × Sol × Sol × Sol) × (Bool × Bool × Bool × Bool × Bool × Bool × Bool × Bool))) (t26 : Bool) (r : Bool) (h : Dimpl_DeskOk_1 n a0 t26 = some r) : Wk Try.prog H Y 35 [.code (cp [1, 0, 1, 0, 0, 1, 1, 0, 0, 1, 1] (bodyOf Try.f35)), .blk 1, .code (cp [1, 0, 1, 0, 0, 1, 1, 1] (bodyOf Try.f35)), .lp (cp [1, 0, 1, 0] (bodyOf Try.f35)), .blk 0, .code (cp [1, 1] (bodyOf Try.f35))] (FinX Try.prog Try.f35 [] (bl r) []) ⟨[(1, .ptr 1 0), (6, .agg [bl a0.1.1.inn, i64 a0.1.1.pl.A, i64 a0.1.1.pl.B, i64 a0.1.1.pl.C, i64 a0.1.1.pl.D, .sl false 6 a0.1.1.kids.length ((eSol false).f a0.1.1.kids), bl a0.1.2.1.inn, i64 a0.1.2.1.pl.A, i64 a0.1.2.1.pl.B, i64 a0.1.2.1.pl.C, i64 a0.1.2.1.pl.D, .sl false 6 a0.1.2.1.kids.length ((eSol false).f a0.1.2.1.kids), bl a0.1.2.2.1.inn, i64 a0.1.2.2.1.pl.A, i64 a0.1.2.2.1.pl.B, i64 a0.1.2.2.1.pl.C, i64 a0.1.2.2.1.pl.D, .sl false 6 a0.1.2.2.1.kids.length ((eSol false).f a0.1.2.2.1.kids), bl a0.1.2.2.2.1.inn, i64 a0.1.2.2.2.1.pl.A, i64 a0.1.2.2.2.1.pl.B, i64 a0.1.2.2.2.1.pl.C, i64 a0.1.2.2.2.1.pl.D, .sl false 6 a0.1.2.2.2.1.kids.length ((eSol false).f a0.1.2.2.2.1.kids), bl a0.1.2.2.2.2.1.inn, i64 a0.1.2.2.2.2.1.pl.A, i64 a0.1.2.2.2.2.1.pl.B, i64 a0.1.2.2.2.2.1.pl.C, i64 a0.1.2.2.2.2.1.pl.D, .sl false 6 a0.1.2.2.2.2.1.kids.length ((eSol false).f a0.1.2.2.2.2.1.kids), bl a0.1.2.2.2.2.2.1.inn, i64 a0.1.2.2.2.2.2.1.pl.A, i64 a0.1.2.2.2.2.2.1.pl.B, i64 a0.1.2.2.2.2.2.1.pl.C, i64 a0.1.2.2.2.2.2.1.pl.D, .sl false 6 a0.1.2.2.2.2.2.1.kids.length ((eSol false).f a0.1.2.2.2.2.2.1.kids), bl a0.1.2.2.2.2.2.2.1.inn, i64 a0.1.2.2.2.2.2.2.1.pl.A, i64 a0.1.2.2.2.2.2.2.1.pl.B, i64 a0.1.2.2.2.2.2.2.1.pl.C, i64 a0.1.2.2.2.2.2.2.1.pl.D, .sl false 6 a0.1.2.2.2.2.2.2.1.kids.length ((eSol false).f a0.1.2.2.2.2.2.2.1.kids), bl a0.1.2.2.2.2.2.2.2.inn, i64 a0.1.2.2.2.2.2.2.2.pl.A, i64 a0.1.2.2.2.2.2.2.2.pl.B, i64 a0.1.2.2.2.2.2.2.2.pl.C, i64 a0.1.2.2.2.2.2.2.2.pl.D, .sl false 6 a0.1.2.2.2.2.2.2.2.kids.length ((eSol false).f a0.1.2.2.2.2.2.2.2.kids)]), (7, i64 1), (26, bl t26)], [(1, ⟨true, 0, (cT54 a0)⟩)]⟩ := by
  unfold Dimpl_DeskOk_1 at h
  refine x_frk 0 [] onil h (by kernel_rfl) (fun h => ?_) (fun h => ?_)
  · replace h := Option.some.inj h; subst h
    exact x_end 4 [] [] onil onil (by kernel_rfl)
  · obtain ⟨v4, hv4, h⟩ := bind_some h
    refine x_frk 31 [(9, .call [] [] (bl v4) [])] (ocons (Timpl_SolidOk (Y := Y) n a0.1.2.2.1 _ hv4) onil) h (by kernel_rfl) (fun h => ?_) (fun h => ?_)
    · replace h := Option.some.inj h; subst h
      exact x_end 18 [] [] onil onil (by kernel_rfl)
    · refine x_frk 6 [] onil h (by kernel_rfl) (fun h => ?_) (fun h => ?_)
      · obtain ⟨v5, hv5, h⟩ := bind_some h
        exact x_to 7 [(2, .call [(false, 6)] [] (bl v5) [])] (ocons (Timpl_SameTree (Y := Y) n a0.1.2.2.1 (Sol.mk false (Pl.mk 0 0 0 0) []) _ hv5) onil) (Timpl_DeskOk_2 n a0 (!v5) r h) (by kernel_rfl)
      · exact x_to 15 [] onil (Timpl_DeskOk_13 n a0 r h) (by kernel_rfl)
def Dimpl_DeskOk_14 (n : Nat) (a0 : ((Sol × Sol × Sol × Sol × Sol × Sol × Sol × Sol) × (Bool × Bool × Bool × Bool × Bool × Bool × Bool × Bool))) : Option Bool :=
  (Dimpl_SolidOk n a0.1.2.2.1).bind fun v28 => frk (!v28) (some false) (frk (!a0.2.2.2.1) ((Dimpl_SameTree n a0.1.2.2.1 (Sol.mk false (Pl.mk 0 0 0 0) [])).bind fun v29 => Dimpl_DeskOk_2 n a0 (!v29)) (Dimpl_DeskOk_13 n a0))
theorem Timpl_DeskOk_14 {Y} (n : Nat) (a0 : ((Sol × Sol × Sol × Sol × Sol × Sol × Sol × Sol) × (Bool × Bool × Bool × Bool × Bool × Bool × Bool × Bool))) (r : Bool) (h : Dimpl_DeskOk_14 n a0 = some r) : Wk Try.prog H Y 35 [.code (cp [1, 0, 1, 0] (bodyOf Try.f35)), .blk 0, .code (cp [1, 1] (bodyOf Try.f35))] (FinX Try.prog Try.f35 [] (bl r) []) ⟨[(1, .ptr 1 0), (6, .agg [bl a0.1.1.inn, i64 a0.1.1.pl.A, i64 a0.1.1.pl.B, i64 a0.1.1.pl.C, i64 a0.1.1.pl.D, .sl false 6 a0.1.1.kids.length ((eSol false).f a0.1.1.kids), bl a0.1.2.1.inn, i64 a0.1.2.1.pl.A, i64 a0.1.2.1.pl.B, i64 a0.1.2.1.pl.C, i64 a0.1.2.1.pl.D, .sl false 6 a0.1.2.1.kids.length ((eSol false).f a0.1.2.1.kids), bl a0.1.2.2.1.inn, i64 a0.1.2.2.1.pl.A, i64 a0.1.2.2.1.pl.B, i64 a0.1.2.2.1.pl.C, i64 a0.1.2.2.1.pl.D, .sl false 6 a0.1.2.2.1.kids.length ((eSol false).f a0.1.2.2.1.kids), bl a0.1.2.2.2.1.inn, i64 a0.1.2.2.2.1.pl.A, i64 a0.1.2.2.2.1.pl.B, i64 a0.1.2.2.2.1.pl.C, i64 a0.1.2.2.2.1.pl.D, .sl false 6 a0.1.2.2.2.1.kids.length ((eSol false).f a0.1.2.2.2.1.kids), bl a0.1.2.2.2.2.1.inn, i64 a0.1.2.2.2.2.1.pl.A, i64 a0.1.2.2.2.2.1.pl.B, i64 a0.1.2.2.2.2.1.pl.C, i64 a0.1.2.2.2.2.1.pl.D, .sl false 6 a0.1.2.2.2.2.1.kids.length ((eSol false).f a0.1.2.2.2.2.1.kids), bl a0.1.2.2.2.2.2.1.inn, i64 a0.1.2.2.2.2.2.1.pl.A, i64 a0.1.2.2.2.2.2.1.pl.B, i64 a0.1.2.2.2.2.2.1.pl.C, i64 a0.1.2.2.2.2.2.1.pl.D, .sl false 6 a0.1.2.2.2.2.2.1.kids.length ((eSol false).f a0.1.2.2.2.2.2.1.kids), bl a0.1.2.2.2.2.2.2.1.inn, i64 a0.1.2.2.2.2.2.2.1.pl.A, i64 a0.1.2.2.2.2.2.2.1.pl.B, i64 a0.1.2.2.2.2.2.2.1.pl.C, i64 a0.1.2.2.2.2.2.2.1.pl.D, .sl false 6 a0.1.2.2.2.2.2.2.1.kids.length ((eSol false).f a0.1.2.2.2.2.2.2.1.kids), bl a0.1.2.2.2.2.2.2.2.inn, i64 a0.1.2.2.2.2.2.2.2.pl.A, i64 a0.1.2.2.2.2.2.2.2.pl.B, i64 a0.1.2.2.2.2.2.2.2.pl.C, i64 a0.1.2.2.2.2.2.2.2.pl.D, .sl false 6 a0.1.2.2.2.2.2.2.2.kids.length ((eSol false).f a0.1.2.2.2.2.2.2.2.kids)]), (7, i64 2)], [(1, ⟨true, 0, (cT54 a0)⟩)]⟩ := by
  unfold Dimpl_DeskOk_14 at h
  obtain ⟨v28, hv28, h⟩ := bind_some h
  refine x_frk 24 [(7, .call [] [] (bl v28) [])] (ocons (Timpl_SolidOk (Y := Y) n a0.1.2.2.1 _ hv28) onil) h (by kernel_rfl) (fun h => ?_) (fun h => ?_)
  · replace h := Option.some.inj h; subst h
    exact x_end 18 [] [] onil onil (by kernel_rfl)
  · refine x_frk 6 [] onil h (by kernel_rfl) (fun h => ?_) (fun h => ?_)
    · obtain ⟨v29, hv29, h⟩ := bind_some h
      exact x_to 7 [(2, .call [(false, 6)] [] (bl v29) [])] (ocons (Timpl_SameTree (Y := Y) n a0.1.2.2.1 (Sol.mk false (Pl.mk 0 0 0 0) []) _ hv29) onil) (Timpl_DeskOk_2 n a0 (!v29) r h) (by kernel_rfl)
    · exact x_to 15 [] onil (Timpl_DeskOk_13 n a0 r h) (by kernel_rfl)
def Dimpl_DeskOk_0 (n : Nat) (a0 : ((Sol × Sol × Sol × Sol × Sol × Sol × Sol × Sol) × (Bool × Bool × Bool × Bool × Bool × Bool × Bool × Bool))) (t26 : Bool) : Option Bool :=
  frk t26 (some false) ((Dimpl_SolidOk n a0.1.2.1).bind fun v2 => frk (!v2) (some false) (frk (!a0.2.2.1) ((Dimpl_SameTree n a0.1.2.1 (Sol.mk false (Pl.mk 0 0 0 0) [])).bind fun v3 => Dimpl_DeskOk_1 n a0 (!v3)) (Dimpl_DeskOk_14 n a0)))
theorem Timpl_DeskOk_0 {Y} (n : Nat) (a0 : ((Sol × Sol × Sol × Sol × Sol × Sol × Sol × Sol) × (Bool × Bool × Bool × Bool × Bool × Bool × Bool × Bool))) (t26 : Bool) (r : Bool) (h : Dimpl_DeskOk_0 n a0 t26 = some r) : Wk Try.prog H Y 35 [.code (cp [1, 0, 1, 0, 0, 1, 1, 0, 0, 1, 1] (bodyOf Try.f35)), .blk 1, .code (cp [1, 0, 1, 0, 0, 1, 1, 1] (bodyOf Try.f35)), .lp (cp [1, 0, 1, 0] (bodyOf Try.f35)), .blk 0, .code (cp [1, 1] (bodyOf Try.f35))] (FinX Try.prog Try.f35 [] (bl r) []) ⟨[(1, .ptr 1 0), (6, .agg [bl a0.1.1.inn, i64 a0.1.1.pl.A, i64 a0.1.1.pl.B, i64 a0.1.1.pl.C, i64 a0.1.1.pl.D, .sl false 6 a0.1.1.kids.length ((eSol false).f a0.1.1.kids), bl a0.1.2.1.inn, i64 a0.1.2.1.pl.A, i64 a0.1.2.1.pl.B, i64 a0.1.2.1.pl.C, i64 a0.1.2.1.pl.D, .sl false 6 a0.1.2.1.kids.length ((eSol false).f a0.1.2.1.kids), bl a0.1.2.2.1.inn, i64 a0.1.2.2.1.pl.A, i64 a0.1.2.2.1.pl.B, i64 a0.1.2.2.1.pl.C, i64 a0.1.2.2.1.pl.D, .sl false 6 a0.1.2.2.1.kids.length ((eSol false).f a0.1.2.2.1.kids), bl a0.1.2.2.2.1.inn, i64 a0.1.2.2.2.1.pl.A, i64 a0.1.2.2.2.1.pl.B, i64 a0.1.2.2.2.1.pl.C, i64 a0.1.2.2.2.1.pl.D, .sl false 6 a0.1.2.2.2.1.kids.length ((eSol false).f a0.1.2.2.2.1.kids), bl a0.1.2.2.2.2.1.inn, i64 a0.1.2.2.2.2.1.pl.A, i64 a0.1.2.2.2.2.1.pl.B, i64 a0.1.2.2.2.2.1.pl.C, i64 a0.1.2.2.2.2.1.pl.D, .sl false 6 a0.1.2.2.2.2.1.kids.length ((eSol false).f a0.1.2.2.2.2.1.kids), bl a0.1.2.2.2.2.2.1.inn, i64 a0.1.2.2.2.2.2.1.pl.A, i64 a0.1.2.2.2.2.2.1.pl.B, i64 a0.1.2.2.2.2.2.1.pl.C, i64 a0.1.2.2.2.2.2.1.pl.D, .sl false 6 a0.1.2.2.2.2.2.1.kids.length ((eSol false).f a0.1.2.2.2.2.2.1.kids), bl a0.1.2.2.2.2.2.2.1.inn, i64 a0.1.2.2.2.2.2.2.1.pl.A, i64 a0.1.2.2.2.2.2.2.1.pl.B, i64 a0.1.2.2.2.2.2.2.1.pl.C, i64 a0.1.2.2.2.2.2.2.1.pl.D, .sl false 6 a0.1.2.2.2.2.2.2.1.kids.length ((eSol false).f a0.1.2.2.2.2.2.2.1.kids), bl a0.1.2.2.2.2.2.2.2.inn, i64 a0.1.2.2.2.2.2.2.2.pl.A, i64 a0.1.2.2.2.2.2.2.2.pl.B, i64 a0.1.2.2.2.2.2.2.2.pl.C, i64 a0.1.2.2.2.2.2.2.2.pl.D, .sl false 6 a0.1.2.2.2.2.2.2.2.kids.length ((eSol false).f a0.1.2.2.2.2.2.2.2.kids)]), (7, i64 0), (26, bl t26)], [(1, ⟨true, 0, (cT54 a0)⟩)]⟩ := by
  unfold Dimpl_DeskOk_0 at h
  refine x_frk 0 [] onil h (by kernel_rfl) (fun h => ?_) (fun h => ?_)
  · replace h := Option.some.inj h; subst h
    exact x_end 4 [] [] onil onil (by kernel_rfl)
  · obtain ⟨v2, hv2, h⟩ := bind_some h
    refine x_frk 31 [(9, .call [] [] (bl v2) [])] (ocons (Timpl_SolidOk (Y := Y) n a0.1.2.1 _ hv2) onil) h (by kernel_rfl) (fun h => ?_) (fun h => ?_)
    · replace h := Option.some.inj h; subst h
      exact x_end 18 [] [] onil onil (by kernel_rfl)
    · refine x_frk 6 [] onil h (by kernel_rfl) (fun h => ?_) (fun h => ?_)
      · obtain ⟨v3, hv3, h⟩ := bind_some h
        exact x_to 7 [(2, .call [(false, 6)] [] (bl v3) [])] (ocons (Timpl_SameTree (Y := Y) n a0.1.2.1 (Sol.mk false (Pl.mk 0 0 0 0) []) _ hv3) onil) (Timpl_DeskOk_1 n a0 (!v3) r h) (by kernel_rfl)
      · exact x_to 15 [] onil (Timpl_DeskOk_14 n a0 r h) (by kernel_rfl)
def Dimpl_DeskOk_15 (n : Nat) (a0 : ((Sol × Sol × Sol × Sol × Sol × Sol × Sol × Sol) × (Bool × Bool × Bool × Bool × Bool × Bool × Bool × Bool))) : Option Bool :=
  (Dimpl_SolidOk n a0.1.2.1).bind fun v30 => frk (!v30) (some false) (frk (!a0.2.2.1) ((Dimpl_SameTree n a0.1.2.1 (Sol.mk false (Pl.mk 0 0 0 0) [])).bind fun v31 => Dimpl_DeskOk_1 n a0 (!v31)) (Dimpl_DeskOk_14 n a0))
theorem Timpl_DeskOk_15 {Y} (n : Nat) (a0 : ((Sol × Sol × Sol × Sol × Sol × Sol × Sol × Sol) × (Bool × Bool × Bool × Bool × Bool × Bool × Bool × Bool))) (r : Bool) (h : Dimpl_DeskOk_15 n a0 = some r) : Wk Try.prog H Y 35 [.code (cp [1, 0, 1, 0] (bodyOf Try.f35)), .blk 0, .code (cp [1, 1] (bodyOf Try.f35))] (FinX Try.prog Try.f35 [] (bl r) []) ⟨[(1, .ptr 1 0), (6, .agg [bl a0.1.1.inn, i64 a0.1.1.pl.A, i64 a0.1.1.pl.B, i64 a0.1.1.pl.C, i64 a0.1.1.pl.D, .sl false 6 a0.1.1.kids.length ((eSol false).f a0.1.1.kids), bl a0.1.2.1.inn, i64 a0.1.2.1.pl.A, i64 a0.1.2.1.pl.B, i64 a0.1.2.1.pl.C, i64 a0.1.2.1.pl.D, .sl false 6 a0.1.2.1.kids.length ((eSol false).f a0.1.2.1.kids), bl a0.1.2.2.1.inn, i64 a0.1.2.2.1.pl.A, i64 a0.1.2.2.1.pl.B, i64 a0.1.2.2.1.pl.C, i64 a0.1.2.2.1.pl.D, .sl false 6 a0.1.2.2.1.kids.length ((eSol false).f a0.1.2.2.1.kids), bl a0.1.2.2.2.1.inn, i64 a0.1.2.2.2.1.pl.A, i64 a0.1.2.2.2.1.pl.B, i64 a0.1.2.2.2.1.pl.C, i64 a0.1.2.2.2.1.pl.D, .sl false 6 a0.1.2.2.2.1.kids.length ((eSol false).f a0.1.2.2.2.1.kids), bl a0.1.2.2.2.2.1.inn, i64 a0.1.2.2.2.2.1.pl.A, i64 a0.1.2.2.2.2.1.pl.B, i64 a0.1.2.2.2.2.1.pl.C, i64 a0.1.2.2.2.2.1.pl.D, .sl false 6 a0.1.2.2.2.2.1.kids.length ((eSol false).f a0.1.2.2.2.2.1.kids), bl a0.1.2.2.2.2.2.1.inn, i64 a0.1.2.2.2.2.2.1.pl.A, i64 a0.1.2.2.2.2.2.1.pl.B, i64 a0.1.2.2.2.2.2.1.pl.C, i64 a0.1.2.2.2.2.2.1.pl.D, .sl false 6 a0.1.2.2.2.2.2.1.kids.length ((eSol false).f a0.1.2.2.2.2.2.1.kids), bl a0.1.2.2.2.2.2.2.1.inn, i64 a0.1.2.2.2.2.2.2.1.pl.A, i64 a0.1.2.2.2.2.2.2.1.pl.B, i64 a0.1.2.2.2.2.2.2.1.pl.C, i64 a0.1.2.2.2.2.2.2.1.pl.D, .sl false 6 a0.1.2.2.2.2.2.2.1.kids.length ((eSol false).f a0.1.2.2.2.2.2.2.1.kids), bl a0.1.2.2.2.2.2.2.2.inn, i64 a0.1.2.2.2.2.2.2.2.pl.A, i64 a0.1.2.2.2.2.2.2.2.pl.B, i64 a0.1.2.2.2.2.2.2.2.pl.C, i64 a0.1.2.2.2.2.2.2.2.pl.D, .sl false 6 a0.1.2.2.2.2.2.2.2.kids.length ((eSol false).f a0.1.2.2.2.2.2.2.2.kids)]), (7, i64 1)], [(1, ⟨true, 0, (cT54 a0)⟩)]⟩ := by
  unfold Dimpl_DeskOk_15 at h
  obtain ⟨v30, hv30, h⟩ := bind_some h
  refine x_frk 24 [(7, .call [] [] (bl v30) [])] (ocons (Timpl_SolidOk (Y := Y) n a0.1.2.1 _ hv30) onil) h (by kernel_rfl) (fun h => ?_) (fun h => ?_)
  · replace h := Option.some.inj h; subst h
    exact x_end 18 [] [] onil onil (by kernel_rfl)
  · refine x_frk 6 [] onil h (by kernel_rfl) (fun h => ?_) (fun h => ?_)
    · obtain ⟨v31, hv31, h⟩ := bind_some h
      exact x_to 7 [(2, .call [(false, 6)] [] (bl v31) [])] (ocons (Timpl_SameTree (Y := Y) n a0.1.2.1 (Sol.mk false (Pl.mk 0 0 0 0) []) _ hv31) onil) (Timpl_DeskOk_1 n a0 (!v31) r h) (by kernel_rfl)
    · exact x_to 15 [] onil (Timpl_DeskOk_14 n a0 r h) (by kernel_rfl)
def Dimpl_DeskOk (n : Nat) (a0 : ((Sol × Sol × Sol × Sol × Sol × Sol × Sol × Sol) × (Bool × Bool × Bool × Bool × Bool × Bool × Bool × Bool))) : Option Bool :=
  (Dimpl_SolidOk n a0.1.1).bind fun v0 => frk (!v0) (some false) (frk (!a0.2.1) ((Dimpl_SameTree n a0.1.1 (Sol.mk false (Pl.mk 0 0 0 0) [])).bind fun v1 => Dimpl_DeskOk_0 n a0 (!v1)) (Dimpl_DeskOk_15 n a0))
theorem Timpl_DeskOk {Y} (n : Nat) (a0 : ((Sol × Sol × Sol × Sol × Sol × Sol × Sol × Sol) × (Bool × Bool × Bool × Bool × Bool × Bool × Bool × Bool))) (r : Bool) (h : Dimpl_DeskOk n a0 = some r) : Big Try.prog H Y (.call 35 [.agg (cT54 a0)] (lk []) (bl r) (lk [])) := by
  unfold Dimpl_DeskOk at h
  refine x_call (fn := Try.f35) (c := bodyOf Try.f35) (bs0 := []) Try.func35 (by kernel_rfl) (by kernel_rfl) ?_
  obtain ⟨v0, hv0, h⟩ := bind_some h
  refine x_frk 37 [(12, .call [] [] (bl v0) [])] (ocons (Timpl_SolidOk (Y := Y) n a0.1.1 _ hv0) onil) h (by kernel_rfl) (fun h => ?_) (fun h => ?_)
  · replace h := Option.some.inj h; subst h
    exact x_end 18 [] [] onil onil (by kernel_rfl)
  · refine x_frk 6 [] onil h (by kernel_rfl) (fun h => ?_) (fun h => ?_)
    · obtain ⟨v1, hv1, h⟩ := bind_some h
      exact x_to 7 [(2, .call [(false, 6)] [] (bl v1) [])] (ocons (Timpl_SameTree (Y := Y) n a0.1.1 (Sol.mk false (Pl.mk 0 0 0 0) []) _ hv1) onil) (Timpl_DeskOk_0 n a0 (!v1) r h) (by kernel_rfl)
    · exact x_to 15 [] onil (Timpl_DeskOk_15 n a0 r h) (by kernel_rfl)
/-! laws.eqPlane -/
def Dlaws_eqPlane (a0 : Pl) (a1 : Pl) : Option Bool :=
  frk (a0.A != a1.A) (some false) (frk (a0.B != a1.B) (some false) (frk (a0.C != a1.C) (some false) (frk (a0.D != a1.D) (some false) (some true))))
theorem Tlaws_eqPlane {Y} (a0 : Pl) (a1 : Pl) (r : Bool) (h : Dlaws_eqPlane a0 a1 = some r) : Big Try.prog H Y (.call 60 [.agg [i64 a0.A, i64 a0.B, i64 a0.C, i64 a0.D], .agg [i64 a1.A, i64 a1.B, i64 a1.C, i64 a1.D]] (lk []) (bl r) (lk [])) := by
  unfold Dlaws_eqPlane at h
  refine x_call (fn := Try.f60) (c := bodyOf Try.f60) (bs0 := []) Try.func60 (by kernel_rfl) (by kernel_rfl) ?_
  refine x_frk 15 [] onil h (by kernel_rfl) (fun h => ?_) (fun h => ?_)
  · replace h := Option.some.inj h; subst h
    exact x_end 4 [] [] onil onil (by kernel_rfl)
  · refine x_frk 10 [] onil h (by kernel_rfl) (fun h => ?_) (fun h => ?_)
    · replace h := Option.some.inj h; subst h
      exact x_end 4 [] [] onil onil (by kernel_rfl)
    · refine x_frk 10 [] onil h (by kernel_rfl) (fun h => ?_) (fun h => ?_)
      · replace h := Option.some.inj h; subst h
        exact x_end 4 [] [] onil onil (by kernel_rfl)
      · refine x_frk 10 [] onil h (by kernel_rfl) (fun h => ?_) (fun h => ?_)
        · replace h := Option.some.inj h; subst h
          exact x_end 4 [] [] onil onil (by kernel_rfl)
        · replace h := Option.some.inj h; subst h
          exact x_end 5 [] [] onil onil (by kernel_rfl)
/-! laws.eqSolidS -/
def Dlaws_eqSolidS_in_0 (_n : Nat) (self : (Sol × Sol) → Option Bool) (t0 : List Sol) (t1 : List Sol) (rec0 : Int → Option Bool) (a : Int) : Option Bool :=
  match a with
  | t5 => frk (decide (t5 < (t0.length : Int))) ((lget t0 t5).bind fun v0 => (lget t1 t5).bind fun v1 => (self (v0, v1)).bind fun v2 => frk (!v2) (some false) (rec0 (w64 (t5 + 1)))) (some true)
theorem Tlaws_eqSolidS_in_0 {Y} (n : Nat) (self : (Sol × Sol) → Option Bool) (hself : ∀ (a : (Sol × Sol)) (r : Bool), self a = some r → Big Try.prog H Y (.call 21 [.agg [bl a.1.inn, i64 a.1.pl.A, i64 a.1.pl.B, i64 a.1.pl.C, i64 a.1.pl.D, .sl false 6 a.1.kids.length ((eSol false).f a.1.kids)], .agg [bl a.2.inn, i64 a.2.pl.A, i64 a.2.pl.B, i64 a.2.pl.C, i64 a.2.pl.D, .sl false 6 a.2.kids.length ((eSol false).f a.2.kids)]] (lk []) (bl r) (lk []))) (t0 : List Sol) (t1 : List Sol) : ∀ (m : Nat) (a : Int) (r : Bool), loopN (Dlaws_eqSolidS_in_0 n self t0 t1) m a = some r → Wk Try.prog H Y 61 [.code (cp [1, 1, 0, 1, 0] (bodyOf Try.f61)), .blk 0, .code (cp [1, 1, 1] (bodyOf Try.f61))] (FinX Try.prog Try.f61 [] (bl r) []) ⟨[(0, .sl false 6 t0.length ((eSol false).f t0)), (1, .sl false 6 t1.length ((eSol false).f t1)), (5, i64 a)], []⟩ := by
  refine loopN_ind (fun _rec0 hrec0 a r h => ?_)
  obtain ⟨t5, rfl⟩ : ∃ x, x = a := ⟨a, rfl⟩
  unfold Dlaws_eqSolidS_in_0 at h
  refine x_frk 9 [] onil h (by kernel_rfl) (fun h => ?_) (fun h => ?_)
  · obtain ⟨v0, hv0, h⟩ := bind_some h
    obtain ⟨v1, hv1, h⟩ := bind_some h
    obtain ⟨v2, hv2, h⟩ := bind_some h
    refine x_frk 16 [(2, .val (.cptr ((eSol false).c v0 ++ (eSol false).f ((t0).drop (Int.toNat t5 + 1))))), (3, .val (.cptr ((eSol false).c v1 ++ (eSol false).f ((t1).drop (Int.toNat t5 + 1))))), (1, .call [] [] (bl v2) [])] (ocons (ix (eSol false) hv0) (ocons (ix (eSol false) hv1) (ocons (hself (v0, v1) _ hv2) onil))) h (by kernel_rfl) (fun h => ?_) (fun h => ?_)
    · replace h := Option.some.inj h; subst h
      exact x_end 4 [] [] onil onil (by kernel_rfl)
    · exact x_to 8 [] onil (hrec0 (w64 (t5 + 1)) r h) (by kernel_rfl)
  · replace h := Option.some.inj h; subst h
    exact x_end 5 [] [] onil onil (by kernel_rfl)
def Dlaws_eqSolidS_in (n : Nat) (self : (Sol × Sol) → Option Bool) (a0 : (List Sol)) (a1 : (List Sol)) : Option Bool :=
  frk ((a0.length : Int) != (a1.length : Int)) (some false) (loopN (Dlaws_eqSolidS_in_0 n self a0 a1) n 0)
theorem Tlaws_eqSolidS_in {Y} (n : Nat) (self : (Sol × Sol) → Option Bool) (hself : ∀ (a : (Sol × Sol)) (r : Bool), self a = some r → Big Try.prog H Y (.call 21 [.agg [bl a.1.inn, i64 a.1.pl.A, i64 a.1.pl.B, i64 a.1.pl.C, i64 a.1.pl.D, .sl false 6 a.1.kids.length ((eSol false).f a.1.kids)], .agg [bl a.2.inn, i64 a.2.pl.A, i64 a.2.pl.B, i64 a.2.pl.C, i64 a.2.pl.D, .sl false 6 a.2.kids.length ((eSol false).f a.2.kids)]] (lk []) (bl r) (lk []))) (a0 : (List Sol)) (a1 : (List Sol)) (r : Bool) (h : Dlaws_eqSolidS_in n self a0 a1 = some r) : Big Try.prog H Y (.call 61 [.sl false 6 a0.length ((eSol false).f a0), .sl false 6 a1.length ((eSol false).f a1)] (lk []) (bl r) (lk [])) := by
  unfold Dlaws_eqSolidS_in at h
  refine x_call (fn := Try.f61) (c := bodyOf Try.f61) (bs0 := []) Try.func61 (by kernel_rfl) (by kernel_rfl) ?_
  refine x_frk 13 [] onil h (by kernel_rfl) (fun h => ?_) (fun h => ?_)
  · replace h := Option.some.inj h; subst h
    exact x_end 4 [] [] onil onil (by kernel_rfl)
  · exact x_to 7 [] onil (Tlaws_eqSolidS_in_0 n self hself a0 a1 n 0 r h) (by kernel_rfl)
/-! laws.eqSolid -/
def Dlaws_eqSolid_b (n : Nat) (self : (Sol × Sol) → Option Bool) (a : (Sol × Sol)) : Option Bool :=
  match a with
  | (a0, a1) => frk (!(a0.inn == a1.inn)) (some false) ((Dlaws_eqPlane a0.pl a1.pl).bind fun v0 => frk (!v0) (some false) ((Dlaws_eqSolidS_in n self a0.kids a1.kids).bind fun v1 => frk (!v1) (some false) (some true)))
def Dlaws_eqSolid (n : Nat) (a0 : Sol) (a1 : Sol) : Option Bool := loopN (Dlaws_eqSolid_b n) n (a0, a1)
theorem Tlaws_eqSolid_b {Y} (n : Nat) : ∀ (m : Nat) (a : (Sol × Sol)) (r : Bool), loopN (Dlaws_eqSolid_b n) m a = some r → ∀ (_ : Unit), Big Try.prog H Y (.call 21 [.agg [bl a.1.inn, i64 a.1.pl.A, i64 a.1.pl.B, i64 a.1.pl.C, i64 a.1.pl.D, .sl false 6 a.1.kids.length ((eSol false).f a.1.kids)], .agg [bl a.2.inn, i64 a.2.pl.A, i64 a.2.pl.B, i64 a.2.pl.C, i64 a.2.pl.D, .sl false 6 a.2.kids.length ((eSol false).f a.2.kids)]] (lk []) (bl r) (lk [])) := by
  refine loopN_ind (fun self hs a r h => ?_)
  have hself : ∀ (a : (Sol × Sol)) (r : Bool), self a = some r → Big Try.prog H Y (.call 21 [.agg [bl a.1.inn, i64 a.1.pl.A, i64 a.1.pl.B, i64 a.1.pl.C, i64 a.1.pl.D, .sl false 6 a.1.kids.length ((eSol false).f a.1.kids)], .agg [bl a.2.inn, i64 a.2.pl.A, i64 a.2.pl.B, i64 a.2.pl.C, i64 a.2.pl.D, .sl false 6 a.2.kids.length ((eSol false).f a.2.kids)]] (lk []) (bl r) (lk [])) := fun a r h => hs a r h ()
  intro _
  obtain ⟨a0, a1⟩ := a
  unfold Dlaws_eqSolid_b at h
  refine x_call (fn := Try.f21) (c := bodyOf Try.f21) (bs0 := []) Try.func21 (by kernel_rfl) (by kernel_rfl) ?_
  refine x_frk 15 [] onil h (by kernel_rfl) (fun h => ?_) (fun h => ?_)
  · replace h := Option.some.inj h; subst h
    exact x_end 4 [] [] onil onil (by kernel_rfl)
  · obtain ⟨v0, hv0, h⟩ := bind_some h
    refine x_frk 11 [(4, .call [] [] (bl v0) [])] (ocons (Tlaws_eqPlane (Y := Y) a0.pl a1.pl _ hv0) onil) h (by kernel_rfl) (fun h => ?_) (fun h => ?_)
    · replace h := Option.some.inj h; subst h
      exact x_end 4 [] [] onil onil (by kernel_rfl)
    · obtain ⟨v1, hv1, h⟩ := bind_some h
      refine x_frk 11 [(4, .call [] [] (bl v1) [])] (ocons (Tlaws_eqSolidS_in (Y := Y) n self hself a0.kids a1.kids _ hv1) onil) h (by kernel_rfl) (fun h => ?_) (fun h => ?_)
      · replace h := Option.some.inj h; subst h
        exact x_end 4 [] [] onil onil (by kernel_rfl)
      · replace h := Option.some.inj h; subst h
        exact x_end 5 [] [] onil onil (by kernel_rfl)
theorem Tlaws_eqSolid {Y} (n : Nat) (a0 : Sol) (a1 : Sol) (r : Bool) (h : Dlaws_eqSolid n a0 a1 = some r) : Big Try.prog H Y (.call 21 [.agg [bl a0.inn, i64 a0.pl.A, i64 a0.pl.B, i64 a0.pl.C, i64 a0.pl.D, .sl false 6 a0.kids.length ((eSol false).f a0.kids)], .agg [bl a1.inn, i64 a1.pl.A, i64 a1.pl.B, i64 a1.pl.C, i64 a1.pl.D, .sl false 6 a1.kids.length ((eSol false).f a1.kids)]] (lk []) (bl r) (lk [])) := Tlaws_eqSolid_b n n (a0, a1) r h ()
/-! laws.eqSolidA8 -/
def Dlaws_eqSolidA8 (n : Nat) (a0 : (Sol × Sol × Sol × Sol × Sol × Sol × Sol × Sol)) (a1 : (Sol × Sol × Sol × Sol × Sol × Sol × Sol × Sol)) : Option Bool :=
  (Dlaws_eqSolid n a0.1 a1.1).bind fun v0 => frk (!v0) (some false) ((Dlaws_eqSolid n a0.2.1 a1.2.1).bind fun v1 => frk (!v1) (some false) ((Dlaws_eqSolid n a0.2.2.1 a1.2.2.1).bind fun v2 => frk (!v2) (some false) ((Dlaws_eqSolid n a0.2.2.2.1 a1.2.2.2.1).bind fun v3 => frk (!v3) (some false) ((Dlaws_eqSolid n a0.2.2.2.2.1 a1.2.2.2.2.1).bind fun v4 => frk (!v4) (some false) ((Dlaws_eqSolid n a0.2.2.2.2.2.1 a1.2.2.2.2.2.1).bind fun v5 => frk (!v5) (some false) ((Dlaws_eqSolid n a0.2.2.2.2.2.2.1 a1.2.2.2.2.2.2.1).bind fun v6 => frk (!v6) (some false) ((Dlaws_eqSolid n a0.2.2.2.2.2.2.2 a1.2.2.2.2.2.2.2).bind fun v7 => frk (!v7) (some false) (some true))))))))
theorem Tlaws_eqSolidA8 {Y} (n : Nat) (a0 : (Sol × Sol × Sol × Sol × Sol × Sol × Sol × Sol)) (a1 : (Sol × Sol × Sol × Sol × Sol × Sol × Sol × Sol)) (r : Bool) (h : Dlaws_eqSolidA8 n a0 a1 = some r) : Big Try.prog H Y (.call 82 [.agg (cT52 a0), .agg (cT52 a1)] (lk []) (bl r) (lk [])) := by
  unfold Dlaws_eqSolidA8 at h
  refine x_call (fn := Try.f82) (c := bodyOf Try.f82) (bs0 := []) Try.func82 (by kernel_rfl) (by kernel_rfl) ?_
  obtain ⟨v0, hv0, h⟩ := bind_some h
  refine x_frk 34 [(12, .call [] [] (bl v0) [])] (ocons (Tlaws_eqSolid (Y := Y) n a0.1 a1.1 _ hv0) onil) h (by kernel_rfl) (fun h => ?_) (fun h => ?_)
  · replace h := Option.some.inj h; subst h
    exact x_end 4 [] [] onil onil (by kernel_rfl)
  · obtain ⟨v1, hv1, h⟩ := bind_some h
    refine x_frk 30 [(11, .call [] [] (bl v1) [])] (ocons (Tlaws_eqSolid (Y := Y) n a0.2.1 a1.2.1 _ hv1) onil) h (by kernel_rfl) (fun h => ?_) (fun h => ?_)
    · replace h := Option.some.inj h; subst h
      exact x_end 4 [] [] onil onil (by kernel_rfl)
    · obtain ⟨v2, hv2, h⟩ := bind_some h
      refine x_frk 30 [(11, .call [] [] (bl v2) [])] (ocons (Tlaws_eqSolid (Y := Y) n a0.2.2.1 a1.2.2.1 _ hv2) onil) h (by kernel_rfl) (fun h => ?_) (fun h => ?_)
      · replace h := Option.some.inj h; subst h
        exact x_end 4 [] [] onil onil (by kernel_rfl)
      · obtain ⟨v3, hv3, h⟩ := bind_some h
        refine x_frk 30 [(11, .call [] [] (bl v3) [])] (ocons (Tlaws_eqSolid (Y := Y) n a0.2.2.2.1 a1.2.2.2.1 _ hv3) onil) h (by kernel_rfl) (fun h => ?_) (fun h => ?_)
        · replace h := Option.some.inj h; subst h
          exact x_end 4 [] [] onil onil (by kernel_rfl)
        · obtain ⟨v4, hv4, h⟩ := bind_some h
          refine x_frk 30 [(11, .call [] [] (bl v4) [])] (ocons (Tlaws_eqSolid (Y := Y) n a0.2.2.2.2.1 a1.2.2.2.2.1 _ hv4) onil) h (by kernel_rfl) (fun h => ?_) (fun h => ?_)
          · replace h := Option.some.inj h; subst h
            exact x_end 4 [] [] onil onil (by kernel_rfl)
          · obtain ⟨v5, hv5, h⟩ := bind_some h
            refine x_frk 30 [(11, .call [] [] (bl v5) [])] (ocons (Tlaws_eqSolid (Y := Y) n a0.2.2.2.2.2.1 a1.2.2.2.2.2.1 _ hv5) onil) h (by kernel_rfl) (fun h => ?_) (fun h => ?_)
            · replace h := Option.some.inj h; subst h
              exact x_end 4 [] [] onil onil (by kernel_rfl)
            · obtain ⟨v6, hv6, h⟩ := bind_some h
              refine x_frk 30 [(11, .call [] [] (bl v6) [])] (ocons (Tlaws_eqSolid (Y := Y) n a0.2.2.2.2.2.2.1 a1.2.2.2.2.2.2.1 _ hv6) onil) h (by kernel_rfl) (fun h => ?_) (fun h => ?_)
              · replace h := Option.some.inj h; subst h
                exact x_end 4 [] [] onil onil (by kernel_rfl)
              · obtain ⟨v7, hv7, h⟩ := bind_some h
                refine x_frk 30 [(11, .call [] [] (bl v7) [])] (ocons (Tlaws_eqSolid (Y := Y) n a0.2.2.2.2.2.2.2 a1.2.2.2.2.2.2.2 _ hv7) onil) h (by kernel_rfl) (fun h => ?_) (fun h => ?_)
                · replace h := Option.some.inj h; subst h
                  exact x_end 4 [] [] onil onil (by kernel_rfl)
                · replace h := Option.some.inj h; subst h
                  exact x_end 21 [] [] onil onil (by kernel_rfl)
/-! laws.eqBoolA8 -/
def Dlaws_eqBoolA8 (_n : Nat) (a0 : (Bool × Bool × Bool × Bool × Bool × Bool × Bool × Bool)) (a1 : (Bool × Bool × Bool × Bool × Bool × Bool × Bool × Bool)) : Option Bool :=
  frk (!(a0.1 == a1.1)) (some false) (frk (!(a0.2.1 == a1.2.1)) (some false) (frk (!(a0.2.2.1 == a1.2.2.1)) (some false) (frk (!(a0.2.2.2.1 == a1.2.2.2.1)) (some false) (frk (!(a0.2.2.2.2.1 == a1.2.2.2.2.1)) (some false) (frk (!(a0.2.2.2.2.2.1 == a1.2.2.2.2.2.1)) (some false) (frk (!(a0.2.2.2.2.2.2.1 == a1.2.2.2.2.2.2.1)) (some false) (frk (!(a0.2.2.2.2.2.2.2 == a1.2.2.2.2.2.2.2)) (some false) (some true))))))))
theorem Tlaws_eqBoolA8 {Y} (n : Nat) (a0 : (Bool × Bool × Bool × Bool × Bool × Bool × Bool × Bool)) (a1 : (Bool × Bool × Bool × Bool × Bool × Bool × Bool × Bool)) (r : Bool) (h : Dlaws_eqBoolA8 n a0 a1 = some r) : Big Try.prog H Y (.call 83 [.agg [bl a0.1, bl a0.2.1, bl a0.2.2.1, bl a0.2.2.2.1, bl a0.2.2.2.2.1, bl a0.2.2.2.2.2.1, bl a0.2.2.2.2.2.2.1, bl a0.2.2.2.2.2.2.2], .agg [bl a1.1, bl a1.2.1, bl a1.2.2.1, bl a1.2.2.2.1, bl a1.2.2.2.2.1, bl a1.2.2.2.2.2.1, bl a1.2.2.2.2.2.2.1, bl a1.2.2.2.2.2.2.2]] (lk []) (bl r) (lk [])) := by
  unfold Dlaws_eqBoolA8 at h
  refine x_call (fn := Try.f83) (c := bodyOf Try.f83) (bs0 := []) Try.func83 (by kernel_rfl) (by kernel_rfl) ?_
  refine x_frk 33 [] onil h (by kernel_rfl) (fun h => ?_) (fun h => ?_)
  · replace h := Option.some.inj h; subst h
    exact x_end 4 [] [] onil onil (by kernel_rfl)
  · refine x_frk 29 [] onil h (by kernel_rfl) (fun h => ?_) (fun h => ?_)
    · replace h := Option.some.inj h; subst h
      exact x_end 4 [] [] onil onil (by kernel_rfl)
    · refine x_frk 29 [] onil h (by kernel_rfl) (fun h => ?_) (fun h => ?_)
      · replace h := Option.some.inj h; subst h
        exact x_end 4 [] [] onil onil (by kernel_rfl)
      · refine x_frk 29 [] onil h (by kernel_rfl) (fun h => ?_) (fun h => ?_)
        · replace h := Option.some.inj h; subst h
          exact x_end 4 [] [] onil onil (by kernel_rfl)
        · refine x_frk 29 [] onil h (by kernel_rfl) (fun h => ?_) (fun h => ?_)
          · replace h := Option.some.inj h; subst h
            exact x_end 4 [] [] onil onil (by kernel_rfl)
          · refine x_frk 29 [] onil h (by kernel_rfl) (fun h => ?_) (fun h => ?_)
            · replace h := Option.some.inj h; subst h
              exact x_end 4 [] [] onil onil (by kernel_rfl)
            · refine x_frk 29 [] onil h (by kernel_rfl) (fun h => ?_) (fun h => ?_)
              · replace h := Option.some.inj h; subst h
                exact x_end 4 [] [] onil onil (by kernel_rfl)
              · refine x_frk 29 [] onil h (by kernel_rfl) (fun h => ?_) (fun h => ?_)
                · replace h := Option.some.inj h; subst h
                  exact x_end 4 [] [] onil onil (by kernel_rfl)
                · replace h := Option.some.inj h; subst h
                  exact x_end 21 [] [] onil onil (by kernel_rfl)
/-! laws.eqDesk -/
def Dlaws_eqDesk (n : Nat) (a0 : ((Sol × Sol × Sol × Sol × Sol × Sol × Sol × Sol) × (Bool × Bool × Bool × Bool × Bool × Bool × Bool × Bool))) (a1 : ((Sol × Sol × Sol × Sol × Sol × Sol × Sol × Sol) × (Bool × Bool × Bool × Bool × Bool × Bool × Bool × Bool))) : Option Bool :=
  (Dlaws_eqSolidA8 n a0.1 a1.1).bind fun v0 => frk (!v0) (some false) ((Dlaws_eqBoolA8 n a0.2 a1.2).bind fun v1 => frk (!v1) (some false) (some true))
theorem Tlaws_eqDesk {Y} (n : Nat) (a0 : ((Sol × Sol × Sol × Sol × Sol × Sol × Sol × Sol) × (Bool × Bool × Bool × Bool × Bool × Bool × Bool × Bool))) (a1 : ((Sol × Sol × Sol × Sol × Sol × Sol × Sol × Sol) × (Bool × Bool × Bool × Bool × Bool × Bool × Bool × Bool))) (r : Bool) (h : Dlaws_eqDesk n a0 a1 = some r) : Big Try.prog H Y (.call 36 [.agg (cT54 a0), .agg (cT54 a1)] (lk []) (bl r) (lk [])) := by
  unfold Dlaws_eqDesk at h
  refine x_call (fn := Try.f36) (c := bodyOf Try.f36) (bs0 := []) Try.func36 (by kernel_rfl) (by kernel_rfl) ?_
  obtain ⟨v0, hv0, h⟩ := bind_some h
  refine x_frk 16 [(7, .call [] [] (bl v0) [])] (ocons (Tlaws_eqSolidA8 (Y := Y) n a0.1 a1.1 _ hv0) onil) h (by kernel_rfl) (fun h => ?_) (fun h => ?_)
  · replace h := Option.some.inj h; subst h
    exact x_end 4 [] [] onil onil (by kernel_rfl)
  · obtain ⟨v1, hv1, h⟩ := bind_some h
    refine x_frk 11 [(4, .call [] [] (bl v1) [])] (ocons (Tlaws_eqBoolA8 (Y := Y) n a0.2 a1.2 _ hv1) onil) h (by kernel_rfl) (fun h => ?_) (fun h => ?_)
    · replace h := Option.some.inj h; subst h
      exact x_end 4 [] [] onil onil (by kernel_rfl)
    · replace h := Option.some.inj h; subst h
      exact x_end 5 [] [] onil onil (by kernel_rfl)
/-! laws.FnExactDeskOk -/
def Dlaws_FnExactDeskOk (n : Nat) (a0 : ((Sol × Sol × Sol × Sol × Sol × Sol × Sol × Sol) × (Bool × Bool × Bool × Bool × Bool × Bool × Bool × Bool))) : Option Bool :=
  (Dlaws_szDesk n a0 1048576).bind fun v0 => frk (decide (v0 < 0)) (some true) ((Dlaws_toDesk n a0).bind fun v1 => (Dspec_DeskOk n v1).bind fun v2 => (Dlaws_toDesk n a0).bind fun v3 => (Dimpl_DeskOk n v3).bind fun v4 => frk (!(v4 == v2)) (some false) ((Dlaws_toDesk n a0).bind fun v5 => (Dlaws_eqDesk n v3 v5).bind fun v6 => frk (!v6) (some false) (some true)))
theorem Tlaws_FnExactDeskOk {Y} (n : Nat) (a0 : ((Sol × Sol × Sol × Sol × Sol × Sol × Sol × Sol) × (Bool × Bool × Bool × Bool × Bool × Bool × Bool × Bool))) (r : Bool) (h : Dlaws_FnExactDeskOk n a0 = some r) : Big Try.prog H Y (.call 9 [.agg (cT49 a0)] (lk []) (bl r) (lk [])) := by
  unfold Dlaws_FnExactDeskOk at h
  refine x_call (fn := Try.f9) (c := bodyOf Try.f9) (bs0 := []) Try.func9 (by kernel_rfl) (by kernel_rfl) ?_
  obtain ⟨v0, hv0, h⟩ := bind_some h
  refine x_frk 22 [(5, .call [] [] (i64 v0) [])] (ocons (Tlaws_szDesk (Y := Y) n a0 1048576 _ hv0) onil) h (by kernel_rfl) (fun h => ?_) (fun h => ?_)
  · replace h := Option.some.inj h; subst h
    exact x_end 4 [] [] onil onil (by kernel_rfl)
  · obtain ⟨v1, hv1, h⟩ := bind_some h
    obtain ⟨v2, hv2, h⟩ := bind_some h
    obtain ⟨v3, hv3, h⟩ := bind_some h
    obtain ⟨v4, hv4, h⟩ := bind_some h
    refine x_frk 28 [(1, .call [] [] (.agg (cT54o v1)) []), (0, .call [] [(eSol false).f v1.1.1.kids, (eSol false).f v1.1.2.1.kids, (eSol false).f v1.1.2.2.1.kids, (eSol false).f v1.1.2.2.2.1.kids, (eSol false).f v1.1.2.2.2.2.1.kids, (eSol false).f v1.1.2.2.2.2.2.1.kids, (eSol false).f v1.1.2.2.2.2.2.2.1.kids, (eSol false).f v1.1.2.2.2.2.2.2.2.kids] (bl v2) []), (2, .call [] [] (.agg (cT54o v3)) []), (2, .rows [(eSol false).f v3.1.1.kids, (eSol false).f v3.1.2.1.kids, (eSol false).f v3.1.2.2.1.kids, (eSol false).f v3.1.2.2.2.1.kids, (eSol false).f v3.1.2.2.2.2.1.kids, (eSol false).f v3.1.2.2.2.2.2.1.kids, (eSol false).f v3.1.2.2.2.2.2.2.1.kids, (eSol false).f v3.1.2.2.2.2.2.2.2.kids]), (0, .call [] [] (bl v4) [])] (ocons (Tlaws_toDesk (Y := Y) n a0 _ hv1) (ocons (Tspec_DeskOk (Y := Y) n v1 _ hv2) (ocons (Enc.share (eSol true) (eSol false) (sSol true) v1.1.1.kids) (ocons (Enc.share (eSol true) (eSol false) (sSol true) v1.1.2.1.kids) (ocons (Enc.share (eSol true) (eSol false) (sSol true) v1.1.2.2.1.kids) (ocons (Enc.share (eSol true) (eSol false) (sSol true) v1.1.2.2.2.1.kids) (ocons (Enc.share (eSol true) (eSol false) (sSol true) v1.1.2.2.2.2.1.kids) (ocons (Enc.share (eSol true) (eSol false) (sSol true) v1.1.2.2.2.2.2.1.kids) (ocons (Enc.share (eSol true) (eSol false) (sSol true) v1.1.2.2.2.2.2.2.1.kids) (ocons (Enc.share (eSol true) (eSol false) (sSol true) v1.1.2.2.2.2.2.2.2.kids) (ocons (Tlaws_toDesk (Y := Y) n a0 _ hv3) (ocons (Enc.share (eSol true) (eSol false) (sSol true) v3.1.1.kids) (ocons (Enc.share (eSol true) (eSol false) (sSol true) v3.1.2.1.kids) (ocons (Enc.share (eSol true) (eSol false) (sSol true) v3.1.2.2.1.kids) (ocons (Enc.share (eSol true) (eSol false) (sSol true) v3.1.2.2.2.1.kids) (ocons (Enc.share (eSol true) (eSol false) (sSol true) v3.1.2.2.2.2.1.kids) (ocons (Enc.share (eSol true) (eSol false) (sSol true) v3.1.2.2.2.2.2.1.kids) (ocons (Enc.share (eSol true) (eSol false) (sSol true) v3.1.2.2.2.2.2.2.1.kids) (ocons (Enc.share (eSol true) (eSol false) (sSol true) v3.1.2.2.2.2.2.2.2.kids) (ocons (Timpl_DeskOk (Y := Y) n v3 _ hv4) onil)))))))))))))))))))) h (by kernel_rfl) (fun h => ?_) (fun h => ?_)
    · replace h := Option.some.inj h; subst h
      exact x_end 4 [] [] onil onil (by kernel_rfl)
    · obtain ⟨v5, hv5, h⟩ := bind_some h
      obtain ⟨v6, hv6, h⟩ := bind_some h
      refine x_frk 10 [(0, .rows [(eSol false).f v3.1.1.kids, (eSol false).f v3.1.2.1.kids, (eSol false).f v3.1.2.2.1.kids, (eSol false).f v3.1.2.2.2.1.kids, (eSol false).f v3.1.2.2.2.2.1.kids, (eSol false).f v3.1.2.2.2.2.2.1.kids, (eSol false).f v3.1.2.2.2.2.2.2.1.kids, (eSol false).f v3.1.2.2.2.2.2.2.2.kids]), (1, .call [] [] (.agg (cT54o v5)) []), (0, .call [] [(eSol false).f v5.1.1.kids, (eSol false).f v5.1.2.1.kids, (eSol false).f v5.1.2.2.1.kids, (eSol false).f v5.1.2.2.2.1.kids, (eSol false).f v5.1.2.2.2.2.1.kids, (eSol false).f v5.1.2.2.2.2.2.1.kids, (eSol false).f v5.1.2.2.2.2.2.2.1.kids, (eSol false).f v5.1.2.2.2.2.2.2.2.kids] (bl v6) [])] (ocons (Enc.share (eSol true) (eSol false) (sSol true) v3.1.1.kids) (ocons (Enc.share (eSol true) (eSol false) (sSol true) v3.1.2.1.kids) (ocons (Enc.share (eSol true) (eSol false) (sSol true) v3.1.2.2.1.kids) (ocons (Enc.share (eSol true) (eSol false) (sSol true) v3.1.2.2.2.1.kids) (ocons (Enc.share (eSol true) (eSol false) (sSol true) v3.1.2.2.2.2.1.kids) (ocons (Enc.share (eSol true) (eSol false) (sSol true) v3.1.2.2.2.2.2.1.kids) (ocons (Enc.share (eSol true) (eSol false) (sSol true) v3.1.2.2.2.2.2.2.1.kids) (ocons (Enc.share (eSol true) (eSol false) (sSol true) v3.1.2.2.2.2.2.2.2.kids) (ocons (Tlaws_toDesk (Y := Y) n a0 _ hv5) (ocons (Tlaws_eqDesk (Y := Y) n v3 v5 _ hv6) (ocons (Enc.share (eSol true) (eSol false) (sSol true) v5.1.1.kids) (ocons (Enc.share (eSol true) (eSol false) (sSol true) v5.1.2.1.kids) (ocons (Enc.share (eSol true) (eSol false) (sSol true) v5.1.2.2.1.kids) (ocons (Enc.share (eSol true) (eSol false) (sSol true) v5.1.2.2.2.1.kids) (ocons (Enc.share (eSol true) (eSol false) (sSol true) v5.1.2.2.2.2.1.kids) (ocons (Enc.share (eSol true) (eSol false) (sSol true) v5.1.2.2.2.2.2.1.kids) (ocons (Enc.share (eSol true) (eSol false) (sSol true) v5.1.2.2.2.2.2.2.1.kids) (ocons (Enc.share (eSol true) (eSol false) (sSol true) v5.1.2.2.2.2.2.2.2.kids) onil)))))))))))))))))) h (by kernel_rfl) (fun h => ?_) (fun h => ?_)
      · replace h := Option.some.inj h; subst h
        exact x_end 4 [] [] onil onil (by kernel_rfl)
      · replace h := Option.some.inj h; subst h
        exact x_end 5 [] [] onil onil (by kernel_rfl)
/-! spec.Held -/
def Dspec_Held (n : Nat) (a0 : ((Sol × Sol × Sol × Sol × Sol × Sol × Sol × Sol) × (Bool × Bool × Bool × Bool × Bool × Bool × Bool × Bool))) : Option Int :=
  (Dspec_DeskOk n a0).bind fun v0 => frk v0 ((Dspec_l8Count n a0.1.1 301).bind fun v1 => (Dspec_DeskOk n a0).bind fun v2 => frk v2 ((Dspec_l8Count n a0.1.2.1 301).bind fun v3 => (Dspec_DeskOk n a0).bind fun v4 => frk v4 ((Dspec_l8Count n a0.1.2.2.1 301).bind fun v5 => (Dspec_DeskOk n a0).bind fun v6 => frk v6 ((Dspec_l8Count n a0.1.2.2.2.1 301).bind fun v7 => (Dspec_DeskOk n a0).bind fun v8 => frk v8 ((Dspec_l8Count n a0.1.2.2.2.2.1 301).bind fun v9 => (Dspec_DeskOk n a0).bind fun v10 => frk v10 ((Dspec_l8Count n a0.1.2.2.2.2.2.1 301).bind fun v11 => (Dspec_DeskOk n a0).bind fun v12 => frk v12 ((Dspec_l8Count n a0.1.2.2.2.2.2.2.1 301).bind fun v13 => (Dspec_DeskOk n a0).bind fun v14 => frk v14 ((Dspec_l8Count n a0.1.2.2.2.2.2.2.2 301).bind fun v15 => some (w64 ((w64 ((w64 ((w64 ((w64 ((w64 ((w64 ((w64 (0 + v1)) + v3)) + v5)) + v7)) + v9)) + v11)) + v13)) + v15))) (some (w64 ((w64 ((w64 ((w64 ((w64 ((w64 ((w64 (0 + v1)) + v3)) + v5)) + v7)) + v9)) + v11)) + v13)))) (some (w64 ((w64 ((w64 ((w64 ((w64 ((w64 (0 + v1)) + v3)) + v5)) + v7)) + v9)) + v11)))) (some (w64 ((w64 ((w64 ((w64 ((w64 (0 + v1)) + v3)) + v5)) + v7)) + v9)))) (some (w64 ((w64 ((w64 ((w64 (0 + v1)) + v3)) + v5)) + v7)))) (some (w64 ((w64 ((w64 (0 + v1)) + v3)) + v5)))) (some (w64 ((w64 (0 + v1)) + v3)))) (some (w64 (0 + v1)))) (some 0)
theorem Tspec_Held {Y} (n : Nat) (a0 : ((Sol × Sol × Sol × Sol × Sol × Sol × Sol × Sol) × (Bool × Bool × Bool × Bool × Bool × Bool × Bool × Bool))) (r : Int) (h : Dspec_Held n a0 = some r) : Big Try.prog H Y (.call 42 [.agg (cT54 a0)] (lk []) (i64 r) (lk [])) := by
  unfold Dspec_Held at h
  refine x_call (fn := Try.f42) (c := bodyOf Try.f42) (bs0 := []) Try.func42 (by kernel_rfl) (by kernel_rfl) ?_
  obtain ⟨v0, hv0, h⟩ := bind_some h
  refine x_frk 26 [(8, .call [] [] (bl v0) [])] (ocons (Tspec_DeskOk (Y := Y) n a0 _ hv0) onil) h (by kernel_rfl) (fun h => ?_) (fun h => ?_)
  · obtain ⟨v1, hv1, h⟩ := bind_some h
    obtain ⟨v2, hv2, h⟩ := bind_some h
    refine x_frk 31 [(5, .call [] [] (i64 v1) []), (9, .call [] [] (bl v2) [])] (ocons (Tspec_l8Count (Y := Y) n a0.1.1 301 _ hv1) (ocons (Tspec_DeskOk (Y := Y) n a0 _ hv2) onil)) h (by kernel_rfl) (fun h => ?_) (fun h => ?_)
    · obtain ⟨v3, hv3, h⟩ := bind_some h
      obtain ⟨v4, hv4, h⟩ := bind_some h
      refine x_frk 31 [(5, .call [] [] (i64 v3) []), (9, .call [] [] (bl v4) [])] (ocons (Tspec_l8Count (Y := Y) n a0.1.2.1 301 _ hv3) (ocons (Tspec_DeskOk (Y := Y) n a0 _ hv4) onil)) h (by kernel_rfl) (fun h => ?_) (fun h => ?_)
      · obtain ⟨v5, hv5, h⟩ := bind_some h
        obtain ⟨v6, hv6, h⟩ := bind_some h
        refine x_frk 31 [(5, .call [] [] (i64 v5) []), (9, .call [] [] (bl v6) [])] (ocons (Tspec_l8Count (Y := Y) n a0.1.2.2.1 301 _ hv5) (ocons (Tspec_DeskOk (Y := Y) n a0 _ hv6) onil)) h (by kernel_rfl) (fun h => ?_) (fun h => ?_)
        · obtain ⟨v7, hv7, h⟩ := bind_some h
          obtain ⟨v8, hv8, h⟩ := bind_some h
          refine x_frk 31 [(5, .call [] [] (i64 v7) []), (9, .call [] [] (bl v8) [])] (ocons (Tspec_l8Count (Y := Y) n a0.1.2.2.2.1 301 _ hv7) (ocons (Tspec_DeskOk (Y := Y) n a0 _ hv8) onil)) h (by kernel_rfl) (fun h => ?_) (fun h => ?_)
          · obtain ⟨v9, hv9, h⟩ := bind_some h
            obtain ⟨v10, hv10, h⟩ := bind_some h
            refine x_frk 31 [(5, .call [] [] (i64 v9) []), (9, .call [] [] (bl v10) [])] (ocons (Tspec_l8Count (Y := Y) n a0.1.2.2.2.2.1 301 _ hv9) (ocons (Tspec_DeskOk (Y := Y) n a0 _ hv10) onil)) h (by kernel_rfl) (fun h => ?_) (fun h => ?_)
            · obtain ⟨v11, hv11, h⟩ := bind_some h
              obtain ⟨v12, hv12, h⟩ := bind_some h
              refine x_frk 31 [(5, .call [] [] (i64 v11) []), (9, .call [] [] (bl v12) [])] (ocons (Tspec_l8Count (Y := Y) n a0.1.2.2.2.2.2.1 301 _ hv11) (ocons (Tspec_DeskOk (Y := Y) n a0 _ hv12) onil)) h (by kernel_rfl) (fun h => ?_) (fun h => ?_)
              · obtain ⟨v13, hv13, h⟩ := bind_some h
                obtain ⟨v14, hv14, h⟩ := bind_some h
                refine x_frk 31 [(5, .call [] [] (i64 v13) []), (9, .call [] [] (bl v14) [])] (ocons (Tspec_l8Count (Y := Y) n a0.1.2.2.2.2.2.2.1 301 _ hv13) (ocons (Tspec_DeskOk (Y := Y) n a0 _ hv14) onil)) h (by kernel_rfl) (fun h => ?_) (fun h => ?_)
                · obtain ⟨v15, hv15, h⟩ := bind_some h
                  replace h := Option.some.inj h; subst h
                  exact x_end 38 [(5, .call [] [] (i64 v15) [])] [] (ocons (Tspec_l8Count (Y := Y) n a0.1.2.2.2.2.2.2.2 301 _ hv15) onil) onil (by kernel_rfl)
                · replace h := Option.some.inj h; subst h
                  exact x_end 6 [] [] onil onil (by kernel_rfl)
              · replace h := Option.some.inj h; subst h
                exact x_end 6 [] [] onil onil (by kernel_rfl)
            · replace h := Option.some.inj h; subst h
              exact x_end 6 [] [] onil onil (by kernel_rfl)
          · replace h := Option.some.inj h; subst h
            exact x_end 6 [] [] onil onil (by kernel_rfl)
        · replace h := Option.some.inj h; subst h
          exact x_end 6 [] [] onil onil (by kernel_rfl)
      · replace h := Option.some.inj h; subst h
        exact x_end 6 [] [] onil onil (by kernel_rfl)
    · replace h := Option.some.inj h; subst h
      exact x_end 6 [] [] onil onil (by kernel_rfl)
  · replace h := Option.some.inj h; subst h
    exact x_end 6 [] [] onil onil (by kernel_rfl)
/-! impl.Held -/
def Dimpl_Held (n : Nat) (a0 : ((Sol × Sol × Sol × Sol × Sol × Sol × Sol × Sol) × (Bool × Bool × Bool × Bool × Bool × Bool × Bool × Bool))) : Option Int :=
  (Dimpl_DeskOk n a0).bind fun v0 => frk (!v0) (some 0) ((Dimpl_Desk_held n a0).bind fun v1 => some v1)
theorem Timpl_Held {Y} (n : Nat) (a0 : ((Sol × Sol × Sol × Sol × Sol × Sol × Sol × Sol) × (Bool × Bool × Bool × Bool × Bool × Bool × Bool × Bool))) (r : Int) (h : Dimpl_Held n a0 = some r) : Big Try.prog H Y (.call 43 [.agg (cT54 a0)] (lk []) (i64 r) (lk [])) := by
  unfold Dimpl_Held at h
  refine x_call (fn := Try.f43) (c := bodyOf Try.f43) (bs0 := []) Try.func43 (by kernel_rfl) (by kernel_rfl) ?_
  obtain ⟨v0, hv0, h⟩ := bind_some h
  refine x_frk 12 [(3, .call [] [] (bl v0) [])] (ocons (Timpl_DeskOk (Y := Y) n a0 _ hv0) onil) h (by kernel_rfl) (fun h => ?_) (fun h => ?_)
  · replace h := Option.some.inj h; subst h
    exact x_end 4 [] [] onil onil (by kernel_rfl)
  · obtain ⟨v1, hv1, h⟩ := bind_some h
    replace h := Option.some.inj h; subst h
    exact x_end 6 [(0, .call [] [] (i64 v1) [])] [] (ocons (Timpl_Desk_held (Y := Y) n a0 [] _ hv1) onil) onil (by kernel_rfl)
/-! laws.FnExactHeld -/
def Dlaws_FnExactHeld (n : Nat) (a0 : ((Sol × Sol × Sol × Sol × Sol × Sol × Sol × Sol) × (Bool × Bool × Bool × Bool × Bool × Bool × Bool × Bool))) : Option Bool :=
  (Dlaws_szDesk n a0 1048576).bind fun v0 => frk (decide (v0 < 0)) (some true) ((Dlaws_toDesk n a0).bind fun v1 => (Dspec_Held n v1).bind fun v2 => (Dlaws_toDesk n a0).bind fun v3 => (Dimpl_Held n v3).bind fun v4 => frk (v4 != v2) (some false) ((Dlaws_toDesk n a0).bind fun v5 => (Dlaws_eqDesk n v3 v5).bind fun v6 => frk (!v6) (some false) (some true)))
theorem Tlaws_FnExactHeld {Y} (n : Nat) (a0 : ((Sol × Sol × Sol × Sol × Sol × Sol × Sol × Sol) × (Bool × Bool × Bool × Bool × Bool × Bool × Bool × Bool))) (r : Bool) (h : Dlaws_FnExactHeld n a0 = some r) : Big Try.prog H Y (.call 11 [.agg (cT49 a0)] (lk []) (bl r) (lk [])) := by
  unfold Dlaws_FnExactHeld at h
  refine x_call (fn := Try.f11) (c := bodyOf Try.f11) (bs0 := []) Try.func11 (by kernel_rfl) (by kernel_rfl) ?_
  obtain ⟨v0, hv0, h⟩ := bind_some h
  refine x_frk 22 [(5, .call [] [] (i64 v0) [])] (ocons (Tlaws_szDesk (Y := Y) n a0 1048576 _ hv0) onil) h (by kernel_rfl) (fun h => ?_) (fun h => ?_)
  · replace h := Option.some.inj h; subst h
    exact x_end 4 [] [] onil onil (by kernel_rfl)
  · obtain ⟨v1, hv1, h⟩ := bind_some h
    obtain ⟨v2, hv2, h⟩ := bind_some h
    obtain ⟨v3, hv3, h⟩ := bind_some h
    obtain ⟨v4, hv4, h⟩ := bind_some h
    refine x_frk 28 [(1, .call [] [] (.agg (cT54o v1)) []), (0, .call [] [(eSol false).f v1.1.1.kids, (eSol false).f v1.1.2.1.kids, (eSol false).f v1.1.2.2.1.kids, (eSol false).f v1.1.2.2.2.1.kids, (eSol false).f v1.1.2.2.2.2.1.kids, (eSol false).f v1.1.2.2.2.2.2.1.kids, (eSol false).f v1.1.2.2.2.2.2.2.1.kids, (eSol false).f v1.1.2.2.2.2.2.2.2.kids] (i64 v2) []), (2, .call [] [] (.agg (cT54o v3)) []), (2, .rows [(eSol false).f v3.1.1.kids, (eSol false).f v3.1.2.1.kids, (eSol false).f v3.1.2.2.1.kids, (eSol false).f v3.1.2.2.2.1.kids, (eSol false).f v3.1.2.2.2.2.1.kids, (eSol false).f v3.1.2.2.2.2.2.1.kids, (eSol false).f v3.1.2.2.2.2.2.2.1.kids, (eSol false).f v3.1.2.2.2.2.2.2.2.kids]), (0, .call [] [] (i64 v4) [])] (ocons (Tlaws_toDesk (Y := Y) n a0 _ hv1) (ocons (Tspec_Held (Y := Y) n v1 _ hv2) (ocons (Enc.share (eSol true) (eSol false) (sSol true) v1.1.1.kids) (ocons (Enc.share (eSol true) (eSol false) (sSol true) v1.1.2.1.kids) (ocons (Enc.share (eSol true) (eSol false) (sSol true) v1.1.2.2.1.kids) (ocons (Enc.share (eSol true) (eSol false) (sSol true) v1.1.2.2.2.1.kids) (ocons (Enc.share (eSol true) (eSol false) (sSol true) v1.1.2.2.2.2.1.kids) (ocons (Enc.share (eSol true) (eSol false) (sSol true) v1.1.2.2.2.2.2.1.kids) (ocons (Enc.share (eSol true) (eSol false) (sSol true) v1.1.2.2.2.2.2.2.1.kids) (ocons (Enc.share (eSol true) (eSol false) (sSol true) v1.1.2.2.2.2.2.2.2.kids) (ocons (Tlaws_toDesk (Y := Y) n a0 _ hv3) (ocons (Enc.share (eSol true) (eSol false) (sSol true) v3.1.1.kids) (ocons (Enc.share (eSol true) (eSol false) (sSol true) v3.1.2.1.kids) (ocons (Enc.share (eSol true) (eSol false) (sSol true) v3.1.2.2.1.kids) (ocons (Enc.share (eSol true) (eSol false) (sSol true) v3.1.2.2.2.1.kids) (ocons (Enc.share (eSol true) (eSol false) (sSol true) v3.1.2.2.2.2.1.kids) (ocons (Enc.share (eSol true) (eSol false) (sSol true) v3.1.2.2.2.2.2.1.kids) (ocons (Enc.share (eSol true) (eSol false) (sSol true) v3.1.2.2.2.2.2.2.1.kids) (ocons (Enc.share (eSol true) (eSol false) (sSol true) v3.1.2.2.2.2.2.2.2.kids) (ocons (Timpl_Held (Y := Y) n v3 _ hv4) onil)))))))))))))))))))) h (by kernel_rfl) (fun h => ?_) (fun h => ?_)
    · replace h := Option.some.inj h; subst h
      exact x_end 4 [] [] onil onil (by kernel_rfl)
    · obtain ⟨v5, hv5, h⟩ := bind_some h
      obtain ⟨v6, hv6, h⟩ := bind_some h
      refine x_frk 10 [(0, .rows [(eSol false).f v3.1.1.kids, (eSol false).f v3.1.2.1.kids, (eSol false).f v3.1.2.2.1.kids, (eSol false).f v3.1.2.2.2.1.kids, (eSol false).f v3.1.2.2.2.2.1.kids, (eSol false).f v3.1.2.2.2.2.2.1.kids, (eSol false).f v3.1.2.2.2.2.2.2.1.kids, (eSol false).f v3.1.2.2.2.2.2.2.2.kids]), (1, .call [] [] (.agg (cT54o v5)) []), (0, .call [] [(eSol false).f v5.1.1.kids, (eSol false).f v5.1.2.1.kids, (eSol false).f v5.1.2.2.1.kids, (eSol false).f v5.1.2.2.2.1.kids, (eSol false).f v5.1.2.2.2.2.1.kids, (eSol false).f v5.1.2.2.2.2.2.1.kids, (eSol false).f v5.1.2.2.2.2.2.2.1.kids, (eSol false).f v5.1.2.2.2.2.2.2.2.kids] (bl v6) [])] (ocons (Enc.share (eSol true) (eSol false) (sSol true) v3.1.1.kids) (ocons (Enc.share (eSol true) (eSol false) (sSol true) v3.1.2.1.kids) (ocons (Enc.share (eSol true) (eSol false) (sSol true) v3.1.2.2.1.kids) (ocons (Enc.share (eSol true) (eSol false) (sSol true) v3.1.2.2.2.1.kids) (ocons (Enc.share (eSol true) (eSol false) (sSol true) v3.1.2.2.2.2.1.kids) (ocons (Enc.share (eSol true) (eSol false) (sSol true) v3.1.2.2.2.2.2.1.kids) (ocons (Enc.share (eSol true) (eSol false) (sSol true) v3.1.2.2.2.2.2.2.1.kids) (ocons (Enc.share (eSol true) (eSol false) (sSol true) v3.1.2.2.2.2.2.2.2.kids) (ocons (Tlaws_toDesk (Y := Y) n a0 _ hv5) (ocons (Tlaws_eqDesk (Y := Y) n v3 v5 _ hv6) (ocons (Enc.share (eSol true) (eSol false) (sSol true) v5.1.1.kids) (ocons (Enc.share (eSol true) (eSol false) (sSol true) v5.1.2.1.kids) (ocons (Enc.share (eSol true) (eSol false) (sSol true) v5.1.2.2.1.kids) (ocons (Enc.share (eSol true) (eSol false) (sSol true) v5.1.2.2.2.1.kids) (ocons (Enc.share (eSol true) (eSol false) (sSol true) v5.1.2.2.2.2.1.kids) (ocons (Enc.share (eSol true) (eSol false) (sSol true) v5.1.2.2.2.2.2.1.kids) (ocons (Enc.share (eSol true) (eSol false) (sSol true) v5.1.2.2.2.2.2.2.1.kids) (ocons (Enc.share (eSol true) (eSol false) (sSol true) v5.1.2.2.2.2.2.2.2.kids) onil)))))))))))))))))) h (by kernel_rfl) (fun h => ?_) (fun h => ?_)
      · replace h := Option.some.inj h; subst h
        exact x_end 4 [] [] onil onil (by kernel_rfl)
      · replace h := Option.some.inj h; subst h
        exact x_end 5 [] [] onil onil (by kernel_rfl)
end Evl.T
