/- Walks. No condition. -/
import Derived.Test.YtjmnnljfhoeaaaaWy
namespace Evl.T
open Go Evl Go.Proofs
set_option maxRecDepth 100000
/-! spec.l6With -/
def Dspec_l6With_0 (n : Nat) (rec1 : Int → Option Bool) (_rec0 : Int → Option Bool) (t6 : Int) (t0 : List Pl) (t5 b3_0 b3_1 b3_2 b3_3 t7 : Int) (rec2 : Int → Option Bool) (a : Int) : Option Bool :=
  match a with
  | t8 => frk (decide (t8 < t5)) ((lget t0 t6).bind fun v5 => (lget t0 t7).bind fun v6 => (lget t0 t8).bind fun v7 => (Dspec_l6Clash4 n v5 v6 v7 (Pl.mk b3_0 b3_1 b3_2 b3_3)).bind fun v8 => frk v8 (some true) (rec2 (w64 (t8 + 1)))) (rec1 (w64 (t7 + 1)))
theorem Tspec_l6With_0 {Y} (n : Nat) (rec1 : Int → Option Bool) (rec0 : Int → Option Bool) (t6 : Int) (t0 : List Pl) (t5 b3_0 b3_1 b3_2 b3_3 : Int) (hrec1 : ∀ (a : Int) (r : Bool), rec1 a = some r → Wk Try.prog H Y 82 [.code (cp [1, 1, 0, 1, 0, 0, 1, 0, 0, 1, 1, 0] (bodyOf Try.f82)), .blk 2, .blk 1, .code (cp [1, 1, 0, 1, 0, 0, 1, 1] (bodyOf Try.f82)), .lp (cp [1, 1, 0, 1, 0] (bodyOf Try.f82)), .blk 0, .code (cp [1, 1, 1] (bodyOf Try.f82))] (FinX Try.prog Try.f82 [] (bl r) []) ⟨[(0, .sl false 4 t0.length ((ePl).f t0)), (3, .ptr 3 0), (5, i64 t5), (6, i64 t6), (7, i64 a)], [(3, ⟨true, 0, [i64 b3_0, i64 b3_1, i64 b3_2, i64 b3_3]⟩)]⟩) (_hrec0 : ∀ (a : Int) (r : Bool), rec0 a = some r → Wk Try.prog H Y 82 [.code (cp [1, 1, 0, 1, 0] (bodyOf Try.f82)), .blk 0, .code (cp [1, 1, 1] (bodyOf Try.f82))] (FinX Try.prog Try.f82 [] (bl r) []) ⟨[(0, .sl false 4 t0.length ((ePl).f t0)), (3, .ptr 3 0), (5, i64 t5), (6, i64 a)], [(3, ⟨true, 0, [i64 b3_0, i64 b3_1, i64 b3_2, i64 b3_3]⟩)]⟩) (t7 : Int) : ∀ (m : Nat) (a : Int) (r : Bool), loopN (Dspec_l6With_0 n rec1 rec0 t6 t0 t5 b3_0 b3_1 b3_2 b3_3 t7) m a = some r → Wk Try.prog H Y 82 [.code (cp [1, 1, 0, 1, 0, 0, 1, 0, 0, 1, 1, 0, 0, 1, 0, 0, 1, 1, 0] (bodyOf Try.f82)), .blk 4, .blk 3, .code (cp [1, 1, 0, 1, 0, 0, 1, 0, 0, 1, 1, 0, 0, 1, 1] (bodyOf Try.f82)), .lp (cp [1, 1, 0, 1, 0, 0, 1, 0, 0, 1, 1, 0] (bodyOf Try.f82)), .blk 2, .blk 1, .code (cp [1, 1, 0, 1, 0, 0, 1, 1] (bodyOf Try.f82)), .lp (cp [1, 1, 0, 1, 0] (bodyOf Try.f82)), .blk 0, .code (cp [1, 1, 1] (bodyOf Try.f82))] (FinX Try.prog Try.f82 [] (bl r) []) ⟨[(0, .sl false 4 t0.length ((ePl).f t0)), (3, .ptr 3 0), (5, i64 t5), (6, i64 t6), (7, i64 t7), (8, i64 a)], [(3, ⟨true, 0, [i64 b3_0, i64 b3_1, i64 b3_2, i64 b3_3]⟩)]⟩ := by
  refine loopN_ind (fun _rec2 hrec2 a r h => ?_)
  obtain ⟨t8, rfl⟩ : ∃ x, x = a := ⟨a, rfl⟩
  unfold Dspec_l6With_0 at h
  refine x_frk 8 [] onil h (by kernel_rfl) (fun h => ?_) (fun h => ?_)
  · obtain ⟨v5, hv5, h⟩ := bind_some h
    obtain ⟨v6, hv6, h⟩ := bind_some h
    obtain ⟨v7, hv7, h⟩ := bind_some h
    obtain ⟨v8, hv8, h⟩ := bind_some h
    refine x_frk 20 [(2, .val (.cptr (ePl.c v5 ++ (ePl).f ((t0).drop (Int.toNat t6 + 1))))), (3, .val (.cptr (ePl.c v6 ++ (ePl).f ((t0).drop (Int.toNat t7 + 1))))), (3, .val (.cptr (ePl.c v7 ++ (ePl).f ((t0).drop (Int.toNat t8 + 1))))), (2, .call [] [] (bl v8) [])] (ocons (ix ePl hv5) (ocons (ix ePl hv6) (ocons (ix ePl hv7) (ocons (Tspec_l6Clash4 (Y := Y) n v5 v6 v7 (Pl.mk b3_0 b3_1 b3_2 b3_3) _ hv8) onil)))) h (by kernel_rfl) (fun h => ?_) (fun h => ?_)
    · replace h := Option.some.inj h; subst h
      exact x_end 4 [] [] onil onil (by kernel_rfl)
    · exact x_to 8 [] onil (hrec2 (w64 (t8 + 1)) r h) (by kernel_rfl)
  · exact x_to 8 [] onil (hrec1 (w64 (t7 + 1)) r h) (by kernel_rfl)
def Dspec_l6With_1 (n : Nat) (rec0 : Int → Option Bool) (t0 : List Pl) (t5 b3_0 b3_1 b3_2 b3_3 t6 : Int) (rec1 : Int → Option Bool) (a : Int) : Option Bool :=
  match a with
  | t7 => frk (decide (t7 < t5)) ((lget t0 t6).bind fun v2 => (lget t0 t7).bind fun v3 => (Dspec_l6Clash3 n v2 v3 (Pl.mk b3_0 b3_1 b3_2 b3_3)).bind fun v4 => frk v4 (some true) (loopN (Dspec_l6With_0 n rec1 rec0 t6 t0 t5 b3_0 b3_1 b3_2 b3_3 t7) n (w64 (t7 + 1)))) (rec0 (w64 (t6 + 1)))
theorem Tspec_l6With_1 {Y} (n : Nat) (rec0 : Int → Option Bool) (t0 : List Pl) (t5 b3_0 b3_1 b3_2 b3_3 : Int) (hrec0 : ∀ (a : Int) (r : Bool), rec0 a = some r → Wk Try.prog H Y 82 [.code (cp [1, 1, 0, 1, 0] (bodyOf Try.f82)), .blk 0, .code (cp [1, 1, 1] (bodyOf Try.f82))] (FinX Try.prog Try.f82 [] (bl r) []) ⟨[(0, .sl false 4 t0.length ((ePl).f t0)), (3, .ptr 3 0), (5, i64 t5), (6, i64 a)], [(3, ⟨true, 0, [i64 b3_0, i64 b3_1, i64 b3_2, i64 b3_3]⟩)]⟩) (t6 : Int) : ∀ (m : Nat) (a : Int) (r : Bool), loopN (Dspec_l6With_1 n rec0 t0 t5 b3_0 b3_1 b3_2 b3_3 t6) m a = some r → Wk Try.prog H Y 82 [.code (cp [1, 1, 0, 1, 0, 0, 1, 0, 0, 1, 1, 0] (bodyOf Try.f82)), .blk 2, .blk 1, .code (cp [1, 1, 0, 1, 0, 0, 1, 1] (bodyOf Try.f82)), .lp (cp [1, 1, 0, 1, 0] (bodyOf Try.f82)), .blk 0, .code (cp [1, 1, 1] (bodyOf Try.f82))] (FinX Try.prog Try.f82 [] (bl r) []) ⟨[(0, .sl false 4 t0.length ((ePl).f t0)), (3, .ptr 3 0), (5, i64 t5), (6, i64 t6), (7, i64 a)], [(3, ⟨true, 0, [i64 b3_0, i64 b3_1, i64 b3_2, i64 b3_3]⟩)]⟩ := by
  refine loopN_ind (fun rec1 hrec1 a r h => ?_)
  obtain ⟨t7, rfl⟩ : ∃ x, x = a := ⟨a, rfl⟩
  unfold Dspec_l6With_1 at h
  refine x_frk 8 [] onil h (by kernel_rfl) (fun h => ?_) (fun h => ?_)
  · obtain ⟨v2, hv2, h⟩ := bind_some h
    obtain ⟨v3, hv3, h⟩ := bind_some h
    obtain ⟨v4, hv4, h⟩ := bind_some h
    refine x_frk 17 [(2, .val (.cptr (ePl.c v2 ++ (ePl).f ((t0).drop (Int.toNat t6 + 1))))), (3, .val (.cptr (ePl.c v3 ++ (ePl).f ((t0).drop (Int.toNat t7 + 1))))), (2, .call [] [] (bl v4) [])] (ocons (ix ePl hv2) (ocons (ix ePl hv3) (ocons (Tspec_l6Clash3 (Y := Y) n v2 v3 (Pl.mk b3_0 b3_1 b3_2 b3_3) _ hv4) onil))) h (by kernel_rfl) (fun h => ?_) (fun h => ?_)
    · replace h := Option.some.inj h; subst h
      exact x_end 4 [] [] onil onil (by kernel_rfl)
    · exact x_to 8 [] onil (Tspec_l6With_0 n rec1 rec0 t6 t0 t5 b3_0 b3_1 b3_2 b3_3 hrec1 hrec0 t7 n (w64 (t7 + 1)) r h) (by kernel_rfl)
  · exact x_to 8 [] onil (hrec0 (w64 (t6 + 1)) r h) (by kernel_rfl)
def Dspec_l6With_2 (n : Nat) (t0 : List Pl) (t5 b3_0 b3_1 b3_2 b3_3 : Int) (rec0 : Int → Option Bool) (a : Int) : Option Bool :=
  match a with
  | t6 => frk (decide (t6 < t5)) ((lget t0 t6).bind fun v0 => (Dspec_l6Clash2 v0 (Pl.mk b3_0 b3_1 b3_2 b3_3)).bind fun v1 => frk v1 (some true) (loopN (Dspec_l6With_1 n rec0 t0 t5 b3_0 b3_1 b3_2 b3_3 t6) n (w64 (t6 + 1)))) (some false)
theorem Tspec_l6With_2 {Y} (n : Nat) (t0 : List Pl) (t5 b3_0 b3_1 b3_2 b3_3 : Int) : ∀ (m : Nat) (a : Int) (r : Bool), loopN (Dspec_l6With_2 n t0 t5 b3_0 b3_1 b3_2 b3_3) m a = some r → Wk Try.prog H Y 82 [.code (cp [1, 1, 0, 1, 0] (bodyOf Try.f82)), .blk 0, .code (cp [1, 1, 1] (bodyOf Try.f82))] (FinX Try.prog Try.f82 [] (bl r) []) ⟨[(0, .sl false 4 t0.length ((ePl).f t0)), (3, .ptr 3 0), (5, i64 t5), (6, i64 a)], [(3, ⟨true, 0, [i64 b3_0, i64 b3_1, i64 b3_2, i64 b3_3]⟩)]⟩ := by
  refine loopN_ind (fun rec0 hrec0 a r h => ?_)
  obtain ⟨t6, rfl⟩ : ∃ x, x = a := ⟨a, rfl⟩
  unfold Dspec_l6With_2 at h
  refine x_frk 8 [] onil h (by kernel_rfl) (fun h => ?_) (fun h => ?_)
  · obtain ⟨v0, hv0, h⟩ := bind_some h
    obtain ⟨v1, hv1, h⟩ := bind_some h
    refine x_frk 13 [(2, .val (.cptr (ePl.c v0 ++ (ePl).f ((t0).drop (Int.toNat t6 + 1))))), (2, .call [] [] (bl v1) [])] (ocons (ix ePl hv0) (ocons (Tspec_l6Clash2 (Y := Y) v0 (Pl.mk b3_0 b3_1 b3_2 b3_3) _ hv1) onil)) h (by kernel_rfl) (fun h => ?_) (fun h => ?_)
    · replace h := Option.some.inj h; subst h
      exact x_end 4 [] [] onil onil (by kernel_rfl)
    · exact x_to 8 [] onil (Tspec_l6With_1 n rec0 t0 t5 b3_0 b3_1 b3_2 b3_3 hrec0 t6 n (w64 (t6 + 1)) r h) (by kernel_rfl)
  · replace h := Option.some.inj h; subst h
    exact x_end 5 [] [] onil onil (by kernel_rfl)
def Dspec_l6With (n : Nat) (a0 : (List Pl)) (a1 : Pl) : Option Bool :=
  loopN (Dspec_l6With_2 n a0 (a0.length : Int) a1.A a1.B a1.C a1.D) n 0
theorem Tspec_l6With {Y} (n : Nat) (a0 : (List Pl)) (a1 : Pl) (r : Bool) (h : Dspec_l6With n a0 a1 = some r) : Big Try.prog H Y (.call 82 [.sl false 4 a0.length ((ePl).f a0), .agg [i64 a1.A, i64 a1.B, i64 a1.C, i64 a1.D]] (lk []) (bl r) (lk [])) := by
  unfold Dspec_l6With at h
  refine x_call (fn := Try.f82) (c := bodyOf Try.f82) (bs0 := []) Try.func82 (by kernel_rfl) (by kernel_rfl) ?_
  exact x_to 17 [] onil (Tspec_l6With_2 n a0 (a0.length : Int) a1.A a1.B a1.C a1.D n 0 r h) (by kernel_rfl)
/-! spec.l6Open -/
def Dspec_l6Open_0 (n : Nat) (t0 : List Pl) (rec0 : Int → Option Bool) (a : Int) : Option Bool :=
  match a with
  | t3 => frk (decide (t3 < (t0.length : Int))) ((lsl t0 0 t3).bind fun v0 => (lget t0 t3).bind fun v1 => (Dspec_l6With n v0 v1).bind fun v2 => frk v2 (some false) (rec0 (w64 (t3 + 1)))) (some true)
theorem Tspec_l6Open_0 {Y} (n : Nat) (t0 : List Pl) : ∀ (m : Nat) (a : Int) (r : Bool), loopN (Dspec_l6Open_0 n t0) m a = some r → Wk Try.prog H Y 68 [.code (cp [1, 0, 1, 0] (bodyOf Try.f68)), .blk 0, .code (cp [1, 1] (bodyOf Try.f68))] (FinX Try.prog Try.f68 [] (bl r) []) ⟨[(0, .sl false 4 t0.length ((ePl).f t0)), (3, i64 a)], []⟩ := by
  refine loopN_ind (fun _rec0 hrec0 a r h => ?_)
  obtain ⟨t3, rfl⟩ : ∃ x, x = a := ⟨a, rfl⟩
  unfold Dspec_l6Open_0 at h
  refine x_frk 9 [] onil h (by kernel_rfl) (fun h => ?_) (fun h => ?_)
  · obtain ⟨v0, hv0, h⟩ := bind_some h
    obtain ⟨v1, hv1, h⟩ := bind_some h
    obtain ⟨v2, hv2, h⟩ := bind_some h
    refine x_frk 14 [(2, .val (.sl false 4 v0.length ((ePl).f v0))), (2, .val (.cptr (ePl.c v1 ++ (ePl).f ((t0).drop (Int.toNat t3 + 1))))), (1, .call [] [] (bl v2) [])] (ocons (slF ePl hv0) (ocons (ix ePl hv1) (ocons (Tspec_l6With (Y := Y) n v0 v1 _ hv2) onil))) h (by kernel_rfl) (fun h => ?_) (fun h => ?_)
    · replace h := Option.some.inj h; subst h
      exact x_end 4 [] [] onil onil (by kernel_rfl)
    · exact x_to 8 [] onil (hrec0 (w64 (t3 + 1)) r h) (by kernel_rfl)
  · replace h := Option.some.inj h; subst h
    exact x_end 5 [] [] onil onil (by kernel_rfl)
def Dspec_l6Open (n : Nat) (a0 : (List Pl)) : Option Bool :=
  loopN (Dspec_l6Open_0 n a0) n 1
theorem Tspec_l6Open {Y} (n : Nat) (a0 : (List Pl)) (r : Bool) (h : Dspec_l6Open n a0 = some r) : Big Try.prog H Y (.call 68 [.sl false 4 a0.length ((ePl).f a0)] (lk []) (bl r) (lk [])) := by
  unfold Dspec_l6Open at h
  refine x_call (fn := Try.f68) (c := bodyOf Try.f68) (bs0 := []) Try.func68 (by kernel_rfl) (by kernel_rfl) ?_
  exact x_to 10 [] onil (Tspec_l6Open_0 n a0 n 1 r h) (by kernel_rfl)
/-! spec.Leaf -/
def Dspec_Leaf (a0 : Bool) : Option Sol :=
  some (Sol.mk a0 (Pl.mk 0 0 0 0) [])
theorem Tspec_Leaf {Y} (a0 : Bool) (r : Sol) (h : Dspec_Leaf a0 = some r) : Big Try.prog H Y (.call 69 [bl a0] (lk []) (.agg [bl r.inn, i64 r.pl.A, i64 r.pl.B, i64 r.pl.C, i64 r.pl.D, .sl true 6 r.kids.length ((eSol true).f r.kids)]) (lk [])) := by
  unfold Dspec_Leaf at h
  refine x_call (fn := Try.f69) (c := bodyOf Try.f69) (bs0 := []) Try.func69 (by kernel_rfl) (by kernel_rfl) ?_
  replace h := Option.some.inj h; subst h
  exact x_end 10 [] [(true, 6)] onil onil (by kernel_rfl)
/-! spec.l3Flip -/
def Dspec_l3Flip (a0 : Pl) : Option Pl :=
  some (Pl.mk (w64 (0 - a0.A)) (w64 (0 - a0.B)) (w64 (0 - a0.C)) (w64 (0 - a0.D)))
theorem Tspec_l3Flip {Y} (a0 : Pl) (r : Pl) (h : Dspec_l3Flip a0 = some r) : Big Try.prog H Y (.call 83 [.agg [i64 a0.A, i64 a0.B, i64 a0.C, i64 a0.D]] (lk []) (.agg [i64 r.A, i64 r.B, i64 r.C, i64 r.D]) (lk [])) := by
  unfold Dspec_l3Flip at h
  refine x_call (fn := Try.f83) (c := bodyOf Try.f83) (bs0 := []) Try.func83 (by kernel_rfl) (by kernel_rfl) ?_
  replace h := Option.some.inj h; subst h
  exact x_end 22 [] [] onil onil (by kernel_rfl)
/-! spec.l8Path -/
def Dspec_l8Path (a0 : (List Pl)) (a1 : Pl) : Option (List Pl) :=
  chk (apB 32 (0 + a0.length)) (chk (apB 32 (([] ++ a0).length + 1)) (some (([] ++ a0) ++ [a1])))
theorem Tspec_l8Path {Y} (a0 : (List Pl)) (a1 : Pl) (r : (List Pl)) (h : Dspec_l8Path a0 a1 = some r) : Big Try.prog H Y (.call 50 [.sl false 4 a0.length ((ePl).f a0), .agg [i64 a1.A, i64 a1.B, i64 a1.C, i64 a1.D]] (lk []) (.sl true 4 r.length ((ePl).f r)) (lk [])) := by
  unfold Dspec_l8Path at h
  refine x_call (fn := Try.f50) (c := bodyOf Try.f50) (bs0 := []) Try.func50 (by kernel_rfl) (by kernel_rfl) ?_
  obtain ⟨c0, h⟩ := chk_some h
  obtain ⟨c1, h⟩ := chk_some h
  replace h := Option.some.inj h; subst h
  exact x_end 15 [(4, .app false (List.length ([] ++ a0)) ((ePl).f ([] ++ a0))), (2, .app false (List.length (([] ++ a0) ++ [a1])) ((ePl).f (([] ++ a0) ++ [a1])))] [] (ocons (len_row' (L := []) ePl) (ocons (app_one (L := []) (M := a0) ePl c0) (ocons (app_new (L := []) (M := a0) ePl) (ocons (app_m (L := []) (M := a0) ePl rfl) (ocons (len_row' (L := a0) ePl) (ocons (len_row' (L := ([] ++ a0)) ePl) (ocons (app_one (L := ([] ++ a0)) (M := [a1]) ePl c1) (ocons (app_new (L := ([] ++ a0)) (M := [a1]) ePl) (ocons (app_m (L := ([] ++ a0)) (M := [a1]) ePl rfl) (ocons (len_row' (L := [a1]) ePl) (ocons (Enc.noOwn ePl (fun _ => rfl) [a1]) onil))))))))))) (ocons (len_row (L := (([] ++ a0) ++ [a1])) ePl) onil) (by kernel_rfl)
/-! spec.l8Node -/
def Dspec_l8Nodeo1o2 (a0 : Pl) (a1 : Sol) (a2 : Sol) : Option Sol :=
  some (Sol.mk false a0 [a1, a2])
theorem Tspec_l8Nodeo1o2 {Y} (a0 : Pl) (a1 : Sol) (a2 : Sol) (r : Sol) (h : Dspec_l8Nodeo1o2 a0 a1 a2 = some r) : Big Try.prog H Y (.call 84 [.agg [i64 a0.A, i64 a0.B, i64 a0.C, i64 a0.D], .agg [bl a1.inn, i64 a1.pl.A, i64 a1.pl.B, i64 a1.pl.C, i64 a1.pl.D, .sl true 6 a1.kids.length ((eSol true).f a1.kids)], .agg [bl a2.inn, i64 a2.pl.A, i64 a2.pl.B, i64 a2.pl.C, i64 a2.pl.D, .sl true 6 a2.kids.length ((eSol true).f a2.kids)]] (lk []) (.agg [bl r.inn, i64 r.pl.A, i64 r.pl.B, i64 r.pl.C, i64 r.pl.D, .sl true 6 r.kids.length ((eSol true).f r.kids)]) (lk [])) := by
  unfold Dspec_l8Nodeo1o2 at h
  refine x_call (fn := Try.f84) (c := bodyOf Try.f84) (bs0 := []) Try.func84 (by kernel_rfl) (by kernel_rfl) ?_
  replace h := Option.some.inj h; subst h
  exact x_end 17 [(8, .fixb 10 ⟨true, 6, (eSol true).f [a1, a2]⟩)] [] (ocons (boxSol true true [a1, a2]) onil) (ocons (len_row (L := [a1, a2]) (eSol true)) onil) (by kernel_rfl)
/-! spec.l9Convex -/
def Dspec_l9Convex_0 (_n : Nat) (self : ((List Pl) × (List Pl)) → Option Sol) (rec0 : Int → Option Sol) (t0 : List Pl) (t1 : List Pl) (_b4_0 : Bool) (_b4_1 _b4_2 _b4_3 _b4_4 t5 : Int) (t28 : Bool) : Option Sol :=
  frk t28 ((lget t0 t5).bind fun v5 => (lsl t0 (w64 (t5 + 1)) (t0.length : Int)).bind fun v6 => (lget t0 t5).bind fun v7 => (Dspec_l8Path t1 v7).bind fun v8 => (self (v6, v8)).bind fun v9 => (Dspec_Leaf false).bind fun v10 => (Dspec_l8Nodeo1o2 v5 v9 v10).bind fun v11 => some v11) (rec0 (w64 (t5 + 1)))
theorem Tspec_l9Convex_0 {Y} (n : Nat) (self : ((List Pl) × (List Pl)) → Option Sol) (rec0 : Int → Option Sol) (t0 : List Pl) (t1 : List Pl) (b4_0 : Bool) (b4_1 b4_2 b4_3 b4_4 : Int) (hself : ∀ (a : ((List Pl) × (List Pl))) (r : Sol), self a = some r → Big Try.prog H Y (.call 70 [.sl false 4 a.1.length ((ePl).f a.1), .sl false 4 a.2.length ((ePl).f a.2)] (lk []) (.agg [bl r.inn, i64 r.pl.A, i64 r.pl.B, i64 r.pl.C, i64 r.pl.D, .sl true 6 r.kids.length ((eSol true).f r.kids)]) (lk []))) (hrec0 : ∀ (a : Int) (r : Sol), rec0 a = some r → Wk Try.prog H Y 70 [.code (cp [1, 0, 1, 0] (bodyOf Try.f70)), .blk 0, .code (cp [1, 1] (bodyOf Try.f70))] (FinX Try.prog Try.f70 [] (.agg [bl r.inn, i64 r.pl.A, i64 r.pl.B, i64 r.pl.C, i64 r.pl.D, .sl true 6 r.kids.length ((eSol true).f r.kids)]) []) ⟨[(0, .sl false 4 t0.length ((ePl).f t0)), (1, .sl false 4 t1.length ((ePl).f t1)), (4, .ptr 4 0), (5, i64 a)], [(4, ⟨true, 0, [bl b4_0, i64 b4_1, i64 b4_2, i64 b4_3, i64 b4_4, .nil]⟩)]⟩) (t5 : Int) (t28 : Bool) (r : Sol) (h : Dspec_l9Convex_0 n self rec0 t0 t1 b4_0 b4_1 b4_2 b4_3 b4_4 t5 t28 = some r) : Wk Try.prog H Y 70 [.code (cp [1, 0, 1, 0, 0, 1, 0, 0, 1] (bodyOf Try.f70)), .blk 1, .code (cp [1, 0, 1, 0, 0, 1, 1] (bodyOf Try.f70)), .lp (cp [1, 0, 1, 0] (bodyOf Try.f70)), .blk 0, .code (cp [1, 1] (bodyOf Try.f70))] (FinX Try.prog Try.f70 [] (.agg [bl r.inn, i64 r.pl.A, i64 r.pl.B, i64 r.pl.C, i64 r.pl.D, .sl true 6 r.kids.length ((eSol true).f r.kids)]) []) ⟨[(0, .sl false 4 t0.length ((ePl).f t0)), (1, .sl false 4 t1.length ((ePl).f t1)), (4, .ptr 4 0), (5, i64 t5), (28, bl t28)], [(4, ⟨true, 0, [bl b4_0, i64 b4_1, i64 b4_2, i64 b4_3, i64 b4_4, .nil]⟩)]⟩ := by
  unfold Dspec_l9Convex_0 at h
  refine x_frk 0 [] onil h (by kernel_rfl) (fun h => ?_) (fun h => ?_)
  · obtain ⟨v5, hv5, h⟩ := bind_some h
    obtain ⟨v6, hv6, h⟩ := bind_some h
    obtain ⟨v7, hv7, h⟩ := bind_some h
    obtain ⟨v8, hv8, h⟩ := bind_some h
    obtain ⟨v9, hv9, h⟩ := bind_some h
    obtain ⟨v10, hv10, h⟩ := bind_some h
    obtain ⟨v11, hv11, h⟩ := bind_some h
    replace h := Option.some.inj h; subst h
    exact x_end 21 [(2, .val (.cptr (ePl.c v5 ++ (ePl).f ((t0).drop (Int.toNat t5 + 1))))), (4, .val (.sl false 4 v6.length ((ePl).f v6))), (3, .val (.cptr (ePl.c v7 ++ (ePl).f ((t0).drop (Int.toNat t5 + 1))))), (1, .call [] [] (.sl false 4 v8.length ((ePl).f v8)) []), (0, .call [] [] (.agg [bl v9.inn, i64 v9.pl.A, i64 v9.pl.B, i64 v9.pl.C, i64 v9.pl.D, .sl true 6 v9.kids.length ((eSol true).f v9.kids)]) []), (0, .call [] [] (.agg [bl v10.inn, i64 v10.pl.A, i64 v10.pl.B, i64 v10.pl.C, i64 v10.pl.D, .sl true 6 v10.kids.length ((eSol true).f v10.kids)]) []), (0, .call [] [] (.agg [bl v11.inn, i64 v11.pl.A, i64 v11.pl.B, i64 v11.pl.C, i64 v11.pl.D, .sl true 6 v11.kids.length ((eSol true).f v11.kids)]) [])] [] (ocons (ix ePl hv5) (ocons (slF ePl hv6) (ocons (ix ePl hv7) (ocons (shSl (L := v8) ePl ePl sPl (Tspec_l8Path (Y := Y) t1 v7 _ hv8)) (ocons (hself (v6, v8) _ hv9) (ocons (Tspec_Leaf (Y := Y) false _ hv10) (ocons (Tspec_l8Nodeo1o2 (Y := Y) v5 v9 v10 _ hv11) onil))))))) onil (by kernel_rfl)
  · exact x_to 8 [] onil (hrec0 (w64 (t5 + 1)) r h) (by kernel_rfl)
def Dspec_l9Convex_1 (_n : Nat) (_self : ((List Pl) × (List Pl)) → Option Sol) (_b4_0 : Bool) (_b4_1 _b4_2 _b4_3 _b4_4 : Int) : Option Sol :=
  (Dspec_Leaf true).bind fun v12 => some v12
theorem Tspec_l9Convex_1 {Y} (n : Nat) (self : ((List Pl) × (List Pl)) → Option Sol) (_hself : ∀ (a : ((List Pl) × (List Pl))) (r : Sol), self a = some r → Big Try.prog H Y (.call 70 [.sl false 4 a.1.length ((ePl).f a.1), .sl false 4 a.2.length ((ePl).f a.2)] (lk []) (.agg [bl r.inn, i64 r.pl.A, i64 r.pl.B, i64 r.pl.C, i64 r.pl.D, .sl true 6 r.kids.length ((eSol true).f r.kids)]) (lk []))) (b4_0 : Bool) (b4_1 b4_2 b4_3 b4_4 : Int) (r : Sol) (h : Dspec_l9Convex_1 n self b4_0 b4_1 b4_2 b4_3 b4_4 = some r) : Wk Try.prog H Y 70 [.code (cp [1, 1, 0] (bodyOf Try.f70)), .code (cp [1, 1, 1] (bodyOf Try.f70))] (FinX Try.prog Try.f70 [] (.agg [bl r.inn, i64 r.pl.A, i64 r.pl.B, i64 r.pl.C, i64 r.pl.D, .sl true 6 r.kids.length ((eSol true).f r.kids)]) []) ⟨[(4, .ptr 4 0)], [(4, ⟨true, 0, [bl b4_0, i64 b4_1, i64 b4_2, i64 b4_3, i64 b4_4, .nil]⟩)]⟩ := by
  unfold Dspec_l9Convex_1 at h
  obtain ⟨v12, hv12, h⟩ := bind_some h
  replace h := Option.some.inj h; subst h
  exact x_end 4 [(0, .call [] [] (.agg [bl v12.inn, i64 v12.pl.A, i64 v12.pl.B, i64 v12.pl.C, i64 v12.pl.D, .sl true 6 v12.kids.length ((eSol true).f v12.kids)]) [])] [] (ocons (Tspec_Leaf (Y := Y) true _ hv12) onil) onil (by kernel_rfl)
def Dspec_l9Convex_2 (n : Nat) (self : ((List Pl) × (List Pl)) → Option Sol) (t0 : List Pl) (t1 : List Pl) (b4_0 : Bool) (b4_1 b4_2 b4_3 b4_4 : Int) (rec0 : Int → Option Sol) (a : Int) : Option Sol :=
  match a with
  | t5 => frk (decide (t5 < (t0.length : Int))) ((lget t0 t5).bind fun v0 => (Dspec_l3Flip v0).bind fun v1 => (Dspec_l6With n t1 v1).bind fun v2 => frk (!v2) ((lget t0 t5).bind fun v3 => (Dspec_l6With n t1 v3).bind fun v4 => Dspec_l9Convex_0 n self rec0 t0 t1 b4_0 b4_1 b4_2 b4_3 b4_4 t5 (!v4)) (rec0 (w64 (t5 + 1)))) (Dspec_l9Convex_1 n self b4_0 b4_1 b4_2 b4_3 b4_4)
theorem Tspec_l9Convex_2 {Y} (n : Nat) (self : ((List Pl) × (List Pl)) → Option Sol) (hself : ∀ (a : ((List Pl) × (List Pl))) (r : Sol), self a = some r → Big Try.prog H Y (.call 70 [.sl false 4 a.1.length ((ePl).f a.1), .sl false 4 a.2.length ((ePl).f a.2)] (lk []) (.agg [bl r.inn, i64 r.pl.A, i64 r.pl.B, i64 r.pl.C, i64 r.pl.D, .sl true 6 r.kids.length ((eSol true).f r.kids)]) (lk []))) (t0 : List Pl) (t1 : List Pl) (b4_0 : Bool) (b4_1 b4_2 b4_3 b4_4 : Int) : ∀ (m : Nat) (a : Int) (r : Sol), loopN (Dspec_l9Convex_2 n self t0 t1 b4_0 b4_1 b4_2 b4_3 b4_4) m a = some r → Wk Try.prog H Y 70 [.code (cp [1, 0, 1, 0] (bodyOf Try.f70)), .blk 0, .code (cp [1, 1] (bodyOf Try.f70))] (FinX Try.prog Try.f70 [] (.agg [bl r.inn, i64 r.pl.A, i64 r.pl.B, i64 r.pl.C, i64 r.pl.D, .sl true 6 r.kids.length ((eSol true).f r.kids)]) []) ⟨[(0, .sl false 4 t0.length ((ePl).f t0)), (1, .sl false 4 t1.length ((ePl).f t1)), (4, .ptr 4 0), (5, i64 a)], [(4, ⟨true, 0, [bl b4_0, i64 b4_1, i64 b4_2, i64 b4_3, i64 b4_4, .nil]⟩)]⟩ := by
  refine loopN_ind (fun rec0 hrec0 a r h => ?_)
  obtain ⟨t5, rfl⟩ : ∃ x, x = a := ⟨a, rfl⟩
  unfold Dspec_l9Convex_2 at h
  refine x_frk 9 [] onil h (by kernel_rfl) (fun h => ?_) (fun h => ?_)
  · obtain ⟨v0, hv0, h⟩ := bind_some h
    obtain ⟨v1, hv1, h⟩ := bind_some h
    obtain ⟨v2, hv2, h⟩ := bind_some h
    refine x_frk 14 [(3, .val (.cptr (ePl.c v0 ++ (ePl).f ((t0).drop (Int.toNat t5 + 1))))), (1, .call [] [] (.agg [i64 v1.A, i64 v1.B, i64 v1.C, i64 v1.D]) []), (0, .call [] [] (bl v2) [])] (ocons (ix ePl hv0) (ocons (Tspec_l3Flip (Y := Y) v0 _ hv1) (ocons (Tspec_l6With (Y := Y) n t1 v1 _ hv2) onil))) h (by kernel_rfl) (fun h => ?_) (fun h => ?_)
    · obtain ⟨v3, hv3, h⟩ := bind_some h
      obtain ⟨v4, hv4, h⟩ := bind_some h
      exact x_to 9 [(3, .val (.cptr (ePl.c v3 ++ (ePl).f ((t0).drop (Int.toNat t5 + 1))))), (1, .call [] [] (bl v4) [])] (ocons (ix ePl hv3) (ocons (Tspec_l6With (Y := Y) n t1 v3 _ hv4) onil)) (Tspec_l9Convex_0 n self rec0 t0 t1 b4_0 b4_1 b4_2 b4_3 b4_4 hself hrec0 t5 (!v4) r h) (by kernel_rfl)
    · exact x_to 18 [] onil (hrec0 (w64 (t5 + 1)) r h) (by kernel_rfl)
  · exact x_to 2 [] onil (Tspec_l9Convex_1 n self hself b4_0 b4_1 b4_2 b4_3 b4_4 r h) (by kernel_rfl)
def Dspec_l9Convex_b (n : Nat) (self : ((List Pl) × (List Pl)) → Option Sol) (a : ((List Pl) × (List Pl))) : Option Sol :=
  match a with
  | (a0, a1) => loopN (Dspec_l9Convex_2 n self a0 a1 false 0 0 0 0) n 0
def Dspec_l9Convex (n : Nat) (a0 : (List Pl)) (a1 : (List Pl)) : Option Sol := loopN (Dspec_l9Convex_b n) n (a0, a1)
theorem Tspec_l9Convex_b {Y} (n : Nat) : ∀ (m : Nat) (a : ((List Pl) × (List Pl))) (r : Sol), loopN (Dspec_l9Convex_b n) m a = some r → ∀ (_ : Unit), Big Try.prog H Y (.call 70 [.sl false 4 a.1.length ((ePl).f a.1), .sl false 4 a.2.length ((ePl).f a.2)] (lk []) (.agg [bl r.inn, i64 r.pl.A, i64 r.pl.B, i64 r.pl.C, i64 r.pl.D, .sl true 6 r.kids.length ((eSol true).f r.kids)]) (lk [])) := by
  refine loopN_ind (fun self hs a r h => ?_)
  have hself : ∀ (a : ((List Pl) × (List Pl))) (r : Sol), self a = some r → Big Try.prog H Y (.call 70 [.sl false 4 a.1.length ((ePl).f a.1), .sl false 4 a.2.length ((ePl).f a.2)] (lk []) (.agg [bl r.inn, i64 r.pl.A, i64 r.pl.B, i64 r.pl.C, i64 r.pl.D, .sl true 6 r.kids.length ((eSol true).f r.kids)]) (lk [])) := fun a r h => hs a r h ()
  intro _
  obtain ⟨a0, a1⟩ := a
  unfold Dspec_l9Convex_b at h
  refine x_call (fn := Try.f70) (c := bodyOf Try.f70) (bs0 := []) Try.func70 (by kernel_rfl) (by kernel_rfl) ?_
  exact x_to 10 [] onil (Tspec_l9Convex_2 n self hself a0 a1 false 0 0 0 0 n 0 r h) (by kernel_rfl)
theorem Tspec_l9Convex {Y} (n : Nat) (a0 : (List Pl)) (a1 : (List Pl)) (r : Sol) (h : Dspec_l9Convex n a0 a1 = some r) : Big Try.prog H Y (.call 70 [.sl false 4 a0.length ((ePl).f a0), .sl false 4 a1.length ((ePl).f a1)] (lk []) (.agg [bl r.inn, i64 r.pl.A, i64 r.pl.B, i64 r.pl.C, i64 r.pl.D, .sl true 6 r.kids.length ((eSol true).f r.kids)]) (lk [])) := Tspec_l9Convex_b n n (a0, a1) r h ()
/-! spec.Convex -/
def Dspec_Convex (n : Nat) (a0 : (List Pl)) : Option (Sol × Int) :=
  (Dspec_l6Right n a0).bind fun v0 => frk (!v0) (some ((Sol.mk false (Pl.mk 0 0 0 0) []), 1)) ((Dspec_l6Open n a0).bind fun v1 => frk (!v1) ((Dspec_Leaf false).bind fun v2 => some (v2, 2)) ((Dspec_l9Convex n a0 []).bind fun v3 => some (v3, 0)))
theorem Tspec_Convex {Y} (n : Nat) (a0 : (List Pl)) (r : (Sol × Int)) (h : Dspec_Convex n a0 = some r) : Big Try.prog H Y (.call 27 [.sl false 4 a0.length ((ePl).f a0)] (lk []) (.tup [.agg [bl r.1.inn, i64 r.1.pl.A, i64 r.1.pl.B, i64 r.1.pl.C, i64 r.1.pl.D, .sl true 6 r.1.kids.length ((eSol true).f r.1.kids)], i64 r.2]) (lk [])) := by
  unfold Dspec_Convex at h
  refine x_call (fn := Try.f27) (c := bodyOf Try.f27) (bs0 := []) Try.func27 (by kernel_rfl) (by kernel_rfl) ?_
  obtain ⟨v0, hv0, h⟩ := bind_some h
  refine x_frk 12 [(3, .call [] [] (bl v0) [])] (ocons (Tspec_l6Right (Y := Y) n a0 _ hv0) onil) h (by kernel_rfl) (fun h => ?_) (fun h => ?_)
  · replace h := Option.some.inj h; subst h
    exact x_end 6 [] [(true, 6)] onil onil (by kernel_rfl)
  · obtain ⟨v1, hv1, h⟩ := bind_some h
    refine x_frk 8 [(1, .call [] [] (bl v1) [])] (ocons (Tspec_l6Open (Y := Y) n a0 _ hv1) onil) h (by kernel_rfl) (fun h => ?_) (fun h => ?_)
    · obtain ⟨v2, hv2, h⟩ := bind_some h
      replace h := Option.some.inj h; subst h
      exact x_end 6 [(0, .call [] [] (.agg [bl v2.inn, i64 v2.pl.A, i64 v2.pl.B, i64 v2.pl.C, i64 v2.pl.D, .sl true 6 v2.kids.length ((eSol true).f v2.kids)]) [])] [] (ocons (Tspec_Leaf (Y := Y) false _ hv2) onil) onil (by kernel_rfl)
    · obtain ⟨v3, hv3, h⟩ := bind_some h
      replace h := Option.some.inj h; subst h
      exact x_end 9 [(2, .call [] [(ePl).f []] (.agg [bl v3.inn, i64 v3.pl.A, i64 v3.pl.B, i64 v3.pl.C, i64 v3.pl.D, .sl true 6 v3.kids.length ((eSol true).f v3.kids)]) [])] [] (ocons (Tspec_l9Convex (Y := Y) n a0 [] _ hv3) (ocons (len_row (L := []) ePl) (ocons (Enc.share ePl ePl sPl []) (ocons (show hasSh (.agg [bl v3.inn, i64 v3.pl.A, i64 v3.pl.B, i64 v3.pl.C, i64 v3.pl.D, .sl true 6 v3.kids.length ((eSol true).f v3.kids)]) = false by simp [hasSh, hasShL, nSh, nShI, nShB, nShP, nShT, nShN, nShPs]) onil)))) onil (by kernel_rfl)
/-! spec.Brick -/
def Dspec_Brick (n : Nat) (a0 : Pt) (a1 : Pt) : Option (Sol × Int) :=
  (Dspec_l9Brick n a0 a1).bind fun v0 => frk (v0.2 != 0) (some ((Sol.mk false (Pl.mk 0 0 0 0) []), v0.2)) ((Dspec_Convex n v0.1).bind fun v1 => some v1)
theorem Tspec_Brick {Y} (n : Nat) (a0 : Pt) (a1 : Pt) (r : (Sol × Int)) (h : Dspec_Brick n a0 a1 = some r) : Big Try.prog H Y (.call 16 [.agg [i64 a0.X, i64 a0.Y, i64 a0.Z], .agg [i64 a1.X, i64 a1.Y, i64 a1.Z]] (lk []) (.tup [.agg [bl r.1.inn, i64 r.1.pl.A, i64 r.1.pl.B, i64 r.1.pl.C, i64 r.1.pl.D, .sl true 6 r.1.kids.length ((eSol true).f r.1.kids)], i64 r.2]) (lk [])) := by
  unfold Dspec_Brick at h
  refine x_call (fn := Try.f16) (c := bodyOf Try.f16) (bs0 := []) Try.func16 (by kernel_rfl) (by kernel_rfl) ?_
  obtain ⟨v0, hv0, h⟩ := bind_some h
  refine x_frk 24 [(6, .call [] [] (.tup [.sl true 4 v0.1.length ((ePl).f v0.1), i64 v0.2]) [])] (ocons (Tspec_l9Brick (Y := Y) n a0 a1 _ hv0) onil) h (by kernel_rfl) (fun h => ?_) (fun h => ?_)
  · replace h := Option.some.inj h; subst h
    exact x_end 7 [] [(true, 6)] onil onil (by kernel_rfl)
  · obtain ⟨v1, hv1, h⟩ := bind_some h
    replace h := Option.some.inj h; subst h
    exact x_end 10 [(1, .call [] [(ePl).f v0.1] (.tup [.agg [bl v1.1.inn, i64 v1.1.pl.A, i64 v1.1.pl.B, i64 v1.1.pl.C, i64 v1.1.pl.D, .sl true 6 v1.1.kids.length ((eSol true).f v1.1.kids)], i64 v1.2]) [])] [] (ocons (Tspec_Convex (Y := Y) n v0.1 _ hv1) (ocons (len_row (L := v0.1) ePl) (ocons (Enc.share ePl ePl sPl v0.1) (ocons (show hasSh (.tup [.agg [bl v1.1.inn, i64 v1.1.pl.A, i64 v1.1.pl.B, i64 v1.1.pl.C, i64 v1.1.pl.D, .sl true 6 v1.1.kids.length ((eSol true).f v1.1.kids)], i64 v1.2]) = false by simp [hasSh, hasShL, nSh, nShI, nShB, nShP, nShT, nShN, nShPs]) onil)))) onil (by kernel_rfl)
/-! impl.with -/
def Dimpl_with (a0 : (List Pl)) (a1 : Pl) : Option (List Pl) :=
  chk (apB 32 (0 + a0.length)) (chk (apB 32 (([] ++ a0).length + 1)) (some (([] ++ a0) ++ [a1])))
theorem Timpl_with {Y} (a0 : (List Pl)) (a1 : Pl) (r : (List Pl)) (h : Dimpl_with a0 a1 = some r) : Big Try.prog H Y (.call 49 [.sl false 4 a0.length ((ePl).f a0), .agg [i64 a1.A, i64 a1.B, i64 a1.C, i64 a1.D]] (lk []) (.sl true 4 r.length ((ePl).f r)) (lk [])) := by
  unfold Dimpl_with at h
  refine x_call (fn := Try.f49) (c := bodyOf Try.f49) (bs0 := []) Try.func49 (by kernel_rfl) (by kernel_rfl) ?_
  obtain ⟨c0, h⟩ := chk_some h
  obtain ⟨c1, h⟩ := chk_some h
  replace h := Option.some.inj h; subst h
  exact x_end 15 [(4, .app false (List.length ([] ++ a0)) ((ePl).f ([] ++ a0))), (2, .app false (List.length (([] ++ a0) ++ [a1])) ((ePl).f (([] ++ a0) ++ [a1])))] [] (ocons (len_row' (L := []) ePl) (ocons (app_one (L := []) (M := a0) ePl c0) (ocons (app_new (L := []) (M := a0) ePl) (ocons (app_m (L := []) (M := a0) ePl rfl) (ocons (len_row' (L := a0) ePl) (ocons (len_row' (L := ([] ++ a0)) ePl) (ocons (app_one (L := ([] ++ a0)) (M := [a1]) ePl c1) (ocons (app_new (L := ([] ++ a0)) (M := [a1]) ePl) (ocons (app_m (L := ([] ++ a0)) (M := [a1]) ePl rfl) (ocons (len_row' (L := [a1]) ePl) (ocons (Enc.noOwn ePl (fun _ => rfl) [a1]) onil))))))))))) (ocons (len_row (L := (([] ++ a0) ++ [a1])) ePl) onil) (by kernel_rfl)
/-! impl.Wedge -/
def Dimpl_Wedge (n : Nat) (a0 : Pt) (a1 : Pt) (a2 : Pl) : Option (Sol × Int) :=
  (Dimpl_brickPlanes n a0 a1).bind fun v0 => frk (v0.2 != 0) (some ((Sol.mk false (Pl.mk 0 0 0 0) []), v0.2)) ((Dimpl_with v0.1 a2).bind fun v1 => (Dimpl_Convex n v1).bind fun v2 => some v2)
theorem Timpl_Wedge {Y} (n : Nat) (a0 : Pt) (a1 : Pt) (a2 : Pl) (r : (Sol × Int)) (h : Dimpl_Wedge n a0 a1 a2 = some r) : Big Try.prog H Y (.call 17 [.agg [i64 a0.X, i64 a0.Y, i64 a0.Z], .agg [i64 a1.X, i64 a1.Y, i64 a1.Z], .agg [i64 a2.A, i64 a2.B, i64 a2.C, i64 a2.D]] (lk []) (.tup [.agg [bl r.1.inn, i64 r.1.pl.A, i64 r.1.pl.B, i64 r.1.pl.C, i64 r.1.pl.D, .sl true 6 r.1.kids.length ((eSol true).f r.1.kids)], i64 r.2]) (lk [])) := by
  unfold Dimpl_Wedge at h
  refine x_call (fn := Try.f17) (c := bodyOf Try.f17) (bs0 := []) Try.func17 (by kernel_rfl) (by kernel_rfl) ?_
  obtain ⟨v0, hv0, h⟩ := bind_some h
  refine x_frk 25 [(7, .call [] [] (.tup [.sl true 4 v0.1.length ((ePl).f v0.1), i64 v0.2]) [])] (ocons (Timpl_brickPlanes (Y := Y) n a0 a1 _ hv0) onil) h (by kernel_rfl) (fun h => ?_) (fun h => ?_)
  · replace h := Option.some.inj h; subst h
    exact x_end 7 [] [(true, 6)] onil onil (by kernel_rfl)
  · obtain ⟨v1, hv1, h⟩ := bind_some h
    obtain ⟨v2, hv2, h⟩ := bind_some h
    replace h := Option.some.inj h; subst h
    exact x_end 12 [(2, .call [] [(ePl).f v0.1] (.sl true 4 v1.length ((ePl).f v1)) []), (0, .call [] [(ePl).f v1] (.tup [.agg [bl v2.1.inn, i64 v2.1.pl.A, i64 v2.1.pl.B, i64 v2.1.pl.C, i64 v2.1.pl.D, .sl true 6 v2.1.kids.length ((eSol true).f v2.1.kids)], i64 v2.2]) [])] [] (ocons (Timpl_with (Y := Y) v0.1 a2 _ hv1) (ocons (len_row (L := v0.1) ePl) (ocons (Enc.share ePl ePl sPl v0.1) (ocons (show hasSh (.sl true 4 v1.length ((ePl).f v1)) = false by simp [hasSh, hasShL, nSh, nShI, nShB, nShP, nShT, nShN, nShPs]) (ocons (Timpl_Convex (Y := Y) n v1 _ hv2) (ocons (len_row (L := v1) ePl) (ocons (Enc.share ePl ePl sPl v1) (ocons (show hasSh (.tup [.agg [bl v2.1.inn, i64 v2.1.pl.A, i64 v2.1.pl.B, i64 v2.1.pl.C, i64 v2.1.pl.D, .sl true 6 v2.1.kids.length ((eSol true).f v2.1.kids)], i64 v2.2]) = false by simp [hasSh, hasShL, nSh, nShI, nShB, nShP, nShT, nShN, nShPs]) onil)))))))) onil (by kernel_rfl)
/-! spec.Wedge -/
def Dspec_Wedge (n : Nat) (a0 : Pt) (a1 : Pt) (a2 : Pl) : Option (Sol × Int) :=
  (Dspec_l9Brick n a0 a1).bind fun v0 => frk (v0.2 != 0) (some ((Sol.mk false (Pl.mk 0 0 0 0) []), v0.2)) ((Dspec_l8Path v0.1 a2).bind fun v1 => (Dspec_Convex n v1).bind fun v2 => some v2)
theorem Tspec_Wedge {Y} (n : Nat) (a0 : Pt) (a1 : Pt) (a2 : Pl) (r : (Sol × Int)) (h : Dspec_Wedge n a0 a1 a2 = some r) : Big Try.prog H Y (.call 18 [.agg [i64 a0.X, i64 a0.Y, i64 a0.Z], .agg [i64 a1.X, i64 a1.Y, i64 a1.Z], .agg [i64 a2.A, i64 a2.B, i64 a2.C, i64 a2.D]] (lk []) (.tup [.agg [bl r.1.inn, i64 r.1.pl.A, i64 r.1.pl.B, i64 r.1.pl.C, i64 r.1.pl.D, .sl true 6 r.1.kids.length ((eSol true).f r.1.kids)], i64 r.2]) (lk [])) := by
  unfold Dspec_Wedge at h
  refine x_call (fn := Try.f18) (c := bodyOf Try.f18) (bs0 := []) Try.func18 (by kernel_rfl) (by kernel_rfl) ?_
  obtain ⟨v0, hv0, h⟩ := bind_some h
  refine x_frk 25 [(7, .call [] [] (.tup [.sl true 4 v0.1.length ((ePl).f v0.1), i64 v0.2]) [])] (ocons (Tspec_l9Brick (Y := Y) n a0 a1 _ hv0) onil) h (by kernel_rfl) (fun h => ?_) (fun h => ?_)
  · replace h := Option.some.inj h; subst h
    exact x_end 7 [] [(true, 6)] onil onil (by kernel_rfl)
  · obtain ⟨v1, hv1, h⟩ := bind_some h
    obtain ⟨v2, hv2, h⟩ := bind_some h
    replace h := Option.some.inj h; subst h
    exact x_end 12 [(2, .call [] [(ePl).f v0.1] (.sl true 4 v1.length ((ePl).f v1)) []), (0, .call [] [(ePl).f v1] (.tup [.agg [bl v2.1.inn, i64 v2.1.pl.A, i64 v2.1.pl.B, i64 v2.1.pl.C, i64 v2.1.pl.D, .sl true 6 v2.1.kids.length ((eSol true).f v2.1.kids)], i64 v2.2]) [])] [] (ocons (Tspec_l8Path (Y := Y) v0.1 a2 _ hv1) (ocons (len_row (L := v0.1) ePl) (ocons (Enc.share ePl ePl sPl v0.1) (ocons (show hasSh (.sl true 4 v1.length ((ePl).f v1)) = false by simp [hasSh, hasShL, nSh, nShI, nShB, nShP, nShT, nShN, nShPs]) (ocons (Tspec_Convex (Y := Y) n v1 _ hv2) (ocons (len_row (L := v1) ePl) (ocons (Enc.share ePl ePl sPl v1) (ocons (show hasSh (.tup [.agg [bl v2.1.inn, i64 v2.1.pl.A, i64 v2.1.pl.B, i64 v2.1.pl.C, i64 v2.1.pl.D, .sl true 6 v2.1.kids.length ((eSol true).f v2.1.kids)], i64 v2.2]) = false by simp [hasSh, hasShL, nSh, nShI, nShB, nShP, nShT, nShN, nShPs]) onil)))))))) onil (by kernel_rfl)
/-! laws.at -/
def Dlaws_at (a0 : (List Int)) (a1 : Int) : Option Int :=
  frk (decide (a1 < (a0.length : Int))) ((lget a0 a1).bind fun v0 => some (w64 v0)) (some (Int.tmod (w64 ((w64 (a1 * 31)) + (w64 ((a0.length : Int) * 7)))) 256))
theorem Tlaws_at {Y} (a0 : (List Int)) (a1 r : Int) (h : Dlaws_at a0 a1 = some r) : Big Try.prog H Y (.call 12 [.sl false 1 a0.length ((eU8).f a0), i64 a1] (lk []) (i64 r) (lk [])) := by
  unfold Dlaws_at at h
  refine x_call (fn := Try.f12) (c := bodyOf Try.f12) (bs0 := []) Try.func12 (by kernel_rfl) (by kernel_rfl) ?_
  refine x_frk 12 [] onil h (by kernel_rfl) (fun h => ?_) (fun h => ?_)
  · obtain ⟨v0, hv0, h⟩ := bind_some h
    replace h := Option.some.inj h; subst h
    exact x_end 9 [(2, .val (.cptr (eU8.c v0 ++ (eU8).f ((a0).drop (Int.toNat a1 + 1)))))] [] (ocons (ix eU8 hv0) onil) onil (by kernel_rfl)
  · replace h := Option.some.inj h; subst h
    exact x_end 12 [] [] onil onil (by kernel_rfl)
/-! impl.spotAt -/
def Dimpl_spotAt (a0 : Pt) : Option Spot :=
  some (Spot.mk a0.X a0.Y a0.Z 1)
theorem Timpl_spotAt {Y} (a0 : Pt) (r : Spot) (h : Dimpl_spotAt a0 = some r) : Big Try.prog H Y (.call 53 [.agg [i64 a0.X, i64 a0.Y, i64 a0.Z]] (lk []) (.agg [i64 r.X, i64 r.Y, i64 r.Z, i64 r.W]) (lk [])) := by
  unfold Dimpl_spotAt at h
  refine x_call (fn := Try.f53) (c := bodyOf Try.f53) (bs0 := []) Try.func53 (by kernel_rfl) (by kernel_rfl) ?_
  replace h := Option.some.inj h; subst h
  exact x_end 16 [] [] onil onil (by kernel_rfl)
/-! impl.SpotOk -/
def Dimpl_SpotOk (n : Nat) (a0 : Spot) : Option Bool :=
  (Dimpl_inRange a0.W 1 1000000000).bind fun v0 => frk (!v0) (some false) ((Dimpl_inRange a0.X (-1000000000) 1000000000).bind fun v1 => frk (!v1) (some false) ((Dimpl_inRange a0.Y (-1000000000) 1000000000).bind fun v2 => frk (!v2) (some false) ((Dimpl_inRange a0.Z (-1000000000) 1000000000).bind fun v3 => frk (!v3) (some false) ((Dimpl_divisor n [a0.X, a0.Y, a0.Z, a0.W]).bind fun v4 => some (v4 == 1)))))
theorem Timpl_SpotOk {Y} (n : Nat) (a0 : Spot) (r : Bool) (h : Dimpl_SpotOk n a0 = some r) : Big Try.prog H Y (.call 77 [.agg [i64 a0.X, i64 a0.Y, i64 a0.Z, i64 a0.W]] (lk []) (bl r) (lk [])) := by
  unfold Dimpl_SpotOk at h
  refine x_call (fn := Try.f77) (c := bodyOf Try.f77) (bs0 := []) Try.func77 (by kernel_rfl) (by kernel_rfl) ?_
  obtain ⟨v0, hv0, h⟩ := bind_some h
  refine x_frk 13 [(4, .call [] [] (bl v0) [])] (ocons (Timpl_inRange (Y := Y) a0.W 1 1000000000 _ hv0) onil) h (by kernel_rfl) (fun h => ?_) (fun h => ?_)
  · replace h := Option.some.inj h; subst h
    exact x_end 4 [] [] onil onil (by kernel_rfl)
  · obtain ⟨v1, hv1, h⟩ := bind_some h
    refine x_frk 35 [(12, .call [] [] (bl v1) [])] (ocons (Timpl_inRange (Y := Y) a0.X (-1000000000) 1000000000 _ hv1) onil) h (by kernel_rfl) (fun h => ?_) (fun h => ?_)
    · replace h := Option.some.inj h; subst h
      exact x_end 4 [] [] onil onil (by kernel_rfl)
    · obtain ⟨v2, hv2, h⟩ := bind_some h
      refine x_frk 28 [(6, .call [] [] (bl v2) [])] (ocons (Timpl_inRange (Y := Y) a0.Y (-1000000000) 1000000000 _ hv2) onil) h (by kernel_rfl) (fun h => ?_) (fun h => ?_)
      · replace h := Option.some.inj h; subst h
        exact x_end 4 [] [] onil onil (by kernel_rfl)
      · obtain ⟨v3, hv3, h⟩ := bind_some h
        refine x_frk 28 [(6, .call [] [] (bl v3) [])] (ocons (Timpl_inRange (Y := Y) a0.Z (-1000000000) 1000000000 _ hv3) onil) h (by kernel_rfl) (fun h => ?_) (fun h => ?_)
        · replace h := Option.some.inj h; subst h
          exact x_end 4 [] [] onil onil (by kernel_rfl)
        · obtain ⟨v4, hv4, h⟩ := bind_some h
          replace h := Option.some.inj h; subst h
          exact x_end 30 [(12, .call [] [(eInt).f [a0.X, a0.Y, a0.Z, a0.W]] (i64 v4) [])] [] (ocons (Timpl_divisor (Y := Y) n [a0.X, a0.Y, a0.Z, a0.W] _ hv4) (ocons (len_row (L := [a0.X, a0.Y, a0.Z, a0.W]) eInt) (ocons (Enc.share eInt eInt sInt [a0.X, a0.Y, a0.Z, a0.W]) onil))) onil (by kernel_rfl)
/-! impl.Solid).isLeaf -/
def Dimpl_Solid_isLeaf (a0 : Sol) : Option Bool :=
  some ((a0.kids.length : Int) == 0)
theorem Timpl_Solid_isLeaf {Y} (a0 : Sol) (q0 : List AV) (r : Bool) (h : Dimpl_Solid_isLeaf a0 = some r) : Big Try.prog H Y (.call 89 [.cptr ([bl a0.inn, i64 a0.pl.A, i64 a0.pl.B, i64 a0.pl.C, i64 a0.pl.D, .sl false 6 a0.kids.length ((eSol false).f a0.kids)] ++ q0)] (lk []) (bl r) (lk [])) := by
  unfold Dimpl_Solid_isLeaf at h
  refine x_call (fn := Try.f89) (c := bodyOf Try.f89) (bs0 := []) Try.func89 (by kernel_rfl) (by kernel_rfl) ?_
  replace h := Option.some.inj h; subst h
  exact x_end 14 [] [] onil onil (by kernel_rfl)
/-! impl.checker).right -/
def Dimpl_checker_right_1 (_n : Nat) (self : (Int × Sol × (List Pl)) → Option (Bool × Int)) (t2 : List Pl) (t59 _b4_0 : Bool) (b4_1 b4_2 b4_3 b4_4 : Int) (b4_5 : List Sol) (b7_0 b7_1 b7_2 b7_3 b1000_0 : Int) : Option (Bool × Int) :=
  frk t59 (some (false, b1000_0)) ((lget b4_5 0).bind fun v5 => (Dimpl_with t2 (Pl.mk b4_1 b4_2 b4_3 b4_4)).bind fun v6 => (self (b1000_0, v5, v6)).bind fun v7 => frk v7.1 ((lget b4_5 1).bind fun v8 => (Dimpl_with t2 (Pl.mk b7_0 b7_1 b7_2 b7_3)).bind fun v9 => (self (v7.2, v8, v9)).bind fun v10 => some v10) (some (false, v7.2)))
theorem Timpl_checker_right_1 {Y} (n : Nat) (self : (Int × Sol × (List Pl)) → Option (Bool × Int)) (hself : ∀ (a : (Int × Sol × (List Pl))) (r : (Bool × Int)), self a = some r → Big Try.prog H Y (.call 76 [.ptr 1000 0, .agg [bl a.2.1.inn, i64 a.2.1.pl.A, i64 a.2.1.pl.B, i64 a.2.1.pl.C, i64 a.2.1.pl.D, .sl false 6 a.2.1.kids.length ((eSol false).f a.2.1.kids)], .sl false 4 a.2.2.length ((ePl).f a.2.2)] (lk [(1000, ⟨true, 0, [i64 a.1]⟩)]) (bl r.1) (lk [(1000, ⟨true, 0, [i64 r.2]⟩)]))) (t2 : List Pl) (t59 b4_0 : Bool) (b4_1 b4_2 b4_3 b4_4 : Int) (b4_5 : List Sol) (b7_0 b7_1 b7_2 b7_3 b1000_0 : Int) (r : (Bool × Int)) (h : Dimpl_checker_right_1 n self t2 t59 b4_0 b4_1 b4_2 b4_3 b4_4 b4_5 b7_0 b7_1 b7_2 b7_3 b1000_0 = some r) : Wk Try.prog H Y 76 [.code (cp [1, 1, 1, 1, 1, 0, 1] (bodyOf Try.f76)), .code (cp [1, 1, 1, 1, 1, 1] (bodyOf Try.f76))] (FinX Try.prog Try.f76 [(1000, ⟨true, 0, [.bad]⟩)] (bl r.1) [(1000, ⟨true, 0, [i64 r.2]⟩)]) ⟨[(0, .ptr 1000 0), (2, .sl false 4 t2.length ((ePl).f t2)), (4, .ptr 4 0), (7, .ptr 7 0), (59, bl t59)], [(4, ⟨true, 0, [bl b4_0, i64 b4_1, i64 b4_2, i64 b4_3, i64 b4_4, .sl false 6 b4_5.length ((eSol false).f b4_5)]⟩), (7, ⟨true, 0, [i64 b7_0, i64 b7_1, i64 b7_2, i64 b7_3]⟩), (1000, ⟨true, 0, [i64 b1000_0]⟩)]⟩ := by
  unfold Dimpl_checker_right_1 at h
  refine x_frk 0 [] onil h (by kernel_rfl) (fun h => ?_) (fun h => ?_)
  · replace h := Option.some.inj h; subst h
    exact x_end 4 [] [] onil onil (by kernel_rfl)
  · obtain ⟨v5, hv5, h⟩ := bind_some h
    obtain ⟨v6, hv6, h⟩ := bind_some h
    obtain ⟨v7, hv7, h⟩ := bind_some h
    refine x_frk 14 [(3, .val (.cptr ((eSol false).c v5 ++ (eSol false).f ((b4_5).drop (Int.toNat 0 + 1))))), (4, .call [] [] (.sl false 4 v6.length ((ePl).f v6)) []), (0, .call [] [] (bl v7.1) [(1000, ⟨true, 0, [i64 v7.2]⟩)])] (ocons (ix (eSol false) hv5) (ocons (shSl (L := v6) ePl ePl sPl (Timpl_with (Y := Y) t2 (Pl.mk b4_1 b4_2 b4_3 b4_4) _ hv6)) (ocons (hself (b1000_0, v5, v6) _ hv7) onil))) h (by kernel_rfl) (fun h => ?_) (fun h => ?_)
    · obtain ⟨v8, hv8, h⟩ := bind_some h
      obtain ⟨v9, hv9, h⟩ := bind_some h
      obtain ⟨v10, hv10, h⟩ := bind_some h
      replace h := Option.some.inj h; subst h
      exact x_end 12 [(3, .val (.cptr ((eSol false).c v8 ++ (eSol false).f ((b4_5).drop (Int.toNat 1 + 1))))), (3, .call [] [] (.sl false 4 v9.length ((ePl).f v9)) []), (0, .call [] [] (bl v10.1) [(1000, ⟨true, 0, [i64 v10.2]⟩)])] [] (ocons (ix (eSol false) hv8) (ocons (shSl (L := v9) ePl ePl sPl (Timpl_with (Y := Y) t2 (Pl.mk b7_0 b7_1 b7_2 b7_3) _ hv9)) (ocons (hself (v7.2, v8, v9) _ hv10) onil))) onil (by kernel_rfl)
    · replace h := Option.some.inj h; subst h
      exact x_end 12 [] [] onil onil (by kernel_rfl)
def Dimpl_checker_right_0 (n : Nat) (self : (Int × Sol × (List Pl)) → Option (Bool × Int)) (t2 : List Pl) (t45 b4_0 : Bool) (b4_1 b4_2 b4_3 b4_4 : Int) (b4_5 : List Sol) (b1000_0 : Int) : Option (Bool × Int) :=
  frk t45 (some (false, b1000_0)) ((Dimpl_flip (Pl.mk b4_1 b4_2 b4_3 b4_4)).bind fun v2 => (Dimpl_room n t2 (Pl.mk b4_1 b4_2 b4_3 b4_4)).bind fun v3 => frk (!v3) (some (false, b1000_0)) ((Dimpl_room n t2 v2).bind fun v4 => Dimpl_checker_right_1 n self t2 (!v4) b4_0 b4_1 b4_2 b4_3 b4_4 b4_5 v2.A v2.B v2.C v2.D b1000_0))
theorem Timpl_checker_right_0 {Y} (n : Nat) (self : (Int × Sol × (List Pl)) → Option (Bool × Int)) (hself : ∀ (a : (Int × Sol × (List Pl))) (r : (Bool × Int)), self a = some r → Big Try.prog H Y (.call 76 [.ptr 1000 0, .agg [bl a.2.1.inn, i64 a.2.1.pl.A, i64 a.2.1.pl.B, i64 a.2.1.pl.C, i64 a.2.1.pl.D, .sl false 6 a.2.1.kids.length ((eSol false).f a.2.1.kids)], .sl false 4 a.2.2.length ((ePl).f a.2.2)] (lk [(1000, ⟨true, 0, [i64 a.1]⟩)]) (bl r.1) (lk [(1000, ⟨true, 0, [i64 r.2]⟩)]))) (t2 : List Pl) (t45 b4_0 : Bool) (b4_1 b4_2 b4_3 b4_4 : Int) (b4_5 : List Sol) (b1000_0 : Int) (r : (Bool × Int)) (h : Dimpl_checker_right_0 n self t2 t45 b4_0 b4_1 b4_2 b4_3 b4_4 b4_5 b1000_0 = some r) : Wk Try.prog H Y 76 [.code (cp [1, 1, 1, 0, 1] (bodyOf Try.f76)), .code (cp [1, 1, 1, 1] (bodyOf Try.f76))] (FinX Try.prog Try.f76 [(1000, ⟨true, 0, [.bad]⟩)] (bl r.1) [(1000, ⟨true, 0, [i64 r.2]⟩)]) ⟨[(0, .ptr 1000 0), (2, .sl false 4 t2.length ((ePl).f t2)), (4, .ptr 4 0), (45, bl t45)], [(4, ⟨true, 0, [bl b4_0, i64 b4_1, i64 b4_2, i64 b4_3, i64 b4_4, .sl false 6 b4_5.length ((eSol false).f b4_5)]⟩), (1000, ⟨true, 0, [i64 b1000_0]⟩)]⟩ := by
  unfold Dimpl_checker_right_0 at h
  refine x_frk 0 [] onil h (by kernel_rfl) (fun h => ?_) (fun h => ?_)
  · replace h := Option.some.inj h; subst h
    exact x_end 4 [] [] onil onil (by kernel_rfl)
  · obtain ⟨v2, hv2, h⟩ := bind_some h
    obtain ⟨v3, hv3, h⟩ := bind_some h
    refine x_frk 18 [(2, .call [] [] (.agg [i64 v2.A, i64 v2.B, i64 v2.C, i64 v2.D]) []), (5, .call [] [] (bl v3) [])] (ocons (Timpl_flip (Y := Y) (Pl.mk b4_1 b4_2 b4_3 b4_4) _ hv2) (ocons (Timpl_room (Y := Y) n t2 (Pl.mk b4_1 b4_2 b4_3 b4_4) _ hv3) onil)) h (by kernel_rfl) (fun h => ?_) (fun h => ?_)
    · replace h := Option.some.inj h; subst h
      exact x_end 11 [] [] onil onil (by kernel_rfl)
    · obtain ⟨v4, hv4, h⟩ := bind_some h
      exact x_to 6 [(2, .call [] [] (bl v4) [])] (ocons (Timpl_room (Y := Y) n t2 v2 _ hv4) onil) (Timpl_checker_right_1 n self hself t2 (!v4) b4_0 b4_1 b4_2 b4_3 b4_4 b4_5 v2.A v2.B v2.C v2.D b1000_0 r h) (by kernel_rfl)
def Dimpl_checker_right_b (n : Nat) (self : (Int × Sol × (List Pl)) → Option (Bool × Int)) (a : (Int × Sol × (List Pl))) : Option (Bool × Int) :=
  match a with
  | (a0, a1, a2) => (Dimpl_Solid_isLeaf a1).bind fun v0 => frk v0 (some ((a1.pl.A == 0 && (a1.pl.B == 0 && (a1.pl.C == 0 && (a1.pl.D == 0 && true)))), a0)) (frk a1.inn (some (false, w64 (a0 + 1))) (frk ((a1.kids.length : Int) != 2) (some (false, w64 (a0 + 1))) (frk (decide ((w64 (a0 + 1)) > 300)) (some (false, w64 (a0 + 1))) (frk (decide ((a2.length : Int) ≥ 24)) (some (false, w64 (a0 + 1))) ((Dimpl_PlaneOk n a1.pl).bind fun v1 => Dimpl_checker_right_0 n self a2 (!v1) a1.inn a1.pl.A a1.pl.B a1.pl.C a1.pl.D a1.kids (w64 (a0 + 1)))))))
def Dimpl_checker_right (n : Nat) (a0 : Int) (a1 : Sol) (a2 : (List Pl)) : Option (Bool × Int) := loopN (Dimpl_checker_right_b n) n (a0, a1, a2)
theorem Timpl_checker_right_b {Y} (n : Nat) : ∀ (m : Nat) (a : (Int × Sol × (List Pl))) (r : (Bool × Int)), loopN (Dimpl_checker_right_b n) m a = some r → ∀ (_ : Unit), Big Try.prog H Y (.call 76 [.ptr 1000 0, .agg [bl a.2.1.inn, i64 a.2.1.pl.A, i64 a.2.1.pl.B, i64 a.2.1.pl.C, i64 a.2.1.pl.D, .sl false 6 a.2.1.kids.length ((eSol false).f a.2.1.kids)], .sl false 4 a.2.2.length ((ePl).f a.2.2)] (lk [(1000, ⟨true, 0, [i64 a.1]⟩)]) (bl r.1) (lk [(1000, ⟨true, 0, [i64 r.2]⟩)])) := by
  refine loopN_ind (fun self hs a r h => ?_)
  have hself : ∀ (a : (Int × Sol × (List Pl))) (r : (Bool × Int)), self a = some r → Big Try.prog H Y (.call 76 [.ptr 1000 0, .agg [bl a.2.1.inn, i64 a.2.1.pl.A, i64 a.2.1.pl.B, i64 a.2.1.pl.C, i64 a.2.1.pl.D, .sl false 6 a.2.1.kids.length ((eSol false).f a.2.1.kids)], .sl false 4 a.2.2.length ((ePl).f a.2.2)] (lk [(1000, ⟨true, 0, [i64 a.1]⟩)]) (bl r.1) (lk [(1000, ⟨true, 0, [i64 r.2]⟩)])) := fun a r h => hs a r h ()
  intro _
  obtain ⟨a0, a1, a2⟩ := a
  unfold Dimpl_checker_right_b at h
  refine x_call (fn := Try.f76) (c := bodyOf Try.f76) (bs0 := [(1000, ⟨true, 0, [.bad]⟩)]) Try.func76 (by kernel_rfl) (by kernel_rfl) ?_
  obtain ⟨v0, hv0, h⟩ := bind_some h
  refine x_frk 10 [(2, .call [] [] (bl v0) [])] (ocons (Timpl_Solid_isLeaf (Y := Y) a1 [] _ hv0) onil) h (by kernel_rfl) (fun h => ?_) (fun h => ?_)
  · replace h := Option.some.inj h; subst h
    exact x_end 8 [] [] onil onil (by kernel_rfl)
  · refine x_frk 18 [] onil h (by kernel_rfl) (fun h => ?_) (fun h => ?_)
    · replace h := Option.some.inj h; subst h
      exact x_end 29 [] [] onil onil (by kernel_rfl)
    · refine x_frk 6 [] onil h (by kernel_rfl) (fun h => ?_) (fun h => ?_)
      · replace h := Option.some.inj h; subst h
        exact x_end 23 [] [] onil onil (by kernel_rfl)
      · refine x_frk 7 [] onil h (by kernel_rfl) (fun h => ?_) (fun h => ?_)
        · replace h := Option.some.inj h; subst h
          exact x_end 16 [] [] onil onil (by kernel_rfl)
        · refine x_frk 5 [] onil h (by kernel_rfl) (fun h => ?_) (fun h => ?_)
          · replace h := Option.some.inj h; subst h
            exact x_end 11 [] [] onil onil (by kernel_rfl)
          · obtain ⟨v1, hv1, h⟩ := bind_some h
            exact x_to 6 [(2, .call [] [] (bl v1) [])] (ocons (Timpl_PlaneOk (Y := Y) n a1.pl _ hv1) onil) (Timpl_checker_right_0 n self hself a2 (!v1) a1.inn a1.pl.A a1.pl.B a1.pl.C a1.pl.D a1.kids (w64 (a0 + 1)) r h) (by kernel_rfl)
theorem Timpl_checker_right {Y} (n : Nat) (a0 : Int) (a1 : Sol) (a2 : (List Pl)) (r : (Bool × Int)) (h : Dimpl_checker_right n a0 a1 a2 = some r) : Big Try.prog H Y (.call 76 [.ptr 1000 0, .agg [bl a1.inn, i64 a1.pl.A, i64 a1.pl.B, i64 a1.pl.C, i64 a1.pl.D, .sl false 6 a1.kids.length ((eSol false).f a1.kids)], .sl false 4 a2.length ((ePl).f a2)] (lk [(1000, ⟨true, 0, [i64 a0]⟩)]) (bl r.1) (lk [(1000, ⟨true, 0, [i64 r.2]⟩)])) := Timpl_checker_right_b n n (a0, a1, a2) r h ()
/-! impl.SolidOk -/
def Dimpl_SolidOk (n : Nat) (a0 : Sol) : Option Bool :=
  (Dimpl_checker_right n 0 a0 []).bind fun v0 => some v0.1
theorem Timpl_SolidOk {Y} (n : Nat) (a0 : Sol) (r : Bool) (h : Dimpl_SolidOk n a0 = some r) : Big Try.prog H Y (.call 29 [.agg [bl a0.inn, i64 a0.pl.A, i64 a0.pl.B, i64 a0.pl.C, i64 a0.pl.D, .sl false 6 a0.kids.length ((eSol false).f a0.kids)]] (lk []) (bl r) (lk [])) := by
  unfold Dimpl_SolidOk at h
  refine x_call (fn := Try.f29) (c := bodyOf Try.f29) (bs0 := []) Try.func29 (by kernel_rfl) (by kernel_rfl) ?_
  obtain ⟨v0, hv0, h⟩ := bind_some h
  replace h := Option.some.inj h; subst h
  exact x_end 15 [(4, .call [(false, 4)] [] (bl v0.1) [(1000, ⟨true, 0, [i64 v0.2]⟩)])] [] (ocons (Timpl_checker_right (Y := Y) n 0 a0 [] _ hv0) onil) onil (by kernel_rfl)
/-! impl.sideAt -/
def Dimpl_sideAt (a0 : Pl) (a1 : Spot) : Option Int :=
  (Dimpl_sign (w64 ((w64 ((w64 ((w64 (a0.A * a1.X)) + (w64 (a0.B * a1.Y)))) + (w64 (a0.C * a1.Z)))) + (w64 (a0.D * a1.W))))).bind fun v0 => some v0
theorem Timpl_sideAt {Y} (a0 : Pl) (a1 : Spot) (r : Int) (h : Dimpl_sideAt a0 a1 = some r) : Big Try.prog H Y (.call 109 [.agg [i64 a0.A, i64 a0.B, i64 a0.C, i64 a0.D], .agg [i64 a1.X, i64 a1.Y, i64 a1.Z, i64 a1.W]] (lk []) (i64 r) (lk [])) := by
  unfold Dimpl_sideAt at h
  refine x_call (fn := Try.f109) (c := bodyOf Try.f109) (bs0 := []) Try.func109 (by kernel_rfl) (by kernel_rfl) ?_
  obtain ⟨v0, hv0, h⟩ := bind_some h
  replace h := Option.some.inj h; subst h
  exact x_end 34 [(26, .call [] [] (i64 v0) [])] [] (ocons (Timpl_sign (Y := Y) (w64 ((w64 ((w64 ((w64 (a0.A * a1.X)) + (w64 (a0.B * a1.Y)))) + (w64 (a0.C * a1.Z)))) + (w64 (a0.D * a1.W)))) _ hv0) onil) onil (by kernel_rfl)
/-! impl.Solid).around -/
def Dimpl_Solid_around_0 (_n : Nat) (self : (Sol × Spot) → Option (Int × Int)) (_t0_0 : Bool) (_t0_1 _t0_2 _t0_3 _t0_4 : Int) (t0_5 : List Sol) (t7 t8 : Int) (t36 : Bool) (b3_0 b3_1 b3_2 b3_3 : Int) : Option (Int × Int) :=
  frk t36 ((lget t0_5 1).bind fun v4 => (self (v4, (Spot.mk b3_0 b3_1 b3_2 b3_3))).bind fun v5 => some (w64 (t7 + v5.1), w64 (t8 + v5.2))) (some (t7, t8))
theorem Timpl_Solid_around_0 {Y} (n : Nat) (self : (Sol × Spot) → Option (Int × Int)) (hself : ∀ (a : (Sol × Spot)) (q0 : List AV) (r : (Int × Int)), self a = some r → Big Try.prog H Y (.call 97 [.cptr ([bl a.1.inn, i64 a.1.pl.A, i64 a.1.pl.B, i64 a.1.pl.C, i64 a.1.pl.D, .sl false 6 a.1.kids.length ((eSol false).f a.1.kids)] ++ q0), .agg [i64 a.2.X, i64 a.2.Y, i64 a.2.Z, i64 a.2.W]] (lk []) (.tup [i64 r.1, i64 r.2]) (lk []))) (t0_0 : Bool) (t0_1 t0_2 t0_3 t0_4 : Int) (t0_5 : List Sol) (t0_r : List AV) (t7 t8 : Int) (t36 : Bool) (b3_0 b3_1 b3_2 b3_3 : Int) (q0 : List AV) (r : (Int × Int)) (h : Dimpl_Solid_around_0 n self t0_0 t0_1 t0_2 t0_3 t0_4 t0_5 t7 t8 t36 b3_0 b3_1 b3_2 b3_3 = some r) : Wk Try.prog H Y 97 [.code (cp [1, 1, 1, 1, 1, 0, 1] (bodyOf Try.f97)), .code (cp [1, 1, 1, 1, 1, 1] (bodyOf Try.f97))] (FinX Try.prog Try.f97 [] (.tup [i64 r.1, i64 r.2]) []) ⟨[(0, .cptr ([bl t0_0, i64 t0_1, i64 t0_2, i64 t0_3, i64 t0_4, .sl false 6 t0_5.length ((eSol false).f t0_5)] ++ t0_r)), (3, .ptr 3 0), (7, i64 t7), (8, i64 t8), (36, bl t36)], [(3, ⟨true, 0, [i64 b3_0, i64 b3_1, i64 b3_2, i64 b3_3]⟩)]⟩ := by
  unfold Dimpl_Solid_around_0 at h
  refine x_frk 0 [] onil h (by kernel_rfl) (fun h => ?_) (fun h => ?_)
  · obtain ⟨v4, hv4, h⟩ := bind_some h
    obtain ⟨v5, hv5, h⟩ := bind_some h
    replace h := Option.some.inj h; subst h
    exact x_end 35 [(4, .val (.cptr ((eSol false).c v4 ++ (eSol false).f ((t0_5).drop (Int.toNat 1 + 1))))), (1, .call [] [] (.tup [i64 v5.1, i64 v5.2]) [])] [] (ocons (ix (eSol false) hv4) (ocons (hself (v4, (Spot.mk b3_0 b3_1 b3_2 b3_3)) ((eSol false).f ((t0_5).drop (Int.toNat 1 + 1))) _ hv5) onil)) onil (by kernel_rfl)
  · replace h := Option.some.inj h; subst h
    exact x_end 8 [] [] onil onil (by kernel_rfl)
def Dimpl_Solid_around_b (n : Nat) (self : (Sol × Spot) → Option (Int × Int)) (a : (Sol × Spot)) : Option (Int × Int) :=
  match a with
  | (a0, a1) => (Dimpl_Solid_isLeaf a0).bind fun v0 => frk v0 (frk a0.inn (some (1, 0)) (some (0, 1))) ((Dimpl_sideAt a0.pl a1).bind fun v1 => frk (decide (v1 ≥ 0)) ((lget a0.kids 0).bind fun v2 => (self (v2, a1)).bind fun v3 => Dimpl_Solid_around_0 n self a0.inn a0.pl.A a0.pl.B a0.pl.C a0.pl.D a0.kids v3.1 v3.2 (decide (v1 ≤ 0)) a1.X a1.Y a1.Z a1.W) (Dimpl_Solid_around_0 n self a0.inn a0.pl.A a0.pl.B a0.pl.C a0.pl.D a0.kids 0 0 (decide (v1 ≤ 0)) a1.X a1.Y a1.Z a1.W))
def Dimpl_Solid_around (n : Nat) (a0 : Sol) (a1 : Spot) : Option (Int × Int) := loopN (Dimpl_Solid_around_b n) n (a0, a1)
theorem Timpl_Solid_around_b {Y} (n : Nat) : ∀ (m : Nat) (a : (Sol × Spot)) (r : (Int × Int)), loopN (Dimpl_Solid_around_b n) m a = some r → ∀ (q0 : List AV), Big Try.prog H Y (.call 97 [.cptr ([bl a.1.inn, i64 a.1.pl.A, i64 a.1.pl.B, i64 a.1.pl.C, i64 a.1.pl.D, .sl false 6 a.1.kids.length ((eSol false).f a.1.kids)] ++ q0), .agg [i64 a.2.X, i64 a.2.Y, i64 a.2.Z, i64 a.2.W]] (lk []) (.tup [i64 r.1, i64 r.2]) (lk [])) := by
  refine loopN_ind (fun self hs a r h => ?_)
  have hself : ∀ (a : (Sol × Spot)) (q0 : List AV) (r : (Int × Int)), self a = some r → Big Try.prog H Y (.call 97 [.cptr ([bl a.1.inn, i64 a.1.pl.A, i64 a.1.pl.B, i64 a.1.pl.C, i64 a.1.pl.D, .sl false 6 a.1.kids.length ((eSol false).f a.1.kids)] ++ q0), .agg [i64 a.2.X, i64 a.2.Y, i64 a.2.Z, i64 a.2.W]] (lk []) (.tup [i64 r.1, i64 r.2]) (lk [])) := fun a q0 r h => hs a r h q0
  intro q0
  obtain ⟨a0, a1⟩ := a
  unfold Dimpl_Solid_around_b at h
  refine x_call (fn := Try.f97) (c := bodyOf Try.f97) (bs0 := []) Try.func97 (by kernel_rfl) (by kernel_rfl) ?_
  obtain ⟨v0, hv0, h⟩ := bind_some h
  refine x_frk 12 [(4, .call [] [] (bl v0) [])] (ocons (Timpl_Solid_isLeaf (Y := Y) a0 q0 _ hv0) onil) h (by kernel_rfl) (fun h => ?_) (fun h => ?_)
  · refine x_frk 8 [] onil h (by kernel_rfl) (fun h => ?_) (fun h => ?_)
    · replace h := Option.some.inj h; subst h
      exact x_end 5 [] [] onil onil (by kernel_rfl)
    · replace h := Option.some.inj h; subst h
      exact x_end 6 [] [] onil onil (by kernel_rfl)
  · obtain ⟨v1, hv1, h⟩ := bind_some h
    refine x_frk 22 [(5, .call [] [] (i64 v1) [])] (ocons (Timpl_sideAt (Y := Y) a0.pl a1 _ hv1) onil) h (by kernel_rfl) (fun h => ?_) (fun h => ?_)
    · obtain ⟨v2, hv2, h⟩ := bind_some h
      obtain ⟨v3, hv3, h⟩ := bind_some h
      exact x_to 20 [(4, .val (.cptr ((eSol false).c v2 ++ (eSol false).f ((a0.kids).drop (Int.toNat 0 + 1))))), (1, .call [] [] (.tup [i64 v3.1, i64 v3.2]) [])] (ocons (ix (eSol false) hv2) (ocons (hself (v2, a1) ((eSol false).f ((a0.kids).drop (Int.toNat 0 + 1))) _ hv3) onil)) (Timpl_Solid_around_0 n self hself a0.inn a0.pl.A a0.pl.B a0.pl.C a0.pl.D a0.kids q0 v3.1 v3.2 (decide (v1 ≤ 0)) a1.X a1.Y a1.Z a1.W q0 r h) (by kernel_rfl)
    · exact x_to 7 [] onil (Timpl_Solid_around_0 n self hself a0.inn a0.pl.A a0.pl.B a0.pl.C a0.pl.D a0.kids q0 0 0 (decide (v1 ≤ 0)) a1.X a1.Y a1.Z a1.W q0 r h) (by kernel_rfl)
theorem Timpl_Solid_around {Y} (n : Nat) (a0 : Sol) (a1 : Spot) (q0 : List AV) (r : (Int × Int)) (h : Dimpl_Solid_around n a0 a1 = some r) : Big Try.prog H Y (.call 97 [.cptr ([bl a0.inn, i64 a0.pl.A, i64 a0.pl.B, i64 a0.pl.C, i64 a0.pl.D, .sl false 6 a0.kids.length ((eSol false).f a0.kids)] ++ q0), .agg [i64 a1.X, i64 a1.Y, i64 a1.Z, i64 a1.W]] (lk []) (.tup [i64 r.1, i64 r.2]) (lk [])) := Timpl_Solid_around_b n n (a0, a1) r h q0
/-! impl.Around -/
def Dimpl_Around_0 (n : Nat) (t13 b2_0 : Bool) (b2_1 b2_2 b2_3 b2_4 : Int) (b2_5 : List Sol) (b3_0 b3_1 b3_2 b3_3 : Int) : Option (Int × Int) :=
  frk t13 (some (0, 0)) ((Dimpl_Solid_around n (Sol.mk b2_0 (Pl.mk b2_1 b2_2 b2_3 b2_4) b2_5) (Spot.mk b3_0 b3_1 b3_2 b3_3)).bind fun v2 => some v2)
theorem Timpl_Around_0 {Y} (n : Nat) (t13 b2_0 : Bool) (b2_1 b2_2 b2_3 b2_4 : Int) (b2_5 : List Sol) (b3_0 b3_1 b3_2 b3_3 : Int) (r : (Int × Int)) (h : Dimpl_Around_0 n t13 b2_0 b2_1 b2_2 b2_3 b2_4 b2_5 b3_0 b3_1 b3_2 b3_3 = some r) : Wk Try.prog H Y 62 [.code (cp [1, 0, 1] (bodyOf Try.f62)), .code (cp [1, 1] (bodyOf Try.f62))] (FinX Try.prog Try.f62 [] (.tup [i64 r.1, i64 r.2]) []) ⟨[(2, .ptr 2 0), (3, .ptr 3 0), (13, bl t13)], [(2, ⟨true, 0, [bl b2_0, i64 b2_1, i64 b2_2, i64 b2_3, i64 b2_4, .sl false 6 b2_5.length ((eSol false).f b2_5)]⟩), (3, ⟨true, 0, [i64 b3_0, i64 b3_1, i64 b3_2, i64 b3_3]⟩)]⟩ := by
  unfold Dimpl_Around_0 at h
  refine x_frk 0 [] onil h (by kernel_rfl) (fun h => ?_) (fun h => ?_)
  · replace h := Option.some.inj h; subst h
    exact x_end 5 [] [] onil onil (by kernel_rfl)
  · obtain ⟨v2, hv2, h⟩ := bind_some h
    replace h := Option.some.inj h; subst h
    exact x_end 10 [(1, .call [] [] (.tup [i64 v2.1, i64 v2.2]) [])] [] (ocons (Timpl_Solid_around (Y := Y) n (Sol.mk b2_0 (Pl.mk b2_1 b2_2 b2_3 b2_4) b2_5) (Spot.mk b3_0 b3_1 b3_2 b3_3) [] _ hv2) onil) onil (by kernel_rfl)
def Dimpl_Around (n : Nat) (a0 : Sol) (a1 : Spot) : Option (Int × Int) :=
  (Dimpl_SpotOk n a1).bind fun v0 => frk (!v0) (some (0, 0)) ((Dimpl_SolidOk n a0).bind fun v1 => Dimpl_Around_0 n (!v1) a0.inn a0.pl.A a0.pl.B a0.pl.C a0.pl.D a0.kids a1.X a1.Y a1.Z a1.W)
theorem Timpl_Around {Y} (n : Nat) (a0 : Sol) (a1 : Spot) (r : (Int × Int)) (h : Dimpl_Around n a0 a1 = some r) : Big Try.prog H Y (.call 62 [.agg [bl a0.inn, i64 a0.pl.A, i64 a0.pl.B, i64 a0.pl.C, i64 a0.pl.D, .sl false 6 a0.kids.length ((eSol false).f a0.kids)], .agg [i64 a1.X, i64 a1.Y, i64 a1.Z, i64 a1.W]] (lk []) (.tup [i64 r.1, i64 r.2]) (lk [])) := by
  unfold Dimpl_Around at h
  refine x_call (fn := Try.f62) (c := bodyOf Try.f62) (bs0 := []) Try.func62 (by kernel_rfl) (by kernel_rfl) ?_
  obtain ⟨v0, hv0, h⟩ := bind_some h
  refine x_frk 14 [(5, .call [] [] (bl v0) [])] (ocons (Timpl_SpotOk (Y := Y) n a1 _ hv0) onil) h (by kernel_rfl) (fun h => ?_) (fun h => ?_)
  · replace h := Option.some.inj h; subst h
    exact x_end 11 [] [] onil onil (by kernel_rfl)
  · obtain ⟨v1, hv1, h⟩ := bind_some h
    exact x_to 5 [(1, .call [] [] (bl v1) [])] (ocons (Timpl_SolidOk (Y := Y) n a0 _ hv1) onil) (Timpl_Around_0 n (!v1) a0.inn a0.pl.A a0.pl.B a0.pl.C a0.pl.D a0.kids a1.X a1.Y a1.Z a1.W r h) (by kernel_rfl)
/-! impl.where -/
def Dimpl_where (a0 a1 : Int) : Option Int :=
  frk (a0 == 0) (some (-1)) (frk (a1 == 0) (some 1) (some 0))
theorem Timpl_where {Y} (a0 a1 r : Int) (h : Dimpl_where a0 a1 = some r) : Big Try.prog H Y (.call 61 [i64 a0, i64 a1] (lk []) (i64 r) (lk [])) := by
  unfold Dimpl_where at h
  refine x_call (fn := Try.f61) (c := bodyOf Try.f61) (bs0 := []) Try.func61 (by kernel_rfl) (by kernel_rfl) ?_
  refine x_frk 12 [] onil h (by kernel_rfl) (fun h => ?_) (fun h => ?_)
  · replace h := Option.some.inj h; subst h
    exact x_end 4 [] [] onil onil (by kernel_rfl)
  · refine x_frk 6 [] onil h (by kernel_rfl) (fun h => ?_) (fun h => ?_)
    · replace h := Option.some.inj h; subst h
      exact x_end 4 [] [] onil onil (by kernel_rfl)
    · replace h := Option.some.inj h; subst h
      exact x_end 6 [] [] onil onil (by kernel_rfl)
/-! impl.Where -/
def Dimpl_Where (n : Nat) (a0 : Sol) (a1 : Spot) : Option Int :=
  (Dimpl_Around n a0 a1).bind fun v0 => (Dimpl_where v0.1 v0.2).bind fun v1 => some v1
theorem Timpl_Where {Y} (n : Nat) (a0 : Sol) (a1 : Spot) (r : Int) (h : Dimpl_Where n a0 a1 = some r) : Big Try.prog H Y (.call 24 [.agg [bl a0.inn, i64 a0.pl.A, i64 a0.pl.B, i64 a0.pl.C, i64 a0.pl.D, .sl false 6 a0.kids.length ((eSol false).f a0.kids)], .agg [i64 a1.X, i64 a1.Y, i64 a1.Z, i64 a1.W]] (lk []) (i64 r) (lk [])) := by
  unfold Dimpl_Where at h
  refine x_call (fn := Try.f24) (c := bodyOf Try.f24) (bs0 := []) Try.func24 (by kernel_rfl) (by kernel_rfl) ?_
  obtain ⟨v0, hv0, h⟩ := bind_some h
  obtain ⟨v1, hv1, h⟩ := bind_some h
  replace h := Option.some.inj h; subst h
  exact x_end 16 [(5, .call [] [] (.tup [i64 v0.1, i64 v0.2]) []), (2, .call [] [] (i64 v1) [])] [] (ocons (Timpl_Around (Y := Y) n a0 a1 _ hv0) (ocons (Timpl_where (Y := Y) v0.1 v0.2 _ hv1) onil)) onil (by kernel_rfl)
/-! impl.WherePt -/
def Dimpl_WherePt (n : Nat) (a0 : Sol) (a1 : Pt) : Option Int :=
  (Dimpl_PtOk a1).bind fun v0 => frk (!v0) (some (-1)) ((Dimpl_spotAt a1).bind fun v1 => (Dimpl_Where n a0 v1).bind fun v2 => some v2)
theorem Timpl_WherePt {Y} (n : Nat) (a0 : Sol) (a1 : Pt) (r : Int) (h : Dimpl_WherePt n a0 a1 = some r) : Big Try.prog H Y (.call 20 [.agg [bl a0.inn, i64 a0.pl.A, i64 a0.pl.B, i64 a0.pl.C, i64 a0.pl.D, .sl false 6 a0.kids.length ((eSol false).f a0.kids)], .agg [i64 a1.X, i64 a1.Y, i64 a1.Z]] (lk []) (i64 r) (lk [])) := by
  unfold Dimpl_WherePt at h
  refine x_call (fn := Try.f20) (c := bodyOf Try.f20) (bs0 := []) Try.func20 (by kernel_rfl) (by kernel_rfl) ?_
  obtain ⟨v0, hv0, h⟩ := bind_some h
  refine x_frk 13 [(4, .call [] [] (bl v0) [])] (ocons (Timpl_PtOk (Y := Y) a1 _ hv0) onil) h (by kernel_rfl) (fun h => ?_) (fun h => ?_)
  · replace h := Option.some.inj h; subst h
    exact x_end 4 [] [] onil onil (by kernel_rfl)
  · obtain ⟨v1, hv1, h⟩ := bind_some h
    obtain ⟨v2, hv2, h⟩ := bind_some h
    replace h := Option.some.inj h; subst h
    exact x_end 9 [(2, .call [] [] (.agg [i64 v1.X, i64 v1.Y, i64 v1.Z, i64 v1.W]) []), (0, .call [] [] (i64 v2) [])] [] (ocons (Timpl_spotAt (Y := Y) a1 _ hv1) (ocons (Timpl_Where (Y := Y) n a0 v1 _ hv2) onil)) onil (by kernel_rfl)
/-! impl.valueAt -/
def Dimpl_valueAt (a0 : Pl) (a1 : Pt) : Option Int :=
  some (w64 ((w64 ((w64 ((w64 (a0.A * a1.X)) + (w64 (a0.B * a1.Y)))) + (w64 (a0.C * a1.Z)))) + a0.D))
theorem Timpl_valueAt {Y} (a0 : Pl) (a1 : Pt) (r : Int) (h : Dimpl_valueAt a0 a1 = some r) : Big Try.prog H Y (.call 56 [.agg [i64 a0.A, i64 a0.B, i64 a0.C, i64 a0.D], .agg [i64 a1.X, i64 a1.Y, i64 a1.Z]] (lk []) (i64 r) (lk [])) := by
  unfold Dimpl_valueAt at h
  refine x_call (fn := Try.f56) (c := bodyOf Try.f56) (bs0 := []) Try.func56 (by kernel_rfl) (by kernel_rfl) ?_
  replace h := Option.some.inj h; subst h
  exact x_end 30 [] [] onil onil (by kernel_rfl)
/-! impl.SideOf -/
def Dimpl_SideOf_0 (_n : Nat) (t12 : Bool) (b2_0 b2_1 b2_2 b2_3 b3_0 b3_1 b3_2 : Int) : Option Int :=
  frk t12 (some 0) ((Dimpl_valueAt (Pl.mk b2_0 b2_1 b2_2 b2_3) (Pt.mk b3_0 b3_1 b3_2)).bind fun v2 => (Dimpl_sign v2).bind fun v3 => some v3)
theorem Timpl_SideOf_0 {Y} (n : Nat) (t12 : Bool) (b2_0 b2_1 b2_2 b2_3 b3_0 b3_1 b3_2 r : Int) (h : Dimpl_SideOf_0 n t12 b2_0 b2_1 b2_2 b2_3 b3_0 b3_1 b3_2 = some r) : Wk Try.prog H Y 21 [.code (cp [1, 0, 1] (bodyOf Try.f21)), .code (cp [1, 1] (bodyOf Try.f21))] (FinX Try.prog Try.f21 [] (i64 r) []) ⟨[(2, .ptr 2 0), (3, .ptr 3 0), (12, bl t12)], [(2, ⟨true, 0, [i64 b2_0, i64 b2_1, i64 b2_2, i64 b2_3]⟩), (3, ⟨true, 0, [i64 b3_0, i64 b3_1, i64 b3_2]⟩)]⟩ := by
  unfold Dimpl_SideOf_0 at h
  refine x_frk 0 [] onil h (by kernel_rfl) (fun h => ?_) (fun h => ?_)
  · replace h := Option.some.inj h; subst h
    exact x_end 4 [] [] onil onil (by kernel_rfl)
  · obtain ⟨v2, hv2, h⟩ := bind_some h
    obtain ⟨v3, hv3, h⟩ := bind_some h
    replace h := Option.some.inj h; subst h
    exact x_end 9 [(2, .call [] [] (i64 v2) []), (0, .call [] [] (i64 v3) [])] [] (ocons (Timpl_valueAt (Y := Y) (Pl.mk b2_0 b2_1 b2_2 b2_3) (Pt.mk b3_0 b3_1 b3_2) _ hv2) (ocons (Timpl_sign (Y := Y) v2 _ hv3) onil)) onil (by kernel_rfl)
def Dimpl_SideOf (n : Nat) (a0 : Pl) (a1 : Pt) : Option Int :=
  (Dimpl_PlaneOk n a0).bind fun v0 => frk (!v0) (some 0) ((Dimpl_PtOk a1).bind fun v1 => Dimpl_SideOf_0 n (!v1) a0.A a0.B a0.C a0.D a1.X a1.Y a1.Z)
theorem Timpl_SideOf {Y} (n : Nat) (a0 : Pl) (a1 : Pt) (r : Int) (h : Dimpl_SideOf n a0 a1 = some r) : Big Try.prog H Y (.call 21 [.agg [i64 a0.A, i64 a0.B, i64 a0.C, i64 a0.D], .agg [i64 a1.X, i64 a1.Y, i64 a1.Z]] (lk []) (i64 r) (lk [])) := by
  unfold Dimpl_SideOf at h
  refine x_call (fn := Try.f21) (c := bodyOf Try.f21) (bs0 := []) Try.func21 (by kernel_rfl) (by kernel_rfl) ?_
  obtain ⟨v0, hv0, h⟩ := bind_some h
  refine x_frk 13 [(4, .call [] [] (bl v0) [])] (ocons (Timpl_PlaneOk (Y := Y) n a0 _ hv0) onil) h (by kernel_rfl) (fun h => ?_) (fun h => ?_)
  · replace h := Option.some.inj h; subst h
    exact x_end 10 [] [] onil onil (by kernel_rfl)
  · obtain ⟨v1, hv1, h⟩ := bind_some h
    exact x_to 5 [(1, .call [] [] (bl v1) [])] (ocons (Timpl_PtOk (Y := Y) a1 _ hv1) onil) (Timpl_SideOf_0 n (!v1) a0.A a0.B a0.C a0.D a1.X a1.Y a1.Z r h) (by kernel_rfl)
/-! laws.FnBricks -/
def Dlaws_FnBricks_3 (n : Nat) (t11 : Int) (t15 t16 t181 : Bool) (b5_0 b5_1 b5_2 b5_3 : Int) (b10_0 : Bool) (b10_1 b10_2 b10_3 b10_4 : Int) (b10_5 : List Sol) (b14_0 b14_1 b14_2 : Int) : Option Bool :=
  frk t181 (some false) (frk (t11 != 0) (some true) ((Dimpl_WherePt n (Sol.mk b10_0 (Pl.mk b10_1 b10_2 b10_3 b10_4) b10_5) (Pt.mk b14_0 b14_1 b14_2)).bind fun v11 => (Dimpl_SideOf n (Pl.mk b5_0 b5_1 b5_2 b5_3) (Pt.mk b14_0 b14_1 b14_2)).bind fun v12 => frk t16 (frk ((v11 == 1) == (decide (v12 > 0))) (frk t15 (some ((v11 == (-1)) == true)) (some ((v11 == (-1)) == (decide (v12 < 0))))) (some false)) (frk ((v11 == 1) == false) (frk t15 (some ((v11 == (-1)) == true)) (some ((v11 == (-1)) == (decide (v12 < 0))))) (some false))))
theorem Tlaws_FnBricks_3 {Y} (n : Nat) (t11 : Int) (t15 t16 t181 : Bool) (b5_0 b5_1 b5_2 b5_3 : Int) (b10_0 : Bool) (b10_1 b10_2 b10_3 b10_4 : Int) (b10_5 : List Sol) (b14_0 b14_1 b14_2 : Int) (r : Bool) (h : Dlaws_FnBricks_3 n t11 t15 t16 t181 b5_0 b5_1 b5_2 b5_3 b10_0 b10_1 b10_2 b10_3 b10_4 b10_5 b14_0 b14_1 b14_2 = some r) : Wk Try.prog H Y 4 [.code (cp [1, 1, 1, 1, 1, 1, 1, 1, 1, 1, 1, 1, 1, 1, 0, 1] (bodyOf Try.f4)), .code (cp [1, 1, 1, 1, 1, 1, 1, 1, 1, 1, 1, 1, 1, 1, 1] (bodyOf Try.f4))] (FinX Try.prog Try.f4 [] (bl r) []) ⟨[(5, .ptr 5 0), (10, .ptr 10 0), (11, i64 t11), (14, .ptr 14 0), (15, bl t15), (16, bl t16), (181, bl t181)], [(5, ⟨true, 0, [i64 b5_0, i64 b5_1, i64 b5_2, i64 b5_3]⟩), (10, ⟨true, 0, [bl b10_0, i64 b10_1, i64 b10_2, i64 b10_3, i64 b10_4, .sl true 6 b10_5.length ((eSol true).f b10_5)]⟩), (14, ⟨true, 0, [i64 b14_0, i64 b14_1, i64 b14_2]⟩)]⟩ := by
  unfold Dlaws_FnBricks_3 at h
  refine x_frk 0 [] onil h (by kernel_rfl) (fun h => ?_) (fun h => ?_)
  · replace h := Option.some.inj h; subst h
    exact x_end 4 [] [] onil onil (by kernel_rfl)
  · refine x_frk 7 [] onil h (by kernel_rfl) (fun h => ?_) (fun h => ?_)
    · replace h := Option.some.inj h; subst h
      exact x_end 4 [] [] onil onil (by kernel_rfl)
    · obtain ⟨v11, hv11, h⟩ := bind_some h
      obtain ⟨v12, hv12, h⟩ := bind_some h
      refine x_frk 21 [(0, .rows [(eSol false).f b10_5]), (1, .call [] [] (i64 v11) []), (3, .call [] [] (i64 v12) [])] (ocons (Enc.share (eSol true) (eSol false) (sSol true) b10_5) (ocons (Timpl_WherePt (Y := Y) n (Sol.mk b10_0 (Pl.mk b10_1 b10_2 b10_3 b10_4) b10_5) (Pt.mk b14_0 b14_1 b14_2) _ hv11) (ocons (Timpl_SideOf (Y := Y) n (Pl.mk b5_0 b5_1 b5_2 b5_3) (Pt.mk b14_0 b14_1 b14_2) _ hv12) onil))) h (by kernel_rfl) (fun h => ?_) (fun h => ?_)
      · refine x_frk 5 [] onil h (by kernel_rfl) (fun h => ?_) (fun h => ?_)
        · refine x_frk 4 [] onil h (by kernel_rfl) (fun h => ?_) (fun h => ?_)
          · replace h := Option.some.inj h; subst h
            exact x_end 7 [] [] onil onil (by kernel_rfl)
          · replace h := Option.some.inj h; subst h
            exact x_end 7 [] [] onil onil (by kernel_rfl)
        · replace h := Option.some.inj h; subst h
          exact x_end 11 [] [] onil onil (by kernel_rfl)
      · refine x_frk 5 [] onil h (by kernel_rfl) (fun h => ?_) (fun h => ?_)
        · refine x_frk 4 [] onil h (by kernel_rfl) (fun h => ?_) (fun h => ?_)
          · replace h := Option.some.inj h; subst h
            exact x_end 7 [] [] onil onil (by kernel_rfl)
          · replace h := Option.some.inj h; subst h
            exact x_end 7 [] [] onil onil (by kernel_rfl)
        · replace h := Option.some.inj h; subst h
          exact x_end 11 [] [] onil onil (by kernel_rfl)
def Dlaws_FnBricks_2 (n : Nat) (t11 : Int) (t15 t16 : Bool) (b5_0 b5_1 b5_2 b5_3 : Int) (b6_0 : Bool) (b6_1 b6_2 b6_3 b6_4 : Int) (b6_5 : List Sol) (b10_0 : Bool) (b10_1 b10_2 b10_3 b10_4 : Int) (b10_5 : List Sol) (b14_0 b14_1 b14_2 : Int) : Option Bool :=
  (Dimpl_WherePt n (Sol.mk b6_0 (Pl.mk b6_1 b6_2 b6_3 b6_4) b6_5) (Pt.mk b14_0 b14_1 b14_2)).bind fun v10 => frk (!((v10 == (-1)) == t15)) (some false) (Dlaws_FnBricks_3 n t11 t15 t16 (!((v10 == 1) == t16)) b5_0 b5_1 b5_2 b5_3 b10_0 b10_1 b10_2 b10_3 b10_4 b10_5 b14_0 b14_1 b14_2)
theorem Tlaws_FnBricks_2 {Y} (n : Nat) (t11 : Int) (t15 t16 : Bool) (b5_0 b5_1 b5_2 b5_3 : Int) (b6_0 : Bool) (b6_1 b6_2 b6_3 b6_4 : Int) (b6_5 : List Sol) (b10_0 : Bool) (b10_1 b10_2 b10_3 b10_4 : Int) (b10_5 : List Sol) (b14_0 b14_1 b14_2 : Int) (r : Bool) (h : Dlaws_FnBricks_2 n t11 t15 t16 b5_0 b5_1 b5_2 b5_3 b6_0 b6_1 b6_2 b6_3 b6_4 b6_5 b10_0 b10_1 b10_2 b10_3 b10_4 b10_5 b14_0 b14_1 b14_2 = some r) : Wk Try.prog H Y 4 [.code (cp [1, 1, 1, 1, 1, 1, 1, 1, 1, 1, 1, 1, 1, 0] (bodyOf Try.f4)), .code (cp [1, 1, 1, 1, 1, 1, 1, 1, 1, 1, 1, 1, 1, 1] (bodyOf Try.f4))] (FinX Try.prog Try.f4 [] (bl r) []) ⟨[(5, .ptr 5 0), (6, .ptr 6 0), (10, .ptr 10 0), (11, i64 t11), (14, .ptr 14 0), (15, bl t15), (16, bl t16)], [(5, ⟨true, 0, [i64 b5_0, i64 b5_1, i64 b5_2, i64 b5_3]⟩), (6, ⟨true, 0, [bl b6_0, i64 b6_1, i64 b6_2, i64 b6_3, i64 b6_4, .sl true 6 b6_5.length ((eSol true).f b6_5)]⟩), (10, ⟨true, 0, [bl b10_0, i64 b10_1, i64 b10_2, i64 b10_3, i64 b10_4, .sl true 6 b10_5.length ((eSol true).f b10_5)]⟩), (14, ⟨true, 0, [i64 b14_0, i64 b14_1, i64 b14_2]⟩)]⟩ := by
  unfold Dlaws_FnBricks_2 at h
  obtain ⟨v10, hv10, h⟩ := bind_some h
  refine x_frk 14 [(0, .rows [(eSol false).f b6_5]), (1, .call [] [] (i64 v10) [])] (ocons (Enc.share (eSol true) (eSol false) (sSol true) b6_5) (ocons (Timpl_WherePt (Y := Y) n (Sol.mk b6_0 (Pl.mk b6_1 b6_2 b6_3 b6_4) b6_5) (Pt.mk b14_0 b14_1 b14_2) _ hv10) onil)) h (by kernel_rfl) (fun h => ?_) (fun h => ?_)
  · replace h := Option.some.inj h; subst h
    exact x_end 11 [] [] onil onil (by kernel_rfl)
  · exact x_to 6 [] onil (Tlaws_FnBricks_3 n t11 t15 t16 (!((v10 == 1) == t16)) b5_0 b5_1 b5_2 b5_3 b10_0 b10_1 b10_2 b10_3 b10_4 b10_5 b14_0 b14_1 b14_2 r h) (by kernel_rfl)
def Dlaws_FnBricks_1 (n : Nat) (t11 : Int) (t15 : Bool) (b3_0 b3_1 b3_2 b4_0 b4_1 b4_2 b5_0 b5_1 b5_2 b5_3 : Int) (b6_0 : Bool) (b6_1 b6_2 b6_3 b6_4 : Int) (b6_5 : List Sol) (b10_0 : Bool) (b10_1 b10_2 b10_3 b10_4 : Int) (b10_5 : List Sol) (b14_0 b14_1 b14_2 : Int) : Option Bool :=
  frk (decide (b14_0 > b3_0)) (frk (decide (b14_0 < b4_0)) (frk (decide (b14_1 > b3_1)) (frk (decide (b14_1 < b4_1)) (frk (decide (b14_2 > b3_2)) (Dlaws_FnBricks_2 n t11 t15 (decide (b14_2 < b4_2)) b5_0 b5_1 b5_2 b5_3 b6_0 b6_1 b6_2 b6_3 b6_4 b6_5 b10_0 b10_1 b10_2 b10_3 b10_4 b10_5 b14_0 b14_1 b14_2) (Dlaws_FnBricks_2 n t11 t15 false b5_0 b5_1 b5_2 b5_3 b6_0 b6_1 b6_2 b6_3 b6_4 b6_5 b10_0 b10_1 b10_2 b10_3 b10_4 b10_5 b14_0 b14_1 b14_2)) (Dlaws_FnBricks_2 n t11 t15 false b5_0 b5_1 b5_2 b5_3 b6_0 b6_1 b6_2 b6_3 b6_4 b6_5 b10_0 b10_1 b10_2 b10_3 b10_4 b10_5 b14_0 b14_1 b14_2)) (Dlaws_FnBricks_2 n t11 t15 false b5_0 b5_1 b5_2 b5_3 b6_0 b6_1 b6_2 b6_3 b6_4 b6_5 b10_0 b10_1 b10_2 b10_3 b10_4 b10_5 b14_0 b14_1 b14_2)) (Dlaws_FnBricks_2 n t11 t15 false b5_0 b5_1 b5_2 b5_3 b6_0 b6_1 b6_2 b6_3 b6_4 b6_5 b10_0 b10_1 b10_2 b10_3 b10_4 b10_5 b14_0 b14_1 b14_2)) (Dlaws_FnBricks_2 n t11 t15 false b5_0 b5_1 b5_2 b5_3 b6_0 b6_1 b6_2 b6_3 b6_4 b6_5 b10_0 b10_1 b10_2 b10_3 b10_4 b10_5 b14_0 b14_1 b14_2)
theorem Tlaws_FnBricks_1 {Y} (n : Nat) (t11 : Int) (t15 : Bool) (b3_0 b3_1 b3_2 b4_0 b4_1 b4_2 b5_0 b5_1 b5_2 b5_3 : Int) (b6_0 : Bool) (b6_1 b6_2 b6_3 b6_4 : Int) (b6_5 : List Sol) (b10_0 : Bool) (b10_1 b10_2 b10_3 b10_4 : Int) (b10_5 : List Sol) (b14_0 b14_1 b14_2 : Int) (r : Bool) (h : Dlaws_FnBricks_1 n t11 t15 b3_0 b3_1 b3_2 b4_0 b4_1 b4_2 b5_0 b5_1 b5_2 b5_3 b6_0 b6_1 b6_2 b6_3 b6_4 b6_5 b10_0 b10_1 b10_2 b10_3 b10_4 b10_5 b14_0 b14_1 b14_2 = some r) : Wk Try.prog H Y 4 [.code (cp [1, 1, 1, 1, 1, 1, 1, 1, 1, 1, 1, 1, 0] (bodyOf Try.f4)), .code (cp [1, 1, 1, 1, 1, 1, 1, 1, 1, 1, 1, 1, 1] (bodyOf Try.f4))] (FinX Try.prog Try.f4 [] (bl r) []) ⟨[(3, .ptr 3 0), (4, .ptr 4 0), (5, .ptr 5 0), (6, .ptr 6 0), (10, .ptr 10 0), (11, i64 t11), (14, .ptr 14 0), (15, bl t15)], [(3, ⟨true, 0, [i64 b3_0, i64 b3_1, i64 b3_2]⟩), (4, ⟨true, 0, [i64 b4_0, i64 b4_1, i64 b4_2]⟩), (5, ⟨true, 0, [i64 b5_0, i64 b5_1, i64 b5_2, i64 b5_3]⟩), (6, ⟨true, 0, [bl b6_0, i64 b6_1, i64 b6_2, i64 b6_3, i64 b6_4, .sl true 6 b6_5.length ((eSol true).f b6_5)]⟩), (10, ⟨true, 0, [bl b10_0, i64 b10_1, i64 b10_2, i64 b10_3, i64 b10_4, .sl true 6 b10_5.length ((eSol true).f b10_5)]⟩), (14, ⟨true, 0, [i64 b14_0, i64 b14_1, i64 b14_2]⟩)]⟩ := by
  unfold Dlaws_FnBricks_1 at h
  refine x_frk 7 [] onil h (by kernel_rfl) (fun h => ?_) (fun h => ?_)
  · refine x_frk 7 [] onil h (by kernel_rfl) (fun h => ?_) (fun h => ?_)
    · refine x_frk 7 [] onil h (by kernel_rfl) (fun h => ?_) (fun h => ?_)
      · refine x_frk 7 [] onil h (by kernel_rfl) (fun h => ?_) (fun h => ?_)
        · refine x_frk 7 [] onil h (by kernel_rfl) (fun h => ?_) (fun h => ?_)
          · exact x_to 9 [] onil (Tlaws_FnBricks_2 n t11 t15 (decide (b14_2 < b4_2)) b5_0 b5_1 b5_2 b5_3 b6_0 b6_1 b6_2 b6_3 b6_4 b6_5 b10_0 b10_1 b10_2 b10_3 b10_4 b10_5 b14_0 b14_1 b14_2 r h) (by kernel_rfl)
          · exact x_to 9 [] onil (Tlaws_FnBricks_2 n t11 t15 false b5_0 b5_1 b5_2 b5_3 b6_0 b6_1 b6_2 b6_3 b6_4 b6_5 b10_0 b10_1 b10_2 b10_3 b10_4 b10_5 b14_0 b14_1 b14_2 r h) (by kernel_rfl)
        · exact x_to 16 [] onil (Tlaws_FnBricks_2 n t11 t15 false b5_0 b5_1 b5_2 b5_3 b6_0 b6_1 b6_2 b6_3 b6_4 b6_5 b10_0 b10_1 b10_2 b10_3 b10_4 b10_5 b14_0 b14_1 b14_2 r h) (by kernel_rfl)
      · exact x_to 23 [] onil (Tlaws_FnBricks_2 n t11 t15 false b5_0 b5_1 b5_2 b5_3 b6_0 b6_1 b6_2 b6_3 b6_4 b6_5 b10_0 b10_1 b10_2 b10_3 b10_4 b10_5 b14_0 b14_1 b14_2 r h) (by kernel_rfl)
    · exact x_to 30 [] onil (Tlaws_FnBricks_2 n t11 t15 false b5_0 b5_1 b5_2 b5_3 b6_0 b6_1 b6_2 b6_3 b6_4 b6_5 b10_0 b10_1 b10_2 b10_3 b10_4 b10_5 b14_0 b14_1 b14_2 r h) (by kernel_rfl)
  · exact x_to 37 [] onil (Tlaws_FnBricks_2 n t11 t15 false b5_0 b5_1 b5_2 b5_3 b6_0 b6_1 b6_2 b6_3 b6_4 b6_5 b10_0 b10_1 b10_2 b10_3 b10_4 b10_5 b14_0 b14_1 b14_2 r h) (by kernel_rfl)
def Dlaws_FnBricks_0 (n : Nat) (t0 : List Int) (t7 t11 : Int) (t61 : Bool) (b3_0 b3_1 b3_2 b4_0 b4_1 b4_2 b5_0 b5_1 b5_2 b5_3 : Int) (b6_0 : Bool) (b6_1 b6_2 b6_3 b6_4 : Int) (b6_5 : List Sol) (b10_0 : Bool) (b10_1 b10_2 b10_3 b10_4 : Int) (b10_5 : List Sol) : Option Bool :=
  frk t61 (some false) (frk (t7 != 0) (some true) ((Dlaws_at t0 2).bind fun v6 => (Dlaws_at t0 3).bind fun v7 => (Dlaws_at t0 4).bind fun v8 => (Dspec_PtOk (Pt.mk (w64 ((w64 (b3_0 + (Int.tmod v6 8))) - 1)) (w64 ((w64 (b3_1 + (Int.tmod v7 8))) - 1)) (w64 ((w64 (b3_2 + (Int.tmod v8 8))) - 1)))).bind fun v9 => frk (!v9) (some true) (frk (decide ((w64 ((w64 (b3_0 + (Int.tmod v6 8))) - 1)) < b3_0)) (Dlaws_FnBricks_1 n t11 true b3_0 b3_1 b3_2 b4_0 b4_1 b4_2 b5_0 b5_1 b5_2 b5_3 b6_0 b6_1 b6_2 b6_3 b6_4 b6_5 b10_0 b10_1 b10_2 b10_3 b10_4 b10_5 (w64 ((w64 (b3_0 + (Int.tmod v6 8))) - 1)) (w64 ((w64 (b3_1 + (Int.tmod v7 8))) - 1)) (w64 ((w64 (b3_2 + (Int.tmod v8 8))) - 1))) (frk (decide ((w64 ((w64 (b3_0 + (Int.tmod v6 8))) - 1)) > b4_0)) (Dlaws_FnBricks_1 n t11 true b3_0 b3_1 b3_2 b4_0 b4_1 b4_2 b5_0 b5_1 b5_2 b5_3 b6_0 b6_1 b6_2 b6_3 b6_4 b6_5 b10_0 b10_1 b10_2 b10_3 b10_4 b10_5 (w64 ((w64 (b3_0 + (Int.tmod v6 8))) - 1)) (w64 ((w64 (b3_1 + (Int.tmod v7 8))) - 1)) (w64 ((w64 (b3_2 + (Int.tmod v8 8))) - 1))) (frk (decide ((w64 ((w64 (b3_1 + (Int.tmod v7 8))) - 1)) < b3_1)) (Dlaws_FnBricks_1 n t11 true b3_0 b3_1 b3_2 b4_0 b4_1 b4_2 b5_0 b5_1 b5_2 b5_3 b6_0 b6_1 b6_2 b6_3 b6_4 b6_5 b10_0 b10_1 b10_2 b10_3 b10_4 b10_5 (w64 ((w64 (b3_0 + (Int.tmod v6 8))) - 1)) (w64 ((w64 (b3_1 + (Int.tmod v7 8))) - 1)) (w64 ((w64 (b3_2 + (Int.tmod v8 8))) - 1))) (frk (decide ((w64 ((w64 (b3_1 + (Int.tmod v7 8))) - 1)) > b4_1)) (Dlaws_FnBricks_1 n t11 true b3_0 b3_1 b3_2 b4_0 b4_1 b4_2 b5_0 b5_1 b5_2 b5_3 b6_0 b6_1 b6_2 b6_3 b6_4 b6_5 b10_0 b10_1 b10_2 b10_3 b10_4 b10_5 (w64 ((w64 (b3_0 + (Int.tmod v6 8))) - 1)) (w64 ((w64 (b3_1 + (Int.tmod v7 8))) - 1)) (w64 ((w64 (b3_2 + (Int.tmod v8 8))) - 1))) (frk (decide ((w64 ((w64 (b3_2 + (Int.tmod v8 8))) - 1)) < b3_2)) (Dlaws_FnBricks_1 n t11 true b3_0 b3_1 b3_2 b4_0 b4_1 b4_2 b5_0 b5_1 b5_2 b5_3 b6_0 b6_1 b6_2 b6_3 b6_4 b6_5 b10_0 b10_1 b10_2 b10_3 b10_4 b10_5 (w64 ((w64 (b3_0 + (Int.tmod v6 8))) - 1)) (w64 ((w64 (b3_1 + (Int.tmod v7 8))) - 1)) (w64 ((w64 (b3_2 + (Int.tmod v8 8))) - 1))) (Dlaws_FnBricks_1 n t11 (decide ((w64 ((w64 (b3_2 + (Int.tmod v8 8))) - 1)) > b4_2)) b3_0 b3_1 b3_2 b4_0 b4_1 b4_2 b5_0 b5_1 b5_2 b5_3 b6_0 b6_1 b6_2 b6_3 b6_4 b6_5 b10_0 b10_1 b10_2 b10_3 b10_4 b10_5 (w64 ((w64 (b3_0 + (Int.tmod v6 8))) - 1)) (w64 ((w64 (b3_1 + (Int.tmod v7 8))) - 1)) (w64 ((w64 (b3_2 + (Int.tmod v8 8))) - 1))))))))))
theorem Tlaws_FnBricks_0 {Y} (n : Nat) (t0 : List Int) (t7 t11 : Int) (t61 : Bool) (b3_0 b3_1 b3_2 b4_0 b4_1 b4_2 b5_0 b5_1 b5_2 b5_3 : Int) (b6_0 : Bool) (b6_1 b6_2 b6_3 b6_4 : Int) (b6_5 : List Sol) (b10_0 : Bool) (b10_1 b10_2 b10_3 b10_4 : Int) (b10_5 : List Sol) (r : Bool) (h : Dlaws_FnBricks_0 n t0 t7 t11 t61 b3_0 b3_1 b3_2 b4_0 b4_1 b4_2 b5_0 b5_1 b5_2 b5_3 b6_0 b6_1 b6_2 b6_3 b6_4 b6_5 b10_0 b10_1 b10_2 b10_3 b10_4 b10_5 = some r) : Wk Try.prog H Y 4 [.code (cp [1, 1, 1, 1, 1, 1, 1, 0, 1] (bodyOf Try.f4)), .code (cp [1, 1, 1, 1, 1, 1, 1, 1] (bodyOf Try.f4))] (FinX Try.prog Try.f4 [] (bl r) []) ⟨[(0, .sl false 1 t0.length ((eU8).f t0)), (3, .ptr 3 0), (4, .ptr 4 0), (5, .ptr 5 0), (6, .ptr 6 0), (7, i64 t7), (10, .ptr 10 0), (11, i64 t11), (61, bl t61)], [(3, ⟨true, 0, [i64 b3_0, i64 b3_1, i64 b3_2]⟩), (4, ⟨true, 0, [i64 b4_0, i64 b4_1, i64 b4_2]⟩), (5, ⟨true, 0, [i64 b5_0, i64 b5_1, i64 b5_2, i64 b5_3]⟩), (6, ⟨true, 0, [bl b6_0, i64 b6_1, i64 b6_2, i64 b6_3, i64 b6_4, .sl true 6 b6_5.length ((eSol true).f b6_5)]⟩), (10, ⟨true, 0, [bl b10_0, i64 b10_1, i64 b10_2, i64 b10_3, i64 b10_4, .sl true 6 b10_5.length ((eSol true).f b10_5)]⟩)]⟩ := by
  unfold Dlaws_FnBricks_0 at h
  refine x_frk 0 [] onil h (by kernel_rfl) (fun h => ?_) (fun h => ?_)
  · replace h := Option.some.inj h; subst h
    exact x_end 4 [] [] onil onil (by kernel_rfl)
  · refine x_frk 7 [] onil h (by kernel_rfl) (fun h => ?_) (fun h => ?_)
    · replace h := Option.some.inj h; subst h
      exact x_end 4 [] [] onil onil (by kernel_rfl)
    · obtain ⟨v6, hv6, h⟩ := bind_some h
      obtain ⟨v7, hv7, h⟩ := bind_some h
      obtain ⟨v8, hv8, h⟩ := bind_some h
      obtain ⟨v9, hv9, h⟩ := bind_some h
      refine x_frk 35 [(3, .call [] [] (i64 v6) []), (6, .call [] [] (i64 v7) []), (6, .call [] [] (i64 v8) []), (7, .call [] [] (bl v9) [])] (ocons (Tlaws_at (Y := Y) t0 2 _ hv6) (ocons (Tlaws_at (Y := Y) t0 3 _ hv7) (ocons (Tlaws_at (Y := Y) t0 4 _ hv8) (ocons (Tspec_PtOk (Y := Y) (Pt.mk (w64 ((w64 (b3_0 + (Int.tmod v6 8))) - 1)) (w64 ((w64 (b3_1 + (Int.tmod v7 8))) - 1)) (w64 ((w64 (b3_2 + (Int.tmod v8 8))) - 1))) _ hv9) onil)))) h (by kernel_rfl) (fun h => ?_) (fun h => ?_)
      · replace h := Option.some.inj h; subst h
        exact x_end 4 [] [] onil onil (by kernel_rfl)
      · refine x_frk 9 [] onil h (by kernel_rfl) (fun h => ?_) (fun h => ?_)
        · exact x_to 37 [] onil (Tlaws_FnBricks_1 n t11 true b3_0 b3_1 b3_2 b4_0 b4_1 b4_2 b5_0 b5_1 b5_2 b5_3 b6_0 b6_1 b6_2 b6_3 b6_4 b6_5 b10_0 b10_1 b10_2 b10_3 b10_4 b10_5 (w64 ((w64 (b3_0 + (Int.tmod v6 8))) - 1)) (w64 ((w64 (b3_1 + (Int.tmod v7 8))) - 1)) (w64 ((w64 (b3_2 + (Int.tmod v8 8))) - 1)) r h) (by kernel_rfl)
        · refine x_frk 7 [] onil h (by kernel_rfl) (fun h => ?_) (fun h => ?_)
          · exact x_to 30 [] onil (Tlaws_FnBricks_1 n t11 true b3_0 b3_1 b3_2 b4_0 b4_1 b4_2 b5_0 b5_1 b5_2 b5_3 b6_0 b6_1 b6_2 b6_3 b6_4 b6_5 b10_0 b10_1 b10_2 b10_3 b10_4 b10_5 (w64 ((w64 (b3_0 + (Int.tmod v6 8))) - 1)) (w64 ((w64 (b3_1 + (Int.tmod v7 8))) - 1)) (w64 ((w64 (b3_2 + (Int.tmod v8 8))) - 1)) r h) (by kernel_rfl)
          · refine x_frk 7 [] onil h (by kernel_rfl) (fun h => ?_) (fun h => ?_)
            · exact x_to 23 [] onil (Tlaws_FnBricks_1 n t11 true b3_0 b3_1 b3_2 b4_0 b4_1 b4_2 b5_0 b5_1 b5_2 b5_3 b6_0 b6_1 b6_2 b6_3 b6_4 b6_5 b10_0 b10_1 b10_2 b10_3 b10_4 b10_5 (w64 ((w64 (b3_0 + (Int.tmod v6 8))) - 1)) (w64 ((w64 (b3_1 + (Int.tmod v7 8))) - 1)) (w64 ((w64 (b3_2 + (Int.tmod v8 8))) - 1)) r h) (by kernel_rfl)
            · refine x_frk 7 [] onil h (by kernel_rfl) (fun h => ?_) (fun h => ?_)
              · exact x_to 16 [] onil (Tlaws_FnBricks_1 n t11 true b3_0 b3_1 b3_2 b4_0 b4_1 b4_2 b5_0 b5_1 b5_2 b5_3 b6_0 b6_1 b6_2 b6_3 b6_4 b6_5 b10_0 b10_1 b10_2 b10_3 b10_4 b10_5 (w64 ((w64 (b3_0 + (Int.tmod v6 8))) - 1)) (w64 ((w64 (b3_1 + (Int.tmod v7 8))) - 1)) (w64 ((w64 (b3_2 + (Int.tmod v8 8))) - 1)) r h) (by kernel_rfl)
              · refine x_frk 7 [] onil h (by kernel_rfl) (fun h => ?_) (fun h => ?_)
                · exact x_to 9 [] onil (Tlaws_FnBricks_1 n t11 true b3_0 b3_1 b3_2 b4_0 b4_1 b4_2 b5_0 b5_1 b5_2 b5_3 b6_0 b6_1 b6_2 b6_3 b6_4 b6_5 b10_0 b10_1 b10_2 b10_3 b10_4 b10_5 (w64 ((w64 (b3_0 + (Int.tmod v6 8))) - 1)) (w64 ((w64 (b3_1 + (Int.tmod v7 8))) - 1)) (w64 ((w64 (b3_2 + (Int.tmod v8 8))) - 1)) r h) (by kernel_rfl)
                · exact x_to 9 [] onil (Tlaws_FnBricks_1 n t11 (decide ((w64 ((w64 (b3_2 + (Int.tmod v8 8))) - 1)) > b4_2)) b3_0 b3_1 b3_2 b4_0 b4_1 b4_2 b5_0 b5_1 b5_2 b5_3 b6_0 b6_1 b6_2 b6_3 b6_4 b6_5 b10_0 b10_1 b10_2 b10_3 b10_4 b10_5 (w64 ((w64 (b3_0 + (Int.tmod v6 8))) - 1)) (w64 ((w64 (b3_1 + (Int.tmod v7 8))) - 1)) (w64 ((w64 (b3_2 + (Int.tmod v8 8))) - 1)) r h) (by kernel_rfl)
def Dlaws_FnBricks (n : Nat) (a0 : (List Int)) : Option Bool :=
  (Dlaws_big a0).bind fun v0 => frk v0 (some true) ((Dspec_DrawWedge n a0).bind fun v1 => (Dimpl_Brick n v1.1 v1.2.1).bind fun v2 => (Dspec_Brick n v1.1 v1.2.1).bind fun v3 => (Dimpl_Wedge n v1.1 v1.2.1 v1.2.2).bind fun v4 => (Dspec_Wedge n v1.1 v1.2.1 v1.2.2).bind fun v5 => frk (v2.2 != v3.2) (some false) (Dlaws_FnBricks_0 n a0 v2.2 v4.2 (v4.2 != v5.2) v1.1.X v1.1.Y v1.1.Z v1.2.1.X v1.2.1.Y v1.2.1.Z v1.2.2.A v1.2.2.B v1.2.2.C v1.2.2.D v2.1.inn v2.1.pl.A v2.1.pl.B v2.1.pl.C v2.1.pl.D v2.1.kids v4.1.inn v4.1.pl.A v4.1.pl.B v4.1.pl.C v4.1.pl.D v4.1.kids))
theorem Tlaws_FnBricks {Y} (n : Nat) (a0 : (List Int)) (r : Bool) (h : Dlaws_FnBricks n a0 = some r) : Big Try.prog H Y (.call 4 [.sl false 1 a0.length ((eU8).f a0)] (lk []) (bl r) (lk [])) := by
  unfold Dlaws_FnBricks at h
  refine x_call (fn := Try.f4) (c := bodyOf Try.f4) (bs0 := []) Try.func4 (by kernel_rfl) (by kernel_rfl) ?_
  obtain ⟨v0, hv0, h⟩ := bind_some h
  refine x_frk 10 [(2, .call [] [] (bl v0) [])] (ocons (Tlaws_big (Y := Y) a0 _ hv0) onil) h (by kernel_rfl) (fun h => ?_) (fun h => ?_)
  · replace h := Option.some.inj h; subst h
    exact x_end 4 [] [] onil onil (by kernel_rfl)
  · obtain ⟨v1, hv1, h⟩ := bind_some h
    obtain ⟨v2, hv2, h⟩ := bind_some h
    obtain ⟨v3, hv3, h⟩ := bind_some h
    obtain ⟨v4, hv4, h⟩ := bind_some h
    obtain ⟨v5, hv5, h⟩ := bind_some h
    refine x_frk 73 [(1, .call [] [] (.tup [.agg [i64 v1.1.X, i64 v1.1.Y, i64 v1.1.Z], .agg [i64 v1.2.1.X, i64 v1.2.1.Y, i64 v1.2.1.Z], .agg [i64 v1.2.2.A, i64 v1.2.2.B, i64 v1.2.2.C, i64 v1.2.2.D]]) []), (12, .call [] [] (.tup [.agg [bl v2.1.inn, i64 v2.1.pl.A, i64 v2.1.pl.B, i64 v2.1.pl.C, i64 v2.1.pl.D, .sl true 6 v2.1.kids.length ((eSol true).f v2.1.kids)], i64 v2.2]) []), (8, .call [] [] (.tup [.agg [bl v3.1.inn, i64 v3.1.pl.A, i64 v3.1.pl.B, i64 v3.1.pl.C, i64 v3.1.pl.D, .sl true 6 v3.1.kids.length ((eSol true).f v3.1.kids)], i64 v3.2]) []), (9, .call [] [] (.tup [.agg [bl v4.1.inn, i64 v4.1.pl.A, i64 v4.1.pl.B, i64 v4.1.pl.C, i64 v4.1.pl.D, .sl true 6 v4.1.kids.length ((eSol true).f v4.1.kids)], i64 v4.2]) []), (9, .call [] [] (.tup [.agg [bl v5.1.inn, i64 v5.1.pl.A, i64 v5.1.pl.B, i64 v5.1.pl.C, i64 v5.1.pl.D, .sl true 6 v5.1.kids.length ((eSol true).f v5.1.kids)], i64 v5.2]) [])] (ocons (Tspec_DrawWedge (Y := Y) n a0 _ hv1) (ocons (Timpl_Brick (Y := Y) n v1.1 v1.2.1 _ hv2) (ocons (Tspec_Brick (Y := Y) n v1.1 v1.2.1 _ hv3) (ocons (Timpl_Wedge (Y := Y) n v1.1 v1.2.1 v1.2.2 _ hv4) (ocons (Tspec_Wedge (Y := Y) n v1.1 v1.2.1 v1.2.2 _ hv5) onil))))) h (by kernel_rfl) (fun h => ?_) (fun h => ?_)
    · replace h := Option.some.inj h; subst h
      exact x_end 10 [] [] onil onil (by kernel_rfl)
    · exact x_to 5 [] onil (Tlaws_FnBricks_0 n a0 v2.2 v4.2 (v4.2 != v5.2) v1.1.X v1.1.Y v1.1.Z v1.2.1.X v1.2.1.Y v1.2.1.Z v1.2.2.A v1.2.2.B v1.2.2.C v1.2.2.D v2.1.inn v2.1.pl.A v2.1.pl.B v2.1.pl.C v2.1.pl.D v2.1.kids v4.1.inn v4.1.pl.A v4.1.pl.B v4.1.pl.C v4.1.pl.D v4.1.kids r h) (by kernel_rfl)
end Evl.T
