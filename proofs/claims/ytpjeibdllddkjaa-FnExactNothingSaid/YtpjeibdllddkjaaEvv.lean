/- States that look alike: the abstract machine does the same. No condition. -/
import Derived.Test.YtpjeibdllddkjaaEvu
namespace Evl
open Go

variable {P : Program} {H : Hints} {fid : FuncId} {b b' : Nat → Option Box} {s u : S}

theorem freezeL_congr : ∀ {cs ys : List AV} {ks : List Nat}, freezeL b cs = some (ys, ks) → (∀ k ∈ ks, b' k = b k) → freezeL b' cs = some (ys, ks) := by
  intro cs
  induction cs with
  | nil => intro ys ks h _; exact h
  | cons c cs ih =>
    intro ys ks h hb
    unfold freezeL at h
    split at h
    · simp_all
    · rename_i r n cs' e
      obtain ⟨rfl, rfl⟩ := by simpa using e
      split at h
      · rename_i x ys' ks' hx hf
        simp only [Option.ite_none_right_eq_some, Option.some.injEq, Prod.mk.injEq] at h
        obtain ⟨hc, rfl, rfl⟩ := h
        have := ih hf fun k hk => hb k (by simp [hk])
        simp only [freezeL, hb r (by simp), hx, this]
        rw [if_pos hc]
      · cases h
    · cases h
    · rename_i c' cs' h1 h2 e
      obtain ⟨rfl, rfl⟩ := by simpa using e
      split at h
      · rename_i ys' ks' hf
        cases h
        have := ih hf hb
        cases c <;> first | (exact absurd rfl (h1 _ _)) | (exact absurd rfl h2) | (simp only [freezeL, this])
      · cases h

theorem roCell_congr {c y : AV} (h : roCell b c = some y) (hb : ∀ k ∈ ids c, b' k = b k) : roCell b' c = some y := by
  cases c <;> try exact h
  rename_i r n
  simp only [roCell] at h ⊢
  rw [hb r (by simp [ids])]; exact h
theorem roCells_congr : ∀ {cs ys : List AV}, roCells b cs = some ys → (∀ k ∈ idsL cs, b' k = b k) → roCells b' cs = some ys := by
  intro cs
  induction cs with
  | nil => intro ys h _; exact h
  | cons c cs ih =>
    intro ys h hb
    simp only [roCells] at h ⊢
    split at h
    · rename_i y ys' h1 h2
      cases h
      rw [roCell_congr h1 fun k hk => hb k (by simp [idsL, hk]), ih h2 fun k hk => hb k (by simp [idsL, hk])]
    · cases h
theorem idsL_drop (n : Nat) : ∀ (l : List AV), ∀ k ∈ idsL (l.drop n), k ∈ idsL l := by
  induction n with
  | zero => intro l k h; simpa using h
  | succ n ih => intro l k h; cases l with
    | nil => simpa using h
    | cons c l => simp only [List.drop_succ_cons] at h; simp only [idsL, List.mem_append]; exact .inr (ih l k h)
theorem roPtr_congr {x y : AV} (h : roPtr b x = some y) (h1 : ∀ k ∈ ids x, b' k = b k) (h2 : ∀ k ∈ inside b x, b' k = b k) : roPtr b' x = some y := by
  cases x <;> try exact h
  rename_i r off
  simp only [roPtr] at h ⊢
  rw [h1 r (by simp [ids])]
  split at h
  · rename_i z hz
    simp only [Option.ite_none_right_eq_some, Option.map_eq_some_iff] at h
    obtain ⟨hl, ds, hd, rfl⟩ := h
    rw [if_pos hl, roCells_congr hd fun k hk => h2 k (by simp only [inside, hz]; exact idsL_drop off z.cs k hk)]
    rfl
  · cases h
theorem roCaps_congr : ∀ {cs ys : List AV}, roCaps b cs = some ys → (∀ k ∈ idsL cs, b' k = b k) → (∀ k ∈ cs.flatMap (inside b), b' k = b k) → roCaps b' cs = some ys := by
  intro cs
  induction cs with
  | nil => intro ys h _ _; exact h
  | cons c cs ih =>
    intro ys h h1 h2
    simp only [roCaps] at h ⊢
    split at h
    · rename_i y ys' g1 g2
      cases h
      rw [roPtr_congr g1 (fun k hk => h1 k (by simp [idsL, hk])) (fun k hk => h2 k (by simp only [List.flatMap_cons, List.mem_append]; exact .inl hk)), ih g2 (fun k hk => h1 k (by simp [idsL, hk])) (fun k hk => h2 k (by simp only [List.flatMap_cons, List.mem_append]; exact .inr hk))]
    · cases h
theorem inside_congr {x : AV} (h1 : ∀ k ∈ ids x, b' k = b k) : inside b' x = inside b x := by
  cases x <;> try rfl
  rename_i r off
  simp only [inside]; rw [h1 r (by simp [ids])]
theorem insides_congr : ∀ {cs : List AV}, (∀ k ∈ idsL cs, b' k = b k) → cs.flatMap (inside b') = cs.flatMap (inside b) := by
  intro cs
  induction cs with
  | nil => intro _; rfl
  | cons c cs ih =>
    intro h
    simp only [List.flatMap_cons]
    rw [ih fun k hk => h k (by simp [idsL, hk]), inside_congr fun k hk => h k (by simp [idsL, hk])]
theorem leans_congr {x : AV} (h : ∀ k ∈ ids x, b' k = b k) : leans b' x = leans b x := by
  unfold leans
  congr 1
  cases x <;> first | rfl | exact inside_congr h | exact insides_congr (by simpa [ids] using h)
theorem ro_congr {x y : AV} (h : ro b x = some y) (hk : ∀ k ∈ leans b x, b' k = b k) : ro b' x = some y := by
  have h1 : ∀ k ∈ ids x, b' k = b k := fun k hk' => hk k (by simp [leans, hk'])
  cases x with
  | agg cs =>
    simp only [ro, Option.map_eq_some_iff] at h ⊢
    obtain ⟨ds, hd, rfl⟩ := h
    exact ⟨ds, roCells_congr hd (by simpa [ids] using h1), rfl⟩
  | ptr r off => exact roPtr_congr (x := .ptr r off) h h1 fun k hk' => hk k (by simp only [leans, List.mem_append]; exact .inr hk')
  | fnv f cs =>
    simp only [ro, Option.map_eq_some_iff] at h ⊢
    obtain ⟨ds, hd, rfl⟩ := h
    exact ⟨ds, roCaps_congr hd (by simpa [ids] using h1) (fun k hk' => hk k (by simp only [leans, List.mem_append]; exact .inr hk')), rfl⟩
  | msl r n => exact roCell_congr (c := .msl r n) h h1
  | _ => exact h

theorem prep_congr {f : FuncId} : ∀ {xs : List Operand} {i : Nat} {p : Prep}, prep H f s i xs = some p → (∀ x ∈ xs, u.ev x = s.ev x) → (∀ k ∈ p.tmp ++ p.kl ++ p.mts.map (·.2), u.b k = s.b k) → prep H f u i xs = some p := by
  intro xs
  induction xs with
  | nil => intro i p h _ _; exact h
  | cons x xs ih =>
    intro i p h hx hb
    simp only [prep] at h ⊢
    split at h
    · cases h
    · rename_i p' hp'
      have hxx : u.ev x = s.ev x := hx x (by simp)
      rw [hxx]
      have ih' := fun hh => ih hp' (fun y hy => hx y (by simp [hy])) hh
      split at h
      · rename_i hm
        split at h
        · rename_i r hr
          split at h
          · rename_i bx hbx
            simp only [Option.ite_none_right_eq_some, Option.some.injEq] at h
            obtain ⟨hc, rfl⟩ := h
            rw [ih' (fun k hk => hb k (by simp only [List.map_cons, List.mem_append, List.mem_cons] at hk ⊢; rcases hk with hk | hk; exact .inl hk; exact .inr (.inr hk)))]
            simp only [hm, if_true, hr]
            rw [hb r (by simp), hbx]
            simp only [if_pos hc]
          · cases h
        · cases h
      · rename_i hm
        split at h
        · rename_i ho
          split at h
          · rename_i r n hr
            split at h
            · rename_i y ks hf
              simp only [Option.ite_none_left_eq_some, Option.some.injEq] at h
              obtain ⟨hc, rfl⟩ := h
              have hks : ks = [r] := by
                simp only [freezeL] at hf
                split at hf
                · rename_i z ys' ks' hb hf'
                  cases hf'
                  simp only [Option.ite_none_right_eq_some, Option.some.injEq, Prod.mk.injEq] at hf
                  exact hf.2.2.symm
                · cases hf
              rw [ih' (fun k hk => hb k (by simp only [List.mem_append, List.mem_cons] at hk ⊢; rcases hk with (hk | hk) | hk; exact .inl (.inl hk); exact .inl (.inr (.inr hk)); exact .inr hk))]
              simp only [hm, if_false, ho, if_true, hr, freezeL_congr hf (b' := u.b) (fun k hk => hb k (by rw [hks] at hk; simp at hk; simp [hk]))]
              simp only [Bool.false_eq_true, if_false, if_neg hc]
            · cases h
          · rename_i cs hr
            split at h
            · rename_i ys ks hf
              simp only [Option.ite_none_left_eq_some, Option.some.injEq] at h
              obtain ⟨hc, rfl⟩ := h
              rw [ih' (fun k hk => hb k (by simp only [List.mem_append] at hk ⊢; rcases hk with (hk | hk) | hk; exact .inl (.inl hk); exact .inl (.inr (.inr hk)); exact .inr hk))]
              simp only [hm, Bool.false_eq_true, if_false, ho, if_true, hr, freezeL_congr hf (b' := u.b) (fun k hk => hb k (by simp [hk]))]
              simp only [if_neg hc]
            · cases h
          · rename_i o z n cs hr
            simp only [Option.ite_none_left_eq_some, Option.some.injEq] at h
            obtain ⟨hc, rfl⟩ := h
            rw [ih' (fun k hk => hb k hk)]
            simp only [hm, Bool.false_eq_true, if_false, ho, if_true, hr]
            simp only [if_neg hc]
          · rename_i hr
            cases h
            rw [ih' (fun k hk => hb k hk)]
            simp only [hm, Bool.false_eq_true, if_false, ho, if_true, hr]
          · rename_i v hr
            cases h
            rw [ih' (fun k hk => hb k hk)]
            simp only [hm, Bool.false_eq_true, if_false, ho, if_true, hr]
          · cases h
        · rename_i ho
          split at h
          · rename_i y hy
            simp only [Option.ite_none_left_eq_some, Option.some.injEq] at h
            obtain ⟨hc, rfl⟩ := h
            rw [ih' (fun k hk => hb k (by simp only [List.mem_append] at hk ⊢; rcases hk with (hk | hk) | hk; exact .inl (.inl (.inr hk)); exact .inl (.inr hk); exact .inr hk))]
            have hl : ∀ k ∈ leans s.b (s.ev x), u.b k = s.b k := fun k hk => hb k (by simp only [List.mem_append]; exact .inl (.inl (.inl hk)))
            have hl2 : leans u.b (s.ev x) = leans s.b (s.ev x) := leans_congr fun k hk => hl k (by simp [leans, hk])
            simp only [hm, Bool.false_eq_true, if_false, ho, ro_congr hy hl, hl2]
            simp only [if_neg hc]
          · cases h

theorem bxOf_congr : ∀ {l : List (Nat × Nat)}, (∀ k ∈ l.map (·.2), u.b k = s.b k) → bxOf u l = bxOf s l := by
  intro l
  induction l with
  | nil => intro _; rfl
  | cons q l ih =>
    intro h
    obtain ⟨i, r⟩ := q
    funext k
    simp only [bxOf]
    rw [ih fun k hk => h k (by simp only [List.map_cons, List.mem_cons]; exact .inr hk), h r (by simp)]

theorem partsOf_congr : ∀ {l : List (Nat × Operand)}, (∀ q ∈ l, u.ev q.2 = s.ev q.2) → partsOf u l = partsOf s l ∧ partsGiven u l = partsGiven s l := by
  intro l
  induction l with
  | nil => intro _; exact ⟨rfl, rfl⟩
  | cons q l ih =>
    intro h
    obtain ⟨i, x⟩ := q
    obtain ⟨h1, h2⟩ := ih fun q hq => h q (by simp [hq])
    have := h (i, x) (by simp)
    simp only at this
    simp only [partsOf, partsGiven, this, h1, h2, true_and]

theorem loadE_congr {d : Nat} {t : TypeId} {x : AV} {e : Eff} (h : loadE P H fid d t s x = some e) (hb : ∀ k ∈ e.rd, u.b k = s.b k) : loadE P H fid d t u x = some e := by
  cases x <;> try exact h
  rename_i r off
  have hr : u.b r = s.b r := by
    apply hb
    simp only [loadE] at h
    split at h
    · split at h
      · split at h <;> cases h <;> simp
      · cases h
    · split at h <;> cases h <;> exact List.mem_singleton.2 rfl
    · cases h
  simp only [loadE] at h ⊢
  rw [hr]; exact h

theorem storeE_congr {t : TypeId} {xa : AV} {xo : Operand} {e : Eff} (h : storeE P t s xa xo = some e) (hx : u.ev xo = s.ev xo) (hb : ∀ k ∈ e.rd, u.b k = s.b k) : storeE P t u xa xo = some e := by
  unfold storeE at h ⊢
  rw [hx]
  split at h
  · rename_i r off k cs h1 h2
    split at h
    · rename_i x hxr
      split at h
      · rename_i hc
        split at h
        · rename_i hz
          cases h
          simp only [h1, h2, hb r (by simp), hxr, hz, if_true]
          simp only [if_pos hc]
        · rename_i hz
          split at h
          · rename_i ys ks hf
            simp only [Option.ite_none_left_eq_some, Option.some.injEq] at h
            obtain ⟨hn, rfl⟩ := h
            simp only [h1, h2, hb r (by simp), hxr]
            simp only [if_pos hc, if_neg hz, freezeL_congr hf (b' := u.b) (fun k hk => hb k (by simp [hk])), if_neg hn]
          · cases h
      · cases h
    · cases h
  · cases h
end Evl
