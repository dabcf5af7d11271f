/- Operations in states that look alike. No condition. -/
import Derived.Test.YtpjeibdllddkjaaEvv
namespace Evl
open Go

variable {P : Program} {H : Hints} {fid : FuncId} {s u : S}

theorem appArg_congr {sz : Nat} {y : AV} {ys : List AV} {ks rs : List Nat} (h : appArg s sz y = some (ys, ks, rs)) (hb : ∀ k ∈ rs, u.b k = s.b k) : appArg u sz y = some (ys, ks, rs) := by
  cases y <;> try exact h
  rename_i r n
  have hr : u.b r = s.b r := by
    apply hb
    simp only [appArg] at h
    split at h
    · simp only [Option.ite_none_right_eq_some] at h
      have h := h.2
      split at h <;> cases h <;> exact List.mem_singleton.2 rfl
    · cases h
  simp only [appArg, hr] at h ⊢; exact h

theorem appendE_congr {d : Nat} {t : TypeId} {x y : AV} {e : Eff} (h : appendE P d t s x y = some e) (hb : ∀ k ∈ e.rd, u.b k = s.b k) : appendE P d t u x y = some e := by
  unfold appendE at h ⊢
  split at h
  · rename_i e' sz bytes ht
    split at h
    · cases h
    · rename_i hc
      split at h
      · rename_i ys ks rs hy
        split at h
        · cases h
        · rename_i hdk
          split at h
          · have hrs : e.rd = rs := by
              simp only [Option.ite_none_right_eq_some] at h
              have h := h.2
              split at h <;> cases h <;> rfl
            simp only [if_neg hc, appArg_congr hy fun k hk => hb k (by rw [hrs]; exact hk), if_neg hdk]
            exact h
          · rename_i r n
            split at h
            · rename_i bx hr
              have hrs : e.rd = r :: rs := by
                simp only [Option.ite_none_right_eq_some, Option.some.injEq] at h
                rw [← h.2]
              simp only [if_neg hc, appArg_congr hy fun k hk => hb k (by rw [hrs]; simp [hk]), if_neg hdk, hb r (by rw [hrs]; simp), hr]
              exact h
            · cases h
          · cases h
      · cases h
  · cases h

theorem opE_congr {o : Oper} {e : Eff} (h : opE P H fid o s = some e) (hx : ∀ x ∈ o.op.operands, u.ev x = s.ev x) (hb : ∀ k ∈ e.rd, u.b k = s.b k) : opE P H fid o u = some e := by
  cases hop : o.op with
  | move x =>
    rw [hop] at hx; have h1 := hx x (by simp [Op.operands])
    simp only [opE, hop, h1] at h ⊢; exact h
  | assign x =>
    rw [hop] at hx; have h1 := hx x (by simp [Op.operands])
    simp only [opE, hop, h1] at h ⊢; exact h
  | pick c x y =>
    rw [hop] at hx; have h1 := hx c (by simp [Op.operands]); have h2 := hx x (by simp [Op.operands]); have h3 := hx y (by simp [Op.operands])
    simp only [opE, hop, h1, h2, h3] at h ⊢; exact h
  | alloc t => simp only [opE, hop] at h ⊢; exact h
  | box t x =>
    rw [hop] at hx; have h1 := hx x (by simp [Op.operands])
    simp only [opE, hop, h1] at h ⊢; exact h
  | build t ps =>
    rw [hop] at hx
    obtain ⟨h1, h2⟩ := partsOf_congr (u := u) (s := s) (l := ps.toList) fun q hq => hx q.2 (by simp only [Op.operands, List.mem_toArray, List.mem_map]; exact ⟨q, hq, rfl⟩)
    simp only [opE, hop, h1, h2] at h ⊢; exact h
  | buildSlice t n ps =>
    rw [hop] at hx
    obtain ⟨h1, h2⟩ := partsOf_congr (u := u) (s := s) (l := ps.toList) fun q hq => hx q.2 (by simp only [Op.operands, List.mem_toArray, List.mem_map]; exact ⟨q, hq, rfl⟩)
    simp only [opE, hop, h1, h2] at h ⊢
    split at h
    · rename_i d e' sz _ ps' g1 g2 g3
      split at h
      · rename_i z hz
        simp only [Option.ite_none_right_eq_some] at h
        obtain ⟨hc, h⟩ := h
        rw [if_pos hc]
        split at h
        · rename_i cs hcs
          split at h
          · rename_i ys ks hf
            cases h
            rw [freezeL_congr hf (b' := u.b) (fun k hk => hb k hk)]
          · cases h
        · cases h
      · cases h
    · cases h
  | load t x =>
    rw [hop] at hx; have h1 := hx x (by simp [Op.operands])
    simp only [opE, hop, h1] at h ⊢
    split at h
    · exact loadE_congr h hb
    · cases h
  | store t x y =>
    rw [hop] at hx; have h1 := hx x (by simp [Op.operands]); have h2 := hx y (by simp [Op.operands])
    simp only [opE, hop, h1, Option.ite_none_right_eq_some] at h ⊢
    exact ⟨h.1, storeE_congr h.2 h2 hb⟩
  | nilCheck x =>
    rw [hop] at hx; have h1 := hx x (by simp [Op.operands])
    simp only [opE, hop, h1] at h ⊢; exact h
  | binOp op t x y t' =>
    rw [hop] at hx; have h1 := hx x (by simp [Op.operands]); have h2 := hx y (by simp [Op.operands])
    simp only [opE, hop, h1, h2] at h ⊢; exact h
  | unOp op t x =>
    rw [hop] at hx; have h1 := hx x (by simp [Op.operands])
    simp only [opE, hop, h1] at h ⊢; exact h
  | convert t t' x =>
    rw [hop] at hx; have h1 := hx x (by simp [Op.operands])
    simp only [opE, hop, h1] at h ⊢
    split at h <;> try exact h
    rename_i r n _
    have hr : u.b r = s.b r := by
      apply hb
      split at h
      · simp only [Option.ite_none_right_eq_some, Option.some.injEq] at h
        rw [← h.2]; exact List.mem_singleton.2 rfl
      · cases h
    rw [hr]; exact h
  | fieldAddr t x f =>
    rw [hop] at hx; have h1 := hx x (by simp [Op.operands])
    simp only [opE, hop, h1] at h ⊢; exact h
  | indexAddr t x i =>
    rw [hop] at hx; have h1 := hx x (by simp [Op.operands]); have h2 := hx i (by simp [Op.operands])
    simp only [opE, hop, h1, h2] at h ⊢
    split at h
    · split at h <;> try exact h
      rename_i r n e' z' _ _ _ _
      have hr : u.b r = s.b r := by
        apply hb
        split at h
        · simp only [Option.ite_none_right_eq_some, Option.some.injEq] at h
          rw [← h.2]; simp
        · cases h
      rw [hr]; exact h
    · cases h
  | index t x i =>
    rw [hop] at hx; have h1 := hx x (by simp [Op.operands]); have h2 := hx i (by simp [Op.operands])
    simp only [opE, hop, h1, h2] at h ⊢; exact h
  | extract x i =>
    rw [hop] at hx; have h1 := hx x (by simp [Op.operands])
    simp only [opE, hop, h1] at h ⊢; exact h
  | makeSlice t n c =>
    rw [hop] at hx; have h1 := hx n (by simp [Op.operands]); have h2 := hx c (by simp [Op.operands])
    simp only [opE, hop, h1, h2] at h ⊢; exact h
  | slice t x lo hi mx =>
    rw [hop] at hx; have h1 := hx x (by simp [Op.operands])
    have h2 : ∀ z, bnd u z lo = bnd s z lo := fun z => by
      cases lo with
      | none => rfl
      | some l => simp only [bnd]; rw [hx l (by simp [Op.operands])]
    have h3 : ∀ z, bnd u z hi = bnd s z hi := fun z => by
      cases hi with
      | none => rfl
      | some l => simp only [bnd]; rw [hx l (by simp [Op.operands])]
    simp only [opE, hop, h1, Option.ite_none_left_eq_some] at h ⊢
    refine ⟨h.1, ?_⟩
    have h := h.2
    cases hs : s.ev x with
    | msl r n =>
      rw [hs] at h
      have hr : u.b r = s.b r := by
        apply hb
        simp only [sliceE] at h
        split at h
        · split at h
          · simp only [Option.ite_none_right_eq_some, Option.some.injEq] at h
            rw [← h.2]; exact List.mem_singleton.2 rfl
          · cases h
        · cases h
      simp only [sliceE, hr, h2, h3] at h ⊢; exact h
    | sl o z n cs => rw [hs] at h; simp only [sliceE, h2, h3] at h ⊢; exact h
    | lit v => rw [hs] at h; cases v <;> simp only [sliceE, h2, h3] at h ⊢ <;> exact h
    | _ => rw [hs] at h; exact h
  | makeFunc fn fs cs =>
    rw [hop] at hx
    have h1 : cs.toList.map u.ev = cs.toList.map s.ev := List.map_congr_left fun c hc => hx c (by simp only [Op.operands, Array.mem_append]; exact .inr (by simpa using hc))
    cases fn with
    | func f => simp only [opE, hop, h1] at h ⊢; exact h
    | _ => simp [opE, hop] at h
  | call c =>
    obtain ⟨cal, args, ts⟩ := c
    cases cal with
    | builtin b =>
      rw [hop] at hx
      have hargs : ∀ x ∈ args.toList, u.ev x = s.ev x := fun x hx' => hx x (by simp [Op.operands, Call.operands]; simpa using hx')
      have hmap : args.toList.map u.ev = args.toList.map s.ev := List.map_congr_left hargs
      cases b with
      | len =>
        simp only [opE, hop] at h ⊢
        split at h
        · rename_i x t e1 e2
          rw [hargs x (by rw [e1]; simp)]; exact h
        · cases h
      | max => simp only [opE, hop, hmap] at h ⊢; exact h
      | min => simp only [opE, hop, hmap] at h ⊢; exact h
      | append =>
        simp only [opE, hop] at h ⊢
        split at h
        · rename_i d x y t t' e0 e1 e2
          rw [hargs x (by rw [e1]; simp), hargs y (by rw [e1]; simp)]
          simp only [Option.ite_none_right_eq_some] at h ⊢
          exact ⟨h.1, appendE_congr h.2 hb⟩
        · cases h
      | _ => simp [opE, hop] at h
    | value f => simp [opE, hop] at h
    | invoke r m => simp [opE, hop] at h
  | _ => simp [opE, hop] at h
end Evl
