/- Results of a function. No condition. -/
import Derived.Test.YtpjeibdllddkjaaEvo
namespace Evl
open Go

variable {P : Program} {H : Hints} {fid : FuncId} {N : Nat} {w0 w w' : World} {M : Nat → Prop} {V0 V V' : Nat → Nat} {K K' : Nat → Nat × Nat} {O O' : Nat → Option Loc} {s : S} {a : Act} {fp : List Nat} {v : Value}

/-- A result, as the caller has it. -/
inductive RepR (V : Nat → Nat) (w : World) : List Nat → Value → AV → Prop
  | v (K : Nat → Nat × Nat) (fp : List Nat) (v : Value) (r : AV) : RepU V w K fp v r → ids r = [] → RepR V w fp v r
  | nbx (K : Nat → Nat × Nat) (g : Nat) (T : TypeId) (arr : Array Value) (fz : Nat × Nat) (us : List Value) (fq : List Nat) (cs : List AV) : w.heap[g]? = some (.cells arr T fz) → thawed arr fz → arr.size = us.length → (∀ (j : Nat) (v : Value), us[j]? = some v → arr[j]? = some v) → V g = 0 → Rep V w K false fq us cs → RepR V w (g :: fq) (.pointer (some ⟨g, 0, none⟩)) (.nbx cs)

/-- What a call hands back: one value, or several. -/
inductive RepQ (V : Nat → Nat) (w : World) : List Nat → Value → AV → Prop
  | one (fp : List Nat) (v : Value) (r : AV) : RepR V w fp v r → RepQ V w fp v r
  | tup (K : Nat → Nat × Nat) (fp : List Nat) (us : List Value) (rs : List AV) : RepT V w K fp us rs → idsL rs = [] → RepQ V w fp (.tuple us.toArray) (.tup rs)

/-- What is asked of 'V'' when the rows ks have become trees. -/
structure Frz (V : Nat → Nat) (K : Nat → Nat × Nat) (O : Nat → Option Loc) (s : S) (ks : List Nat) (V' : Nat → Nat) : Prop where
  le : ∀ g, V g ≤ V' g
  other : ∀ g, (∀ r ∈ ks, O g = some (false, r) → g ≠ (K r).1) → V' g = V g
  row : ∀ r ∈ ks, ∀ x, s.b r = some x → (x.sz = 0 ∨ x.cs ≠ [] ∨ (K r).2 ≠ 0) → V' (K r).1 = x.cs.length
theorem frz (R : RelG N w0 M V0 K V O s a w) (ks : List Nat) : Frz V K O s ks (vfz V K O s ks) :=
  ⟨vfz_le ks, fun _ h => vfz_other ks h, fun _ hr _ hb hx => vfz_row R hr hb hx⟩

def rowsOf (s : S) (ks : List Nat) : List Nat := ks.filter fun r => match s.b r with | some x => x.sz != 0 | none => false

theorem freezeL_rows : ∀ {cs ys : List AV} {ks : List Nat}, freezeL s.b cs = some (ys, ks) → ∀ r ∈ ks, ∃ x, s.b r = some x ∧ x.sz ≠ 0 := by
  intro cs
  induction cs with
  | nil => intro ys ks h; cases h; simp
  | cons c cs ih =>
    intro ys ks h
    unfold freezeL at h
    split at h
    · simp_all
    · rename_i r n cs' e
      obtain ⟨rfl, rfl⟩ := by simpa using e
      split at h
      · rename_i x ys' ks' hb hf
        simp only [Option.ite_none_right_eq_some, Option.some.injEq, Prod.mk.injEq] at h
        obtain ⟨⟨hz, _, hr⟩, rfl, rfl⟩ := h
        intro q hq
        rcases List.mem_cons.1 hq with rfl | hq
        · exact ⟨x, hb, hz⟩
        · exact ih hf q hq
      · cases h
    · cases h
    · rename_i c' cs' _ _ e
      obtain ⟨rfl, rfl⟩ := by simpa using e
      split at h
      · rename_i ys' ks' hf
        cases h; exact ih hf
      · cases h
theorem mem_rowsOf {ks : List Nat} {r : Nat} (h : r ∈ ks) {x : Box} (hb : s.b r = some x) (hz : x.sz ≠ 0) : r ∈ rowsOf s ks := by
  simp [rowsOf, h, hb, hz]
theorem rowsOf_mem {ks : List Nat} {r : Nat} (h : r ∈ rowsOf s ks) : r ∈ ks ∧ ∃ x, s.b r = some x ∧ x.sz ≠ 0 := by
  simp only [rowsOf, List.mem_filter] at h
  refine ⟨h.1, ?_⟩
  have := h.2
  split at this
  · rename_i x hx; exact ⟨x, hx, by simpa using this⟩
  · cases this

/-- One result's run in the model. -/
def resRun (P : Program) (tmps : Array Value) (w : World) (x : ResultVar) (u : Value) : Prop :=
  (match x with
  | .tmp t => (pure (tmps.getD t undef) : Sem Value)
  | .cell a t => do loadVar t (← asAddr (tmps.getD a undef))).run P w = .ok u w

theorem rep_ids {m us cs} (h : Rep V w K m fp us cs) (e : m = false) : idsL cs = [] := h.noIds e

theorem own_of_tmp (R : RelG N w0 M V0 K V O s a w) {t : Nat} {g : Nat} (h : O g = some (true, t)) (r : Nat) : O g ≠ some (false, r) := by
  rw [h]; intro e; cases e

theorem res_one (R : RelG N w0 M V0 K V O s a w) {KS : List Nat} (F : Frz V K O s (rowsOf s KS) V') (x : ResultVar) {r : AV} {ks ts : List Nat} (h : resE P s x = some (r, ks, ts)) (hks : ∀ k ∈ ks, k ∈ KS) :
    ∃ u fp, resRun P a.tmps w x u ∧ RepR V' w fp u r ∧ fp.Nodup ∧ ∀ g ∈ fp, (∃ t ∈ ts, O g = some (true, t)) ∨ ∃ b ∈ ks, O g = some (false, b) := by
  cases x with
  | tmp t =>
    obtain ⟨fp, h1, h2, h3⟩ := R.tm t
    have hd : ∀ g ∈ fp, ∀ r ∈ rowsOf s KS, O g = some (false, r) → g ≠ (K r).1 := fun g hg r _ e => absurd e (own_of_tmp R (h2 g hg) r)
    have hvm : ∀ g ∈ fp, V' g = V g := fun g hg => F.other g (hd g hg)
    simp only [resE] at h
    split at h
    · rename_i q n hq
      split at h
      · rename_i y ks' hf
        cases h
        rw [hq] at h3
        have hr := inv_one h3 (.inr ⟨_, _, rfl⟩)
        obtain ⟨fq, g1, g2, g3⟩ := freeze_rep R V' F.le _ F.other F.row [.msl q n] [r] _ fp ks hf hr (fun k hk => by
          obtain ⟨x, hx, hz⟩ := freezeL_rows hf k hk
          exact mem_rowsOf (hks k hk) hx hz) h1 hd (fun g hg r _ => own_of_tmp R (h2 g hg) r)
        refine ⟨_, fq, rfl, .v K _ _ _ (.one (g1.up true fun e => by cases e)) (by have := g1.noIds rfl; simpa [idsL] using this), g2, fun g hg => ?_⟩
        rcases g3 g hg with e | ⟨k, hk, e⟩
        · exact .inl ⟨t, by simp, h2 g e⟩
        · exact .inr ⟨k, hk, e⟩
      · cases h
    · rename_i cs hq
      split at h
      · rename_i ys ks' hf
        cases h
        rw [hq] at h3
        obtain ⟨us, hv, hr⟩ := inv_agg h3
        obtain ⟨fq, g1, g2, g3⟩ := freeze_rep R V' F.le _ F.other F.row cs ys us fp ks hf hr (fun k hk => by
          obtain ⟨x, hx, hz⟩ := freezeL_rows hf k hk
          exact mem_rowsOf (hks k hk) hx hz) h1 hd (fun g hg r _ => own_of_tmp R (h2 g hg) r)
        refine ⟨_, fq, rfl, .v K _ _ _ (by rw [hv]; exact .agg (g1.up true fun e => by cases e)) (by simpa [ids] using g1.noIds rfl), g2, fun g hg => ?_⟩
        rcases g3 g hg with e | ⟨k, hk, e⟩
        · exact .inl ⟨t, by simp, h2 g e⟩
        · exact .inr ⟨k, hk, e⟩
      · cases h
    · rename_i b hq
      split at h
      · rename_i bx hb
        simp only [Option.ite_none_right_eq_some, Option.some.injEq, Prod.mk.injEq] at h
        obtain ⟨⟨hlt, hz, hst, hcl⟩, rfl, rfl, rfl⟩ := h
        rw [hq] at h3
        obtain ⟨hv, -⟩ := inv_ptr h3
        obtain ⟨fb, arr, T, fz, us, q1, q2, q3⟩ := R.bxr b bx hb (.inl hz)
        have hno : ∀ g ∈ (K b).1 :: fb, V' g = V g := fun g hg => F.other g fun r hr e => by
          rw [q2 g hg] at e; cases e
          obtain ⟨_, x, hx, hz'⟩ := rowsOf_mem hr
          rw [hb] at hx; cases hx; exact absurd hz hz'
        have hdown : Rep V w K false fb us bx.cs := (q3.rep).down (fun c hc b n e => by
          have := List.all_eq_true.1 hcl c hc
          rw [e] at this; cases this)
        refine ⟨_, (K b).1 :: fb, rfl, ?_, q1, fun g hg => .inr ⟨b, by simp, q2 g hg⟩⟩
        rw [hv]
        exact .nbx K _ T arr fz us fb _ q3.hp q3.th (q3.var hz).1 q3.pre (by rw [hno _ List.mem_cons_self, q3.vis, hst]; rfl) (hdown.vmono F.le fun g hg => hno g (by simp [hg]))
      · cases h
    · rename_i u hq
      cases h; rw [hq] at h3
      obtain ⟨e, rfl, hp⟩ := inv_lit h3
      exact ⟨_, [], rfl, .v K _ _ _ (by rw [e]; exact .one (.lit hp .nil)) rfl, List.nodup_nil, by simp⟩
    · rename_i hq
      cases h; rw [hq] at h3
      obtain ⟨e, rfl⟩ := inv_nil h3
      exact ⟨_, [], rfl, .v K _ _ _ (by rw [e]; exact .one (.nl .nil)) rfl, List.nodup_nil, by simp⟩
    · rename_i o z n cs hq
      cases h; rw [hq] at h3
      have hr := inv_one h3 (.inl ⟨_, _, _, _, rfl⟩)
      exact ⟨_, fp, rfl, .v K _ _ _ (.one (hr.vmono F.le hvm)) rfl, h1, fun g hg => .inl ⟨t, by simp, h2 g hg⟩⟩
    · cases h
  | cell c t =>
    simp only [resE] at h
    split at h
    · rename_i b k ag hq hs hg
      obtain ⟨f0, _, _, h3⟩ := R.tm c
      rw [hq] at h3
      obtain ⟨hv, -⟩ := inv_ptr h3
      split at h
      · rename_i bx hb
        split at h
        · rename_i hh
          obtain ⟨hlt, hlen, hz⟩ := hh
          split at h
          · rename_i ys ks' hf
            split at h
            · cases h
            · rename_i hbk
              obtain ⟨fb, arr, T, fz, us, q1, q2, q3⟩ := R.bxr b bx hb (.inl hz)
              have hn := List.nodup_cons.1 q1
              have hrep := q3.rep
              have hzb : (bx.sz == 0) = true := by simp [hz]
              rw [hzb] at hrep
              have hful : us.length = k := hrep.len.trans hlen
              have key : (∀ q ∈ ks', q ∈ KS) → ∃ fq, Rep V' w K false fq us ys ∧ fq.Nodup ∧ ∀ g ∈ fq, g ∈ fb ∨ ∃ r ∈ ks', O g = some (false, r) := fun hk' =>
                freeze_rep R V' F.le _ F.other F.row bx.cs ys us fb ks' hf hrep (fun q hq => by
                  obtain ⟨x, hx, hz'⟩ := freezeL_rows hf q hq
                  exact mem_rowsOf (hk' q hq) hx hz') hn.2 (fun g hg r _ e => by
                    rw [q2 g (by simp [hg])] at e; cases e
                    intro e; exact hn.1 (by rw [← e]; exact hg)) (fun g hg r hr e => by
                    rw [q2 g (by simp [hg])] at e; cases e; exact hbk hr)
              have hcell : ∀ (j : Nat) (v : Value), us[j]? = some v → w.cell? ⟨(K b).1, 0 + j, none⟩ = some v := fun j v hj => by rw [Nat.zero_add]; exact q3.cell hj
              cases ag with
              | true =>
                simp only [Option.some.injEq, Prod.mk.injEq] at h
                obtain ⟨rfl, rfl, rfl⟩ := h
                obtain ⟨fq, g1, g2, g3⟩ := key fun q hq => hks q (by simp [hq])
                have := run_loadVar_agg (P := P) (w := w) hg hs (K b).1 0 us hful hcell
                refine ⟨.agg us.toArray, fq, ?_, .v K _ _ _ (.agg (g1.up true fun e => by cases e)) (by simpa [ids] using g1.noIds rfl), g2, fun g hg => .inr ?_⟩
                · simp [resRun, hv, asAddr, this]
                · rcases g3 g hg with e | ⟨q, hq, e⟩
                  · exact ⟨b, by simp, q2 g (by simp [e])⟩
                  · exact ⟨q, by simp [hq], e⟩
              | false =>
                match ys, h with
                | [y], h =>
                  simp only [Option.some.injEq, Prod.mk.injEq] at h
                  obtain ⟨rfl, rfl, rfl⟩ := h
                  obtain ⟨fq, g1, g2, g3⟩ := key fun q hq => hks q (by simp [hq])
                  obtain ⟨u, rfl⟩ : ∃ u, us = [u] := by
                    have := g1.len
                    match us, this with
                    | [u], _ => exact ⟨u, rfl⟩
                  have := run_loadVar_one (P := P) (w := w) hg (K b).1 0 u (by have := hcell 0 u rfl; simpa using this)
                  refine ⟨u, fq, ?_, .v K _ _ _ (.one (g1.up true fun e => by cases e)) (by have := g1.noIds rfl; simpa [idsL] using this), g2, fun g hg => .inr ?_⟩
                  · simp [resRun, hv, asAddr, this]
                  · rcases g3 g hg with e | ⟨q, hq, e⟩
                    · exact ⟨b, by simp, q2 g (by simp [e])⟩
                    · exact ⟨q, by simp [hq], e⟩
                | [], h => simp at h
                | _ :: _ :: _, h => simp at h
          · cases h
        · cases h
      · cases h
    · cases h

end Evl
