/- Local rows become trees. No condition. -/
import Derived.Test.YtpjeibdllddkjaaEvn
namespace Evl
open Go

variable {P : Program} {H : Hints} {fid : FuncId} {N : Nat} {w0 w w' : World} {M : Nat → Prop} {V0 V V' : Nat → Nat} {K K' : Nat → Nat × Nat} {O O' : Nat → Option Loc} {s : S} {a : Act} {fp : List Nat} {v : Value}

/-- What nobody writes any more when the rows ks are trees. -/
def vfz (V : Nat → Nat) (K : Nat → Nat × Nat) (O : Nat → Option Loc) (s : S) (ks : List Nat) : Nat → Nat := fun g =>
  match O g with
  | some (false, r) => if r ∈ ks ∧ g = (K r).1 then (match s.b r with | some x => max (V g) x.cs.length | none => V g) else V g
  | _ => V g

theorem vfz_le (ks : List Nat) (g : Nat) : V g ≤ vfz V K O s ks g := by
  unfold vfz
  split
  · split
    · split
      · exact Nat.le_max_left _ _
      · exact Nat.le_refl _
    · exact Nat.le_refl _
  · exact Nat.le_refl _
theorem vfz_other (ks : List Nat) {g : Nat} (h : ∀ r ∈ ks, O g = some (false, r) → g ≠ (K r).1) : vfz V K O s ks g = V g := by
  unfold vfz
  split
  · rename_i r hr
    split
    · rename_i hh; exact absurd hh.2 (h r hh.1 hr)
    · rfl
  · rfl
theorem vfz_row (R : RelG N w0 M V0 K V O s a w) {ks : List Nat} {r : Nat} {x : Box} (hr : r ∈ ks) (hb : s.b r = some x) (hx : x.sz = 0 ∨ x.cs ≠ [] ∨ (K r).2 ≠ 0) : vfz V K O s ks (K r).1 = x.cs.length := by
  obtain ⟨fb, arr, T, fz, us, h1, h2, h3⟩ := R.bxr r x hb hx
  have hO := h2 _ List.mem_cons_self
  unfold vfz
  rw [hO]; simp only [hr, and_self, if_true, hb, h3.vis]
  split <;> omega

theorem vfz_vr (R : RelG N w0 M V0 K V O s a w) (ks : List Nat) : ∀ g, 0 < vfz V K O s ks g → g < w.heap.size := by
  intro g hg
  unfold vfz at hg
  split at hg
  · rename_i r hr; exact (R.rg g _ hr).2
  · exact R.vr g hg

theorem Rep.vmono {m us cs} (h : Rep V w K m fp us cs) (hV : ∀ g, V g ≤ V' g) (ho : ∀ g ∈ fp, V' g = V g) : Rep V' w K m fp us cs :=
  h.mono (fun _ _ _ => rfl) hV (Nat.le_refl _) (fun g hg => ⟨rfl, ho g hg⟩) (fun _ _ => rfl)

theorem freezeL_nodup : ∀ {cs ys : List AV} {ks : List Nat}, freezeL s.b cs = some (ys, ks) → ks.Nodup := by
  intro cs
  induction cs with
  | nil => intro ys ks h; cases h; exact List.nodup_nil
  | cons c cs ih =>
    intro ys ks h
    unfold freezeL at h
    split at h
    · simp_all
    · rename_i r n cs' e
      obtain ⟨rfl, rfl⟩ := by simpa using e
      split at h
      · rename_i x ys' ks' hb hf
        simp only [Option.ite_none_right_eq_some, Option.some.injEq, Prod.mk.injEq] at h
        obtain ⟨⟨_, _, hr⟩, rfl, rfl⟩ := h
        exact List.nodup_cons.2 ⟨hr, ih hf⟩
      · cases h
    · cases h
    · rename_i c' cs' _ _ e
      obtain ⟨rfl, rfl⟩ := by simpa using e
      split at h
      · rename_i ys' ks' hf
        cases h; exact ih hf
      · cases h

theorem freeze_rep (R : RelG N w0 M V0 K V O s a w) (V' : Nat → Nat) (hV : ∀ g, V g ≤ V' g) (ks : List Nat) (hother : ∀ g, (∀ r ∈ ks, O g = some (false, r) → g ≠ (K r).1) → V' g = V g) (hrow : ∀ r ∈ ks, ∀ x, s.b r = some x → (x.sz = 0 ∨ x.cs ≠ [] ∨ (K r).2 ≠ 0) → V' (K r).1 = x.cs.length) :
    ∀ (cs ys : List AV) (us : List Value) (fp ks' : List Nat), freezeL s.b cs = some (ys, ks') → Rep V w K true fp us cs → (∀ r ∈ ks', r ∈ ks) → fp.Nodup → (∀ g ∈ fp, ∀ r ∈ ks, O g = some (false, r) → g ≠ (K r).1) → (∀ g ∈ fp, ∀ r ∈ ks', O g ≠ some (false, r)) →
    ∃ fq, Rep V' w K false fq us ys ∧ fq.Nodup ∧ ∀ g ∈ fq, g ∈ fp ∨ ∃ r ∈ ks', O g = some (false, r) := by
  intro cs
  induction cs with
  | nil =>
    intro ys us fp ks' h hr _ _ _ _
    cases h; cases hr
    exact ⟨[], .nil, List.nodup_nil, by simp⟩
  | cons c cs ih =>
    intro ys us fp ks' h hr hks hn hd hd'
    unfold freezeL at h
    split at h
    · simp_all
    · rename_i r n cs' e
      obtain ⟨rfl, rfl⟩ := by simpa using e
      split at h
      · rename_i x ys' ks1 hb hf
        simp only [Option.ite_none_right_eq_some, Option.some.injEq, Prod.mk.injEq] at h
        obtain ⟨⟨hz, hlen, hrk⟩, rfl, rfl⟩ := h
        cases hr with
        | mv b h0 hr =>
          obtain ⟨fq, q1, q2, q3⟩ := ih ys' _ _ ks1 hf hr (fun r hr => hks r (by simp [hr])) hn hd (fun g hg r hr => hd' g hg r (by simp [hr]))
          have hcs : x.cs = [] := List.eq_nil_of_length_eq_zero (by rw [← hlen]; simp)
          rw [hcs]
          exact ⟨fq, .on q1, q2, fun g hg => (q3 g hg).imp id fun ⟨r', hr', e⟩ => ⟨r', by simp [hr'], e⟩⟩
        | ms b h0 hn1 hr =>
          obtain ⟨fq, q1, q2, q3⟩ := ih ys' _ _ ks1 hf hr (fun r hr => hks r (by simp [hr])) hn hd (fun g hg r hr => hd' g hg r (by simp [hr]))
          obtain ⟨fb, arr, T, fz, ws, h1, h2, h3⟩ := R.bxr r x hb (.inr (.inr (by omega)))
          have hnb := List.nodup_cons.1 h1
          obtain ⟨cap', hcap', hrow'⟩ := h3.row hz
          have hce : cap' = _ := Nat.succ.inj (hcap'.symm.trans h0)
          subst hce
          have hwl : ws.length = n * x.sz := by rw [h3.rep.len, hlen]
          have hxz : (x.sz == 0) = false := by simp [hz]
          have hrep := h3.rep
          rw [hxz] at hrep
          refine ⟨(K r).1 :: (fb ++ fq), .ow _ T arr fz ws hn1 h3.hp h3.th hrow'.1 hwl hz h3.pre ?_ (hrep.vmono hV fun g hg => hother g ?_) q1, ?_, ?_⟩
          · rw [hrow r (hks r (by simp)) x hb (.inr (.inr (by omega)))]; exact hlen.symm.trans hwl.symm
          · intro r' hr' hO e
            rw [h2 g (by simp [hg])] at hO
            cases hO
            exact hnb.1 (by rw [← e]; exact hg)
          · have hdis : ∀ g ∈ (K r).1 :: fb, g ∉ fq := by
              intro g hg hm
              have hO := h2 g hg
              rcases q3 g hm with h | ⟨r', hr', hO'⟩
              · exact hd' g h r (by simp) hO
              · rw [hO] at hO'; cases hO'; exact hrk hr'
            rw [← List.cons_append]
            exact List.nodup_append.2 ⟨h1, q2, fun x hx y hy e => hdis x hx (by rw [e]; exact hy)⟩
          · intro g hg
            rw [← List.cons_append] at hg
            rcases List.mem_append.1 hg with hg | hg
            · exact .inr ⟨r, by simp, h2 g hg⟩
            · rcases q3 g hg with h | ⟨r', hr', hO'⟩
              · exact .inl h
              · exact .inr ⟨r', by simp [hr'], hO'⟩
      · cases h
    · cases h
    · rename_i c' cs' hc1 hc2 e
      obtain ⟨rfl, rfl⟩ := by simpa using e
      split at h
      · rename_i ys' ks1 hf
        cases h
        cases hr with
        | lit hp hr => obtain ⟨fq, q1, q2, q3⟩ := ih _ _ _ _ hf hr hks hn hd hd'; exact ⟨fq, .lit hp q1, q2, q3⟩
        | nl hr => obtain ⟨fq, q1, q2, q3⟩ := ih _ _ _ _ hf hr hks hn hd hd'; exact ⟨fq, .nl q1, q2, q3⟩
        | ns hr => obtain ⟨fq, q1, q2, q3⟩ := ih _ _ _ _ hf hr hks hn hd hd'; exact ⟨fq, .ns q1, q2, q3⟩
        | on hr => obtain ⟨fq, q1, q2, q3⟩ := ih _ _ _ _ hf hr hks hn hd hd'; exact ⟨fq, .on q1, q2, q3⟩
        | sh ad vs h1 h2 h3 h6 hr =>
          obtain ⟨fq, q1, q2, q3⟩ := ih _ _ _ _ hf hr hks hn hd hd'
          exact ⟨fq, .sh ad vs h1 (h2.mono hV (Nat.le_refl _)) h3 (h6.vmono hV (by simp)) q1, q2, q3⟩
        | ow g T arr fz vs h1 h2 h3 h4 h5 h6 h7 h8 h9 hr =>
          have n1 := List.nodup_cons.1 hn
          have n2 := List.nodup_append.1 n1.2
          obtain ⟨fq, q1, q2, q3⟩ := ih _ _ _ _ hf hr hks n2.2.1 (fun g hg => hd g (by simp [hg])) (fun g hg => hd' g (by simp [hg]))
          refine ⟨g :: (_ ++ fq), .ow g T arr fz vs h1 h2 h3 h4 h5 h6 h7 ((hother g fun r hr hO => hd g (by simp) r hr hO).trans h8) (h9.vmono hV fun g hg => hother g fun r hr hO => hd g (by simp [hg]) r hr hO) q1, ?_, ?_⟩
          · have hg : g ∉ fq := by
              intro hm
              rcases q3 g hm with h | ⟨r', hr', hO'⟩
              · exact n1.1 (by simp [h])
              · exact hd' g (by simp) r' hr' hO'
            refine List.nodup_cons.2 ⟨?_, List.nodup_append.2 ⟨n2.1, q2, fun x hx y hy e => ?_⟩⟩
            · intro hm
              rcases List.mem_append.1 hm with hm | hm
              · exact n1.1 (by simp [hm])
              · exact hg hm
            · subst e
              rcases q3 x hy with h | ⟨r', hr', hO'⟩
              · exact n2.2.2 x hx x h rfl
              · exact hd' x (by simp [hx]) r' hr' hO'
          · intro x hx
            rcases List.mem_cons.1 hx with rfl | hx
            · exact .inl (by simp)
            · rcases List.mem_append.1 hx with hx | hx
              · exact .inl (by simp [hx])
              · rcases q3 x hx with h | h
                · exact .inl (by simp [h])
                · exact .inr h
        | ms b h0 hn1 hr => exact absurd rfl (hc1 b _)
        | mv b h0 hr => exact absurd rfl (hc1 b _)
        | bd u hu hr => exact absurd rfl hc2
      · cases h

end Evl
