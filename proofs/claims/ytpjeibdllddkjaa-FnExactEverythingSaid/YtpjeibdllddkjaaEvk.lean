/- Loads, stores, structs built: both machines do the same. No condition. -/
import Derived.Test.YtpjeibdllddkjaaEvj
namespace Evl
open Go

variable {P : Program} {H : Hints} {fid : FuncId} {N : Nat} {w0 w w' : World} {M : Nat → Prop} {V0 V V' : Nat → Nat} {K K' : Nat → Nat × Nat} {O O' : Nat → Option Loc} {s : S} {a : Act} {fp : List Nat} {v : Value}

/-- A part of a row of cells. -/
theorem Rep.seg {m : Bool} {us : List Value} {cs : List AV} (h : Rep V w K m fp us cs) (off k : Nat) (hk : off + k ≤ cs.length) : ∃ u1 u2 u3 f1 f2 f3, us = u1 ++ (u2 ++ u3) ∧ fp = f1 ++ (f2 ++ f3) ∧ u1.length = off ∧ u2.length = k ∧
    Rep V w K m f1 u1 (cs.take off) ∧ Rep V w K m f2 u2 ((cs.drop off).take k) ∧ Rep V w K m f3 u3 (cs.drop (off + k)) := by
  obtain ⟨f1, f', u1, u', rfl, rfl, r1, r'⟩ := Rep.split (cs.take off) (cs₂ := cs.drop off) (by rw [List.take_append_drop]; exact h)
  obtain ⟨f2, f3, u2, u3, rfl, rfl, r2, r3⟩ := Rep.split ((cs.drop off).take k) (cs₂ := (cs.drop off).drop k) (by rw [List.take_append_drop]; exact r')
  rw [List.drop_drop] at r3
  exact ⟨u1, u2, u3, f1, f2, f3, rfl, rfl, by rw [r1.len, List.length_take]; omega, by rw [r2.len, List.length_take, List.length_drop]; omega, r1, r2, r3⟩

theorem BoxOk.cell {b : Nat} {x : Box} {fb arr T fz us} (h : BoxOk V w K b x fb arr T fz us) {j : Nat} {v : Value} (hj : us[j]? = some v) : w.cell? ⟨(K b).1, j, none⟩ = some v := by
  rw [cell_of_heap h.hp]; exact h.pre j v hj

theorem nodup3 {l1 l2 l3 : List Nat} (h : (l1 ++ (l2 ++ l3)).Nodup) : l2.Nodup ∧ (l1 ++ l3).Nodup ∧ ∀ x ∈ l2, x ∉ l1 ++ l3 := by
  have n1 := List.nodup_append.1 h
  have n2 := List.nodup_append.1 n1.2.1
  refine ⟨n2.1, List.nodup_append.2 ⟨n1.1, n2.2.1, fun x hx y hy => n1.2.2 x hx y (by simp [hy])⟩, fun x hx hm => ?_⟩
  rcases List.mem_append.1 hm with hm | hm
  · exact n1.2.2 x hm x (by simp [hx]) rfl
  · exact n2.2.2 x hx x hm rfl

/-- A load that hands the tree on. -/
theorem load_mv (R : RelG N w0 M V0 K V O s a w) (o : Oper) {d : Nat} (hdst : o.dst = some d) (hd : d < N) {b off k : Nat} {x : Box} (hb : s.b b = some x) (hk : off + k ≤ x.cs.length) (hk0 : 0 < k) (v : Value)
    (hr : ∀ u2 : List Value, (∃ u1 u3 : List Value, u1.length = off ∧ u2.length = k ∧ ∀ (j : Nat) v, (u1 ++ (u2 ++ u3))[j]? = some v → w.cell? ⟨(K b).1, j, none⟩ = some v) → (execOp a.eval o).run P w = .ok (.value (.agg u2.toArray)) w) :
    Step1 P N w0 M V0 K o (({ val := .agg ((x.cs.drop off).take k), put := [(b, { x with cs := x.cs.take off ++ shareL ((x.cs.drop off).take k) ++ x.cs.drop (off + k) })], rd := [b] } : Eff).apply o.dst s) a w := by
  obtain ⟨fb, arr, T, fz, us, h1, h2, h3⟩ := R.bxr b x hb (.inr (.inl fun e => by rw [e] at hk; simp at hk; omega))
  obtain ⟨u1, u2, u3, f1, f2, f3, rfl, rfl, l1, l2, r1, r2, r3⟩ := h3.rep.seg off k hk
  have hn := List.nodup_cons.1 h1
  obtain ⟨m1, m2, m3⟩ := nodup3 hn.2
  have hrun := hr u2 ⟨u1, u3, l1, l2, fun j v hj => h3.cell hj⟩
  refine ⟨_, w, K, V, fun g => if g ∈ f2 then some (true, d) else if O g = some (true, d) then none else O g, .inl hrun, ?_, fun _ _ => rfl⟩
  rw [hdst]
  refine R.apply _ (some d) _ (fun d' e => by cases e; exact hd) (Next.refl V w) (fun _ _ => rfl) ?_ ?_ ?_ ?_ ?_ R.vr R.fr (fun _ _ _ => rfl)
  · intro g l hl ht hb'
    refine ⟨rfl, rfl, ?_⟩
    have hg : g ∉ f2 := by
      intro hg
      have e := h2 g (by simp [hg])
      rw [hl] at e; cases e
      have := (hb' b rfl).1; simp [lookup] at this
    rw [if_neg hg, if_neg ?_]; exact hl
    rw [hl]; intro e; cases e; exact (ht d rfl).1 rfl
  · intro t z _ hl; simp [lookup] at hl
  · intro d' e; cases e
    exact ⟨f2, m1, fun g hg => by simp [hg], .u (.agg (r2.up true fun _ => rfl))⟩
  · intro b' y hl
    simp only [lookup] at hl
    split at hl
    · rename_i e; subst e; cases hl
      refine .inr ⟨f1 ++ f3, arr, T, fz, u1 ++ (u2 ++ u3), ?_, ?_, ?_⟩
      · refine List.nodup_cons.2 ⟨fun hm => hn.1 ?_, m2⟩
        rcases List.mem_append.1 hm with hm | hm <;> simp [hm]
      · intro g hg
        have hO : O g = some (false, b) := h2 g (by rcases List.mem_cons.1 hg with rfl | hg; exact List.mem_cons_self; rcases List.mem_append.1 hg with hg | hg <;> simp [hg])
        have : g ∉ f2 := by
          intro h2'
          rcases List.mem_cons.1 hg with rfl | hg
          · exact hn.1 (by simp [h2'])
          · exact m3 g h2' hg
        show (if g ∈ f2 then some (true, d) else if O g = some (true, d) then none else O g) = _
        rw [if_neg this, if_neg (by rw [hO]; intro e; cases e)]; exact hO
      · have hlen : (x.cs.take off ++ shareL ((x.cs.drop off).take k) ++ x.cs.drop (off + k)).length = x.cs.length := by
          simp only [List.length_append, shareL_length, List.length_take, List.length_drop]; omega
        refine ⟨h3.hp, h3.th, h3.pre, ?_, ?_, h3.var, h3.row⟩
        · have := r1.app (r2.share.app r3)
          simpa [List.append_assoc] using this
        · rw [h3.vis]; simp only [hlen]
    · cases hl
  · intro g l hl
    split at hl
    · rename_i hg; exact R.rg g _ (h2 g (by simp [hg]))
    · split at hl
      · cases hl
      · exact R.rg g l hl

theorem sound_load (R : RelG N w0 M V0 K V O s a w) (o : Oper) (hd : ∀ d, o.dst = some d → d < N) {e : Eff} (h : opE P H fid o s = some e) {t x} (hop : o.op = .load t x) :
    Step1 P N w0 M V0 K o (e.apply o.dst s) a w := by
  simp only [opE, hop] at h
  split at h
  · rename_i d hdst
    obtain ⟨f1, _, _, _, h1⟩ := R.ev x
    unfold loadE at h
    split at h
    · rename_i _ b off hx
      rw [hx] at h1
      obtain ⟨e1, rfl⟩ := inv_ptr h1
      split at h
      · rename_i bx k hb hs hg
        split at h
        · rename_i hk
          obtain ⟨hk0, hk⟩ := hk
          split at h
          · cases h
            refine load_mv (P := P) R o hdst (hd d hdst) hb hk hk0 .nilFunc ?_
            rintro u2 ⟨u1, u3, l1, l2, hc⟩
            have := run_loadVar_agg (P := P) (w := w) hg hs (K b).1 off u2 l2 (fun j v hj => hc (off + j) v (by rw [List.getElem?_append_right (by omega), List.getElem?_append_left (by have := (List.getElem?_eq_some_iff.1 hj).1; omega)]; rw [← hj]; congr 1; omega))
            simp [execOp, hop, e1, Instr.loadAt, Instr.sureAddr, this]
          · cases h
            obtain ⟨fb, arr, T, fz, us, q1, q2, q3⟩ := R.bxr b bx hb (.inr (.inl fun e => by rw [e] at hk; simp at hk; omega))
            obtain ⟨u1, u2, u3, f1, f2, f3, rfl, rfl, l1, l2, r1, r2, r3⟩ := q3.rep.seg off k hk
            have := run_loadVar_agg (P := P) (w := w) hg hs (K b).1 off u2 l2 (fun j v hj => q3.cell (by rw [List.getElem?_append_right (by omega), List.getElem?_append_left (by have := (List.getElem?_eq_some_iff.1 hj).1; omega)]; rw [← hj]; congr 1; omega))
            refine step_pure R o hd (.agg u2.toArray) _ [b] ?_ (.u (.agg (r2.share.up true fun _ => rfl)))
            simp [execOp, hop, e1, Instr.loadAt, Instr.sureAddr, this]
        · cases h
      · rename_i bx hb hs hg
        have key : ∀ c, bx.cs[off]? = some c → ∃ u fc, Rep V w K true fc [u] [c] ∧ w.cell? ⟨(K b).1, off, none⟩ = some u := by
          intro c hc
          obtain ⟨fb, arr, T, fz, us, q1, q2, q3⟩ := R.bxr b bx hb (.inr (.inl fun e => by rw [e] at hc; simp at hc))
          have hlt := (List.getElem?_eq_some_iff.1 hc).1
          obtain ⟨u1, u2, u3, f1, f2, f3, rfl, rfl, l1, l2, r1, r2, r3⟩ := q3.rep.seg off 1 (by omega)
          have e2 : (bx.cs.drop off).take 1 = [c] := by
            rw [List.drop_eq_getElem_cons hlt, List.take_succ_cons, List.take_zero]
            have := (List.getElem?_eq_some_iff.1 hc).2; rw [this]
          rw [e2] at r2
          obtain ⟨u, rfl⟩ : ∃ u, u2 = [u] := by
            match u2, l2 with
            | [u], _ => exact ⟨u, rfl⟩
          exact ⟨u, f2, r2.up true fun _ => rfl, q3.cell (by rw [List.getElem?_append_right (by omega)]; simp [l1])⟩
        split at h
        · rename_i sz n ds hc
          cases h
          obtain ⟨u, fc, hr, hcell⟩ := key _ hc
          have := run_loadVar_one (P := P) (w := w) hg (K b).1 off u hcell
          refine step_pure R o hd u _ [b] ?_ (.u (.one hr.share))
          simp [execOp, hop, e1, Instr.loadAt, Instr.sureAddr, this]
        · cases h
        · rename_i c hns hnb hc
          cases h
          obtain ⟨u, fc, hr, hcell⟩ := key _ hc
          have := run_loadVar_one (P := P) (w := w) hg (K b).1 off u hcell
          have ho : hasOwnL [c] = false := by
            cases hr with
            | ow g T arr fz vs h1 h2 h3 h4 h5 h6 h7 h8 h9 h10 => exact (hns _ _ _ rfl).elim
            | on h => exact (hns _ _ _ rfl).elim
            | _ => rfl
          obtain rfl := ownless_rep hr ho
          refine step_pure R o hd u _ [b] ?_ (.u (.one hr))
          simp [execOp, hop, e1, Instr.loadAt, Instr.sureAddr, this]
        · cases h
      · cases h
    · rename_i _ cs hx
      rw [hx] at h1
      obtain ⟨⟨ab, ao, as⟩, vs, e1, rfl, q1, q2, q3, q4, q5⟩ := inv_cptr h1
      obtain rfl : as = none := q1
      split at h
      · rename_i k hs hg
        simp only [Option.ite_none_right_eq_some, Option.some.injEq] at h
        obtain ⟨hk, rfl⟩ := h
        have hr : Rep V w K false [] (vs.take k) (cs.take k) := by simpa using q5.sub 0 k
        have := run_loadVar_agg (P := P) (w := w) hg hs ab ao (vs.take k) (by rw [hr.len, List.length_take]; omega) (fun j v hj => q2 j v (by rw [List.getElem?_take] at hj; split at hj; exact hj; cases hj))
        refine step_pure R o hd (.agg (vs.take k).toArray) _ [] ?_ (.u (.agg (hr.up true fun _ => rfl)))
        simp only [execOp, hop, e1, Instr.loadAt, Instr.sureAddr, Sem.run_bind, Sem.run_pure, Result.andThen_ok, this]
      · rename_i hs hg
        split at h
        · cases h
        · rename_i c cs' hnb
          cases h
          have hr : Rep V w K false [] (vs.take 1) [c] := by simpa using q5.sub 0 1
          obtain ⟨u, us, rfl⟩ : ∃ u us, vs = u :: us := by
            cases vs with
            | nil => have := q5.len; simp at this
            | cons u us => exact ⟨u, us, rfl⟩
          have := run_loadVar_one (P := P) (w := w) hg ab ao u (by have := q2 0 u rfl; simpa using this)
          refine step_pure R o hd u _ [] ?_ (.u (.one (by simpa using hr.up true fun _ => rfl)))
          simp [execOp, hop, e1, Instr.loadAt, Instr.sureAddr, this]
        · cases h
      · cases h
    · cases h
  · cases h

end Evl
