/- What one entry of a region does. No condition. -/
import Derived.Test.YtpjeibdllddkjaaEwa
namespace Evl
open Go

variable {P : Program} {H : Hints} {fid : FuncId} {N : Nat} {w0 w w' : World} {M : Nat → Prop} {V0 V V' : Nat → Nat} {K K' : Nat → Nat × Nat} {O O' : Nat → Option Loc} {s u : S} {a : Act} {fp : List Nat} {v : Value}

theorem op_sound (hE : EqtOk P H) (R : RelG N w0 M V0 K V O s a w) (o : Oper) (hd : ∀ d, o.dst = some d → d < N) {e : Eff} (h : opE P H fid o s = some e) (hk : e.kl.all (· < 1000) = true) :
    Step1 P N w0 M V0 K o (e.apply o.dst s) a w := by
  cases hop : o.op with
  | move x =>
    simp only [opE, hop] at h
    split at h
    · cases h
    · cases h; exact sound_move R o hd x (.inl hop)
  | assign x =>
    simp only [opE, hop] at h
    split at h
    · cases h
    · cases h; exact sound_move R o hd x (.inr hop)
  | pick c x y => exact sound_pick R o hd h hop
  | alloc t => exact sound_alloc R o hd h hk hop
  | box t x => exact sound_box R o hd h hk hop
  | build t ps => exact sound_build R o hd h hop
  | buildSlice t n ps => exact sound_buildSlice R o hd h hk hop
  | load t x => exact sound_load R o hd h hop
  | store t x y => exact sound_store R o hd h hop
  | nilCheck x => exact sound_nilCheck R o hd h hop
  | binOp op t x y t' => exact sound_binOp hE R o hd h hop
  | unOp op t x => exact sound_unOp R o hd h hop
  | convert t t' x => exact sound_convert R o hd h hop
  | fieldAddr t x f => exact sound_fieldAddr R o hd h hop
  | indexAddr t x i => exact sound_indexAddr R o hd h hop
  | index t x i => exact sound_index R o hd h hop
  | extract x i => exact sound_extract R o hd h hk hop
  | makeSlice t n c => exact sound_makeSlice R o hd h hk hop
  | slice t x lo hi mx => exact sound_slice R o hd h hop
  | makeFunc fn fs cs => exact sound_makeFunc R o hd h hop
  | call c =>
    obtain ⟨cal, args, ts⟩ := c
    cases cal with
    | builtin b =>
      cases b with
      | len => exact sound_len R o hd h hop
      | max => exact sound_max R o hd h hop
      | min => exact sound_min R o hd h hop
      | append => exact sound_append R o hd h hk hop
      | _ => simp [opE, hop] at h
    | value f => simp [opE, hop] at h
    | invoke r m => simp [opE, hop] at h
  | _ => simp [opE, hop] at h

/-- What its operands and its guard look at. -/
theorem mem_looks {ops : Array Oper} {o : Oper} {t : Nat} (h : Operand.tmp t ∈ o.op.operands) : t ∈ o.looksAt ops := by
  unfold Oper.looksAt
  refine List.mem_append.2 (.inl ?_)
  rw [List.mem_filterMap]
  exact ⟨.tmp t, by simpa using h, rfl⟩
theorem ev_looks {ops : Array Oper} {o : Oper} (h : ∀ t ∈ o.looksAt ops, u.t t = s.t t) : ∀ x ∈ o.op.operands, u.ev x = s.ev x := by
  intro x hx
  cases x with
  | tmp t => exact h t (mem_looks hx)
  | _ => rfl
theorem gd_looks {ops : Array Oper} {o : Oper} (h : ∀ t ∈ o.looksAt ops, u.t t = s.t t) : gd ops o u = gd ops o s := by
  unfold gd
  cases hg : o.guard with
  | none => rfl
  | some q =>
    obtain ⟨j, want⟩ := q
    simp only
    cases hd : (ops[j]?).bind (·.dst) with
    | none => rfl
    | some d =>
      have : u.t d = s.t d := h d (by
        unfold Oper.looksAt
        refine List.mem_append.2 (.inr ?_)
        simp [hg, hd])
      simp only [this]

theorem RepV.undef {V : Nat → Nat} {w : World} {K : Nat → Nat × Nat} : RepV V w K [] Go.undef (.tup []) := RepV.tup (us := []) .nil
theorem gd_wanted {ops : Array Oper} {o : Oper} {b : Bool} (R : RelG N w0 M V0 K V O s a w) (h : gd ops o s = some b) : Region.wanted o (yielded ops a.tmps) = b := by
  unfold gd at h
  unfold Region.wanted
  split at h
  · rename_i hg; rw [hg]; simpa using h
  · rename_i j want hg
    rw [hg]
    split at h
    · rename_i d hd
      split at h
      · rename_i c hc
        obtain ⟨fp, _, _, h3⟩ := R.tm d
        rw [hc] at h3
        obtain ⟨e, -, -⟩ := inv_lit h3
        have hy : yielded ops a.tmps j = some c := by
          unfold yielded
          rw [hd]
          simp only [Option.bind_some]
          rw [Array.getD_eq_getD_getElem?] at e
          cases ht : a.tmps[d]? with
          | none => rw [ht] at e; simp [undef] at e
          | some z => rw [ht] at e; simp only [Option.getD_some] at e; rw [e]
        simp only [hy]
        simpa using h
      · rename_i hc
        obtain ⟨fp, _, _, h3⟩ := R.tm d
        rw [hc] at h3
        obtain ⟨us, e, hus⟩ := inv_tup h3
        cases hus
        have hy : yielded ops a.tmps j = none := by
          unfold yielded
          rw [hd]
          simp only [Option.bind_some]
          rw [Array.getD_eq_getD_getElem?] at e
          cases ht : a.tmps[d]? with
          | none => rfl
          | some z => rw [ht] at e; simp only [Option.getD_some] at e; rw [e]
        simp only [hy]
        cases h
        simp
      · cases h
    · cases h

theorem entry_skip {ops : Array Oper} {i : Nat} {o : Oper} (ho : ops[i]? = some o) (hg : gd ops o s = some false) : EntryOk P ops (mkLog ops i o s skipE) s := by
  intro N w0 M V0 V K O u a w R hag hd Q C hC
  have hgu : gd ops o u = some false := (gd_looks hag.1).trans hg
  have hw := gd_wanted R hgu
  show wpOp P ops Q i C a w
  unfold wpOp
  rw [ho]
  simp only [hw]
  obtain ⟨O', h⟩ := R.pure o.dst undef (.tup []) [] hd RepV.undef
  exact hC _ _ _ _ _ h fun _ _ => rfl

theorem entry_step (hE : EqtOk P H) {ops : Array Oper} {i : Nat} {o : Oper} {e : Eff} (ho : ops[i]? = some o) (hg : gd ops o s = some true) (he : opE P H fid o s = some e) (hk : e.kl.all (· < 1000) = true) : EntryOk P ops (mkLog ops i o s e) s := by
  intro N w0 M V0 V K O u a w R hag hd Q C hC
  have hgu : gd ops o u = some true := (gd_looks hag.1).trans hg
  have hw := gd_wanted R hgu
  have heu := opE_congr (u := u) he (ev_looks hag.1) hag.2
  obtain ⟨v, w1, K', V', O', hrun, R', hK⟩ := op_sound hE R o hd heu hk
  show wpOp P ops Q i C a w
  unfold wpOp
  rw [ho]
  simp only [hw, if_true]
  refine .inl ?_
  unfold Oper.wp
  rcases hrun with hrun | ⟨hrun, rfl⟩
  · rw [hrun]; exact hC _ _ _ _ _ R' hK
  · rw [hrun]; exact hC _ _ _ _ _ R' hK

end Evl
