/- What the abstract machine does, the model does. No condition. -/
import Derived.Test.YtpjeibdllddkjaaEwe
namespace Evl
open Go

variable {P : Program} {H : Hints} {Y : FuncId → List AV → (Nat → Option Box) → AV → (Nat → Option Box) → Prop}

def Mot (P : Program) : Judg → Prop
  | .ops _ ops l s s' lg => Link P ops s lg s' ∧ lg.map (·.i) = l ∧ ∀ x ∈ lg, x.dst = (ops[x.i]?).bind (·.dst)
  | .code _ c s x s' => MC P c s x s' ∧ ∀ a, c = .loop a → LoopOk P a s x s'
  | .call f args bx r bx' => CallOk P f args bx r bx' ∧ ∃ fn c, P.funcs[f]? = some fn ∧ fn.body = some c ∧ (fn.name == "runtime.NumGoroutine") = false

theorem entry_call {H : Hints} {ops : Array Oper} {i : Nat} {o : Oper} {s : S} {e : Eff} {f : FuncId} {xs : List Operand} {caps caps' : List AV} {p : Prep} {r : AV} {bx' : Nat → Option Box} {fn : Func} {c : Code} (ho : ops[i]? = some o) (hg : gd ops o s = some true) (hcal : calleeOf o s = some (f, xs, caps)) (hroc : roCaps s.b caps = some caps') (hp : prep H f s 0 xs = some p) (hcm : caps = [] ∨ p.mts = []) (hC : CallOk P f (p.args ++ caps') (bxOf s p.mts) r bx')
    (he : callE o.dst { p with tmp := leans s.b (.fnv f caps) ++ p.tmp } r bx' = some e) (hk : e.kl.all (· < 1000) = true) (hf : P.funcs[f]? = some fn) (hbody : fn.body = some c) (hname : (fn.name == "runtime.NumGoroutine") = false) : EntryOk P ops (mkLog ops i o s e) s := by
  intro N w0 M V0 V K O u a w R hag hd Q C hC'
  have hgu : gd ops o u = some true := (gd_looks hag.1).trans hg
  have hw := gd_wanted R hgu
  have hev := ev_looks (o := o) hag.1
  have hrd : e.rd = leans s.b (.fnv f caps) ++ p.tmp ++ p.kl ++ p.mts.map (·.2) := by
    unfold callE at he
    split at he
    · cases he
    · simp only [Option.ite_none_left_eq_some] at he
      obtain ⟨_, he⟩ := he
      split at he
      · simp only [Option.ite_none_right_eq_some, Option.some.injEq] at he
        obtain ⟨_, rfl⟩ := he; rfl
      · simp only [Option.ite_none_right_eq_some, Option.some.injEq] at he
        obtain ⟨_, rfl⟩ := he; rfl
      · cases he
      · cases he; rfl
  have hb : ∀ k ∈ leans s.b (.fnv f caps) ++ p.tmp ++ p.kl ++ p.mts.map (·.2), u.b k = s.b k := fun k hk => hag.2 k (by show k ∈ e.rd; rw [hrd]; exact hk)
  have hcal' : calleeOf o u = some (f, xs, caps) := by
    rw [← hcal]
    unfold calleeOf
    split
    · rename_i x args ats hop
      rw [hev x (by rw [hop]; simp [Op.operands, Call.operands])]
    · rfl
  have hxs : ∀ x ∈ xs, u.ev x = s.ev x := by
    intro x hx
    unfold calleeOf at hcal
    split at hcal
    · rename_i y args ats hop
      refine hev x ?_
      rw [hop]
      have : xs = args.toList := by
        split at hcal
        · simp only [Option.some.injEq, Prod.mk.injEq] at hcal; exact hcal.2.1.symm
        · simp only [Option.some.injEq, Prod.mk.injEq] at hcal; exact hcal.2.1.symm
        · cases hcal
      rw [this] at hx
      simp only [Op.operands, Call.operands, Array.mem_append]
      exact .inr (by simpa using hx)
    · cases hcal
  have hp' := prep_congr (u := u) hp hxs fun k hk => hb k (by
    simp only [List.mem_append] at hk ⊢
    rcases hk with (hk | hk) | hk
    · exact .inl (.inl (.inr hk))
    · exact .inl (.inr hk)
    · exact .inr hk)
  have hids : ∀ k ∈ ids (.fnv f caps), u.b k = s.b k := fun k hk => hb k (by simp only [leans, List.mem_append]; exact .inl (.inl (.inl (.inl hk))))
  have hroc' : roCaps u.b caps = some caps' := roCaps_congr hroc (by simpa [ids] using hids) (fun k hk => hb k (by simp only [leans, List.mem_append]; exact .inl (.inl (.inl (.inr hk)))))
  have hle : leans u.b (.fnv f caps) = leans s.b (.fnv f caps) := leans_congr hids
  have hbx : bxOf u p.mts = bxOf s p.mts := bxOf_congr fun k hk => hb k (by simp only [List.mem_append]; exact .inr hk)
  show wpOp P ops Q i C a w
  unfold wpOp
  rw [ho]
  simp only [hw, if_true]
  exact .inl (call_step R o hd hcal' hroc' hp' hcm (by rw [hbx]; exact hC) (by rw [hle]; exact he) hk hf hbody hname Q C hC')

section
variable {V : Nat → Nat} {w : World} {K : Nat → Nat × Nat} {fp : List Nat} {v : Value}
theorem wkC_rep {m : Bool} {u : Value} {x y : AV} (h : Rep V w K m fp [u] [x]) (hw : WkC x y) : ∃ fq, fq.Sublist fp ∧ Rep V w K m fq [u] [y] := by
  rcases hw with rfl | rfl | rfl | ⟨rfl, oo, z, rfl⟩
  · exact ⟨fp, List.Sublist.refl _, h⟩
  · exact ⟨[], List.nil_sublist _, .bd u (h.oc u (by simp)) .nil⟩
  · exact ⟨[], List.nil_sublist _, h.share⟩
  · cases h with
    | nl h => cases h; cases oo; exact ⟨[], List.Sublist.refl _, .ns .nil⟩; exact ⟨[], List.Sublist.refl _, .on .nil⟩
theorem wkCs_rep {m : Bool} : ∀ {cs ds : List AV} {us : List Value} {fp : List Nat}, Rep V w K m fp us cs → WkCs cs ds → ∃ fq, fq.Sublist fp ∧ Rep V w K m fq us ds := by
  intro cs
  induction cs with
  | nil =>
    intro ds us fp h hw
    cases ds with
    | nil => exact ⟨fp, List.Sublist.refl _, h⟩
    | cons d ds => exact hw.elim
  | cons c cs ih =>
    intro ds us fp h hw
    cases ds with
    | nil => exact hw.elim
    | cons d ds =>
      obtain ⟨f1, f2, u1, u2, rfl, rfl, r1, r2⟩ := Rep.split [c] (cs₂ := cs) (by simpa using h)
      obtain ⟨u, rfl⟩ : ∃ u, u1 = [u] := by
        have := r1.len
        match u1, this with
        | [u], _ => exact ⟨u, rfl⟩
      obtain ⟨g1, s1, a1⟩ := wkC_rep r1 hw.1
      obtain ⟨g2, s2, a2⟩ := ih r2 hw.2
      exact ⟨g1 ++ g2, s1.append s2, a1.app a2⟩
theorem wkU_rep {x y : AV} (h : RepU V w K fp v x) (hw : WkU x y) : ∃ fq, fq.Sublist fp ∧ RepU V w K fq v y := by
  rcases hw with hw | ⟨cs, ds, rfl, rfl, hw⟩
  · rcases hw with rfl | rfl | rfl | ⟨rfl, oo, z, rfl⟩
    · exact ⟨fp, List.Sublist.refl _, h⟩
    · exact ⟨[], List.nil_sublist _, .p (.bad v)⟩
    · exact ⟨[], List.nil_sublist _, share_one h⟩
    · cases h with
      | one h =>
        cases h with
        | nl h => cases h; cases oo; exact ⟨[], List.Sublist.refl _, .one (.ns .nil)⟩; exact ⟨[], List.Sublist.refl _, .one (.on .nil)⟩
      | p h => cases h
  · cases h with
    | one h => cases h
    | agg h =>
      obtain ⟨fq, s1, a1⟩ := wkCs_rep h hw
      exact ⟨fq, s1, .agg a1⟩
    | p h => cases h
theorem wkT_rep : ∀ {cs ds : List AV} {us : List Value} {fp : List Nat}, RepT V w K fp us cs → WkT cs ds → ∃ fq, fq.Sublist fp ∧ RepT V w K fq us ds := by
  intro cs
  induction cs with
  | nil =>
    intro ds us fp h hw
    cases ds with
    | nil => exact ⟨fp, List.Sublist.refl _, h⟩
    | cons d ds => exact hw.elim
  | cons c cs ih =>
    intro ds us fp h hw
    cases ds with
    | nil => exact hw.elim
    | cons d ds =>
      cases h with
      | cons a b =>
        obtain ⟨g1, s1, a1⟩ := wkU_rep a hw.1
        obtain ⟨g2, s2, a2⟩ := ih b hw.2
        exact ⟨g1 ++ g2, s1.append s2, .cons a1 a2⟩
theorem wkV_rep {x y : AV} (h : RepV V w K fp v x) (hw : WkV x y) : ∃ fq, fq.Sublist fp ∧ RepV V w K fq v y := by
  rcases hw with hw | ⟨cs, ds, rfl, rfl, hw⟩
  · cases h with
    | u h => obtain ⟨fq, s1, a1⟩ := wkU_rep h hw; exact ⟨fq, s1, .u a1⟩
    | tup h =>
      rcases hw with hw | ⟨cs, ds, e, rfl, hw⟩
      · rcases hw with rfl | rfl | rfl | ⟨e, oo, z, rfl⟩
        · exact ⟨fp, List.Sublist.refl _, .tup h⟩
        · exact ⟨[], List.nil_sublist _, .bad _⟩
        · exact ⟨[], List.nil_sublist _, by simp only [Evl.share]; exact .tup h.share⟩
        · cases e
      · cases e
  · obtain ⟨us, rfl, hr⟩ := inv_tup h
    obtain ⟨fq, s1, a1⟩ := wkT_rep hr hw
    exact ⟨fq, s1, .tup a1⟩
theorem wkCs_len : ∀ {cs ds : List AV}, WkCs cs ds → cs.length = ds.length := by
  intro cs
  induction cs with
  | nil => intro ds h; cases ds with | nil => rfl | cons d ds => exact h.elim
  | cons c cs ih => intro ds h; cases ds with | nil => exact h.elim | cons d ds => simp [ih h.2]
theorem wkS_rel {N : Nat} {w0 : World} {M : Nat → Prop} {V0 : Nat → Nat} {O : Nat → Option Loc} {s u : S} {a : Act} (R : RelG N w0 M V0 K V O s a w) (h : WkS s u) : RelG N w0 M V0 K V O u a w := by
  refine ⟨R.df, R.n, fun t => ?_, fun b y hb => ?_, R.rg, R.vr, R.fr, R.nx, R.vo⟩
  · obtain ⟨fp, h1, h2, h3⟩ := R.tm t
    obtain ⟨fq, s1, a1⟩ := wkV_rep h3 (h.1 t)
    exact ⟨fq, h1.sublist s1, fun g hg => h2 g (s1.subset hg), a1⟩
  · obtain ⟨x, hx, e1, e2, hw⟩ := h.2 b y hb
    rcases R.bx b x hx with ⟨z1, z2, z3⟩ | ⟨fb, arr, T, fz, us, h1, h2, h3⟩
    · refine .inl ⟨by rw [e2]; exact z1, ?_, z3⟩
      have := wkCs_len hw
      rw [z2] at this; exact List.eq_nil_of_length_eq_zero this.symm
    obtain ⟨fq, s1, a1⟩ := wkCs_rep h3.rep hw
    have hl := wkCs_len hw
    refine .inr ⟨fq, arr, T, fz, us, h1.sublist (s1.cons_cons _), fun g hg => h2 g ?_, ⟨h3.hp, h3.th, h3.pre, by rw [e2]; exact a1, by rw [e1, ← hl]; exact h3.vis, fun hz => by rw [e1]; exact h3.var (e2 ▸ hz), fun hz => by rw [e2]; exact h3.row (fun e => hz (e2.trans e))⟩⟩
    rcases List.mem_cons.1 hg with rfl | hg
    · simp
    · exact List.mem_cons_of_mem _ (s1.subset hg)
end

section
variable {N : Nat} {w0 w : World} {M : Nat → Prop} {V0 V : Nat → Nat} {K : Nat → Nat × Nat} {O : Nat → Option Loc} {s : S} {a : Act}
theorem put_same (a : Act) (i : Nat) (h : i < a.tmps.size) : a.put (some i) (a.tmps.getD i undef) = a := by
  obtain ⟨t, ds⟩ := a
  simp only [Act.put]
  congr 1
  apply Array.ext_getElem?
  intro j
  rw [Array.getElem?_setIfInBounds]
  split
  · rename_i e; subst e
    simp only at h
    simp [h, Array.getD_eq_getD_getElem?]
  · rfl
theorem virt_rel (R : RelG N w0 M V0 K V O s a w) {i b sz : Nat} (hi : s.t i = .nil) (hb : b < 1000) (hsz : sz ≠ 0) : ∃ K', RelG N w0 M V0 K' V O (virtS i b sz s) a w ∧ ∀ k, 1000 ≤ k → K' k = K k := by
  let K' : Nat → Nat × Nat := fun k => if k = b then (0, 0) else K k
  have hKd : (K' b).2 = 0 := by simp [K']
  have hK : ∀ k, k ∉ [b] → K' k = K k := fun k hk => by simp at hk; simp [K', hk]
  obtain ⟨fp, h1, h2, h3⟩ := R.tm i
  rw [hi] at h3
  obtain ⟨hv, -⟩ := inv_nil h3
  have hlt : i < a.tmps.size := by
    rcases Nat.lt_or_ge i a.tmps.size with h | h
    · exact h
    · rw [Array.getD_eq_getD_getElem?, Array.getElem?_eq_none h] at hv; simp [undef] at hv
  have := R.apply (w' := w) (V' := V) (K' := K') (O' := O) ({ val := .msl b 0, kl := [b], put := [(b, ⟨true, sz, []⟩)] } : Eff) (some i) (a.tmps.getD i undef) (fun d e => by cases e; rw [← R.n]; exact hlt) (Next.refl V w) hK (fun g l hl _ _ => ⟨rfl, rfl, hl⟩) (fun t x _ hl => by simp [lookup] at hl) (fun d e => by
      cases e; rw [hv]
      exact ⟨[], List.nodup_nil, by simp, .u (.one (.mv b hKd .nil))⟩) (fun k x hl => by
      simp only [lookup] at hl
      split at hl
      · rename_i e; subst e; cases hl; exact .inl ⟨hsz, rfl, hKd⟩
      · cases hl) R.rg R.vr R.fr (fun _ _ _ => rfl)
  rw [put_same a i hlt] at this
  exact ⟨K', this, fun k hk => by show (if k = b then _ else K k) = K k; rw [if_neg (by omega)]⟩
theorem virtc_rel (R : RelG N w0 M V0 K V O s a w) {k : Nat} {y : Box} {j b sz : Nat} (hk : s.b k = some y) (hj : y.cs[j]? = some .nil) (hy : y.sz = 0) (hkb : k ≠ b) (hb : b < 1000) (hsz : sz ≠ 0) : ∃ K', RelG N w0 M V0 K' V O (virtC k y j b sz s) a w ∧ ∀ k, 1000 ≤ k → K' k = K k := by
  let K' : Nat → Nat × Nat := fun k => if k = b then (0, 0) else K k
  have hKd : (K' b).2 = 0 := by simp [K']
  have hKk : K' k = K k := by simp [K', hkb]
  have hK : ∀ k, k ∉ [b] → K' k = K k := fun k hk => by simp at hk; simp [K', hk]
  obtain ⟨fb, arr, T, fz, us, h1, h2, h3⟩ := R.bxr k y hk (.inl hy)
  have hrep := h3.rep
  have hzb : (y.sz == 0) = true := by simp [hy]
  rw [hzb] at hrep
  have hkill := hrep.kill b (K' := K') (fun x hx => by simp [K', hx])
  have hjl := (List.getElem?_eq_some_iff.1 hj).1
  have hset : Rep V w K' true fb us ((killL b y.cs).set j (.msl b 0)) := by
    have hkj : (killL b y.cs)[j]? = some .nil := by
      have : ∀ (l : List AV) (j : Nat), l[j]? = some .nil → (killL b l)[j]? = some .nil := by
        intro l; induction l with
        | nil => intro j h; simp at h
        | cons c l ih => intro j h; cases j with
          | zero => simp only [List.getElem?_cons_zero, Option.some.injEq] at h; subst h; rfl
          | succ j => simpa [killL] using ih j (by simpa using h)
      exact this _ _ hj
    have : ∀ (l : List AV) (j : Nat) (us : List Value) (fp : List Nat), Rep V w K' true fp us l → l[j]? = some .nil → Rep V w K' true fp us (l.set j (.msl b 0)) := by
      intro l; induction l with
      | nil => intro j us fp h hj; simp at hj
      | cons c l ih =>
        intro j us fp h hj
        obtain ⟨f1, f2, u1, u2, rfl, rfl, r1, r2⟩ := Rep.split [c] (cs₂ := l) (by simpa using h)
        cases j with
        | zero =>
          simp only [List.getElem?_cons_zero, Option.some.injEq] at hj; subst hj
          simp only [List.set_cons_zero]
          cases r1 with
          | nl h => cases h; exact .mv b hKd r2
        | succ j =>
          simp only [List.set_cons_succ]
          have := r1.app (ih j _ _ r2 (by simpa using hj))
          simpa using this
    exact this _ j us fb hkill hkj
  have := R.apply (w' := w) (V' := V) (K' := K') (O' := O) ({ val := .bad, kl := [b], put := [(b, ⟨true, sz, []⟩), (k, { y with cs := (killL b y.cs).set j (.msl b 0) })] } : Eff) none undef (fun d e => by cases e) (Next.refl V w) hK (fun g l hl _ _ => ⟨rfl, rfl, hl⟩) (fun t x _ hl => by simp [lookup] at hl) (fun d e => by cases e) (fun k' x hl => by
      simp only [lookup] at hl
      split at hl
      · rename_i e; subst e; cases hl; exact .inl ⟨hsz, rfl, hKd⟩
      · split at hl
        · rename_i e; subst e; cases hl
          refine .inr ⟨fb, arr, T, fz, us, by rw [hKk]; exact h1, by rw [hKk]; exact h2, ⟨by rw [hKk]; exact h3.hp, h3.th, h3.pre, ?_, ?_, h3.var, by rw [hKk]; exact h3.row⟩⟩
          · show Rep _ _ _ (y.sz == 0) _ _ _
            rw [hzb]; exact hset
          · rw [hKk, h3.vis]; simp [killL_length]
        · cases hl) R.rg R.vr R.fr (fun _ _ _ => rfl)
  exact ⟨K', this, fun k hk => by show (if k = b then _ else K k) = K k; rw [if_neg (by omega)]⟩
end

theorem wkT_at : ∀ {cs ds : List AV}, WkT cs ds → cs.length = ds.length ∧ ∀ (i : Nat) (y : AV), ds[i]? = some y → ∃ x, cs[i]? = some x ∧ WkU x y := by
  intro cs
  induction cs with
  | nil => intro ds h; cases ds with | nil => exact ⟨rfl, by simp⟩ | cons d ds => exact h.elim
  | cons c cs ih =>
    intro ds h
    cases ds with
    | nil => exact h.elim
    | cons d ds =>
      obtain ⟨h1, h2⟩ := ih h.2
      refine ⟨by simp [h1], fun i y hy => ?_⟩
      cases i with
      | zero => simp only [List.getElem?_cons_zero, Option.some.injEq] at hy; subst hy; exact ⟨c, rfl, h.1⟩
      | succ i => simpa using h2 i y (by simpa using hy)

theorem wka_ok {f : FuncId} {args args' : List AV} {bx bx' : Nat → Option Box} {r : AV} (hw : WkT args args') (h : CallOk P f args' bx r bx') : CallOk P f args bx r bx' := by
  intro w0 V0 K O vs E
  refine h w0 V0 K O vs ⟨E.len.trans (wkT_at hw).1, fun i y hy => ?_, E.bx, E.rg, E.vr⟩
  obtain ⟨x, hx, hu⟩ := (wkT_at hw).2 i y hy
  obtain ⟨v, fp, h1, h2, h3, h4⟩ := E.args i x hx
  obtain ⟨fq, s1, a1⟩ := wkV_rep h4 (.inl hu)
  exact ⟨v, fq, h1, h2.sublist s1, fun g hg => h3 g (s1.subset hg), a1⟩

mutual
theorem share_ids : ∀ x : AV, ids x = [] → ids (share x) = []
  | .lit _, h => h
  | .nil, h => h
  | .sl true _ _ _, _ => rfl
  | .sl false _ _ _, _ => rfl
  | .msl _ _, h => h
  | .agg cs, h => by simp only [share, ids] at h ⊢; exact shareL_ids cs h
  | .tup cs, h => by simp only [share, ids] at h ⊢; exact shareL_ids cs h
  | .ptr _ _, h => h
  | .cptr _, h => h
  | .nbx _, h => h
  | .fnv _ _, h => h
  | .bad, h => h
theorem shareL_ids : ∀ l : List AV, idsL l = [] → idsL (shareL l) = []
  | [], _ => rfl
  | x :: xs, h => by
    simp only [idsL, List.append_eq_nil_iff] at h
    simp only [shareL, idsL, List.append_eq_nil_iff]
    exact ⟨share_ids x h.1, shareL_ids xs h.2⟩
end
theorem ids_wkC {x y : AV} (h : WkC x y) : ids x = [] → ids y = [] := by
  rcases h with rfl | rfl | rfl | ⟨rfl, oo, z, rfl⟩
  · exact id
  · intro _; rfl
  · exact share_ids x
  · intro _; rfl
theorem ids_wkCs : ∀ {cs ds : List AV}, WkCs cs ds → idsL cs = [] → idsL ds = [] := by
  intro cs
  induction cs with
  | nil => intro ds h _; cases ds with | nil => rfl | cons d ds => exact h.elim
  | cons c cs ih =>
    intro ds h hi
    cases ds with
    | nil => exact h.elim
    | cons d ds =>
      simp only [idsL, List.append_eq_nil_iff] at hi ⊢
      exact ⟨ids_wkC h.1 hi.1, ih h.2 hi.2⟩
theorem ids_wkU {x y : AV} (h : WkU x y) : ids x = [] → ids y = [] := by
  rcases h with h | ⟨cs, ds, rfl, rfl, h⟩
  · exact ids_wkC h
  · intro hi; simp only [ids] at hi ⊢; exact ids_wkCs h hi
theorem ids_wkT : ∀ {cs ds : List AV}, WkT cs ds → idsL cs = [] → idsL ds = [] := by
  intro cs
  induction cs with
  | nil => intro ds h _; cases ds with | nil => rfl | cons d ds => exact h.elim
  | cons c cs ih =>
    intro ds h hi
    cases ds with
    | nil => exact h.elim
    | cons d ds =>
      simp only [idsL, List.append_eq_nil_iff] at hi ⊢
      exact ⟨ids_wkU h.1 hi.1, ih h.2 hi.2⟩

theorem wkr_ok {f : FuncId} {args : List AV} {bx bx' : Nat → Option Box} {r r' : AV} (hw : WkV r r') (h : CallOk P f args bx r bx') : CallOk P f args bx r' bx' := by
  intro w0 V0 K O vs E
  refine Calls.mono (h w0 V0 K O vs E) fun e w' hen => ?_
  obtain ⟨v, rfl, V1, O1, fp, b1, b2, b3, b4, b5, b6, hq, b7, b8⟩ := hen
  have key : ∃ fq, fq.Sublist fp ∧ RepQ V1 w' fq v r' := by
    cases hq with
    | one _ _ _ hr =>
      cases hr with
      | v K' _ _ _ hu hi =>
        rcases hw with hw | ⟨cs, ds, rfl, rfl, hw⟩
        · obtain ⟨fq, s1, a1⟩ := wkU_rep hu hw
          exact ⟨fq, s1, .one _ _ _ (.v K' _ _ _ a1 (ids_wkU hw hi))⟩
        · cases hu with
          | one h => cases h
          | p h => cases h
      | nbx K' g T arr fz us fq cs q1 q2 q3 q4 q5 q6 =>
        rcases hw with (hw | ⟨cs, ds, e, rfl, hw⟩) | ⟨cs, ds, e, rfl, hw⟩
        · rcases hw with rfl | rfl | rfl | ⟨e, oo, z, rfl⟩
          · exact ⟨_, List.Sublist.refl _, .one _ _ _ (.nbx K' g T arr fz us fq cs q1 q2 q3 q4 q5 q6)⟩
          · exact ⟨[], List.nil_sublist _, .one _ _ _ (.v K' _ _ _ (.p (.bad _)) rfl)⟩
          · exact ⟨_, List.Sublist.refl _, .one _ _ _ (.nbx K' g T arr fz us fq cs q1 q2 q3 q4 q5 q6)⟩
          · cases e
        · cases e
        · cases e
    | tup K' _ us rs ht hi =>
      rcases hw with (hw | ⟨cs, ds, e, rfl, hw⟩) | ⟨cs, ds, e, rfl, hw⟩
      · rcases hw with rfl | rfl | rfl | ⟨e, oo, z, rfl⟩
        · exact ⟨fp, List.Sublist.refl _, .tup K' _ us rs ht hi⟩
        · exact ⟨[], List.nil_sublist _, .one _ _ _ (.v K' _ _ _ (.p (.bad _)) rfl)⟩
        · refine ⟨[], List.nil_sublist _, ?_⟩
          simp only [share]
          exact .tup K' _ us _ ht.share (shareL_ids rs hi)
        · cases e
      · cases e
      · cases e
        obtain ⟨fq, s1, a1⟩ := wkT_rep ht hw
        exact ⟨fq, s1, .tup K' _ us _ a1 (ids_wkT hw hi)⟩
  obtain ⟨fq, s1, a1⟩ := key
  exact ⟨v, rfl, V1, O1, fq, b1, b2, b3, b4, b5.sublist s1, fun g hg => b6 g (s1.subset hg), a1, b7, b8⟩

theorem big_sound (hE : EqtOk P H) (hmix : P.follows .mixedOrders = true) (hY : ∀ f args bx r bx', Y f args bx r bx' → CallOk P f args bx r bx') {j : Judg} (h : Big P H Y j) : Mot P j := by
  induction h with
  | nil => exact ⟨.nil _, rfl, by simp⟩
  | skip ho hg _ ih =>
    obtain ⟨i1, i2, i3⟩ := ih
    refine ⟨.cons _ (mkLog _ _ _ _ _) _ _ (entry_skip ho hg) (fit_mkLog hg) i1, by simp [i2, mkLog], fun x hx => ?_⟩
    rcases List.mem_cons.1 hx with rfl | hx
    · simp [mkLog, ho]
    · exact i3 x hx
  | step ho hg he hk _ ih =>
    obtain ⟨i1, i2, i3⟩ := ih
    refine ⟨.cons _ (mkLog _ _ _ _ _) _ _ (entry_step hE ho hg he hk) (fit_mkLog hg) i1, by simp [i2, mkLog], fun x hx => ?_⟩
    rcases List.mem_cons.1 hx with rfl | hx
    · simp [mkLog, ho]
    · exact i3 x hx
  | call ho hg hcal hroc hp hcm _ he hk _ ihc ih =>
    obtain ⟨i1, i2, i3⟩ := ih
    obtain ⟨hC, fn, c, hf, hb, hn⟩ := ihc
    refine ⟨.cons _ (mkLog _ _ _ _ _) _ _ (entry_call ho hg hcal hroc hp hcm hC he hk hf hb hn) (fit_mkLog hg) i1, by simp [i2, mkLog], fun x hx => ?_⟩
    rcases List.mem_cons.1 hx with rfl | hx
    · simp [mkLog, ho]
    · exact i3 x hx
  | region _ ih => exact ⟨mc_region ih.1.chain ih.2.1 ih.2.2, fun a e => by cases e⟩
  | draw _ hok ih => exact ⟨mc_draw hmix ih.1 ih.2.1 ih.2.2 hok, fun a e => by cases e⟩
  | skipc => exact ⟨fun N w0 M V0 V K O a w _ R Q hQ => wp_skip (hQ _ _ _ _ _ R fun _ _ => rfl), fun a e => by cases e⟩
  | seqn _ _ ih1 ih2 => exact ⟨mc_seqn ih1.1 ih2.1, fun a e => by cases e⟩
  | seqx _ hx ih => exact ⟨mc_seqx ih.1 hx, fun a e => by cases e⟩
  | condt hc _ ih => exact ⟨mc_cond true hc ih.1, fun a e => by cases e⟩
  | condf hc _ ih => exact ⟨mc_cond false hc ih.1, fun a e => by cases e⟩
  | blockn _ ih => exact ⟨mc_blockn ih.1, fun a e => by cases e⟩
  | blocke _ ih => exact ⟨mc_blocke ih.1, fun a e => by cases e⟩
  | blockx _ h1 h2 ih => exact ⟨mc_blockx ih.1 h1 h2, fun a e => by cases e⟩
  | loopn _ _ ih1 ih2 =>
    have := loop_more ih1.1 (ih2.2 _ rfl)
    exact ⟨mc_loop this, fun a e => by cases e; exact this⟩
  | loopx _ hx ih =>
    have := loop_last ih.1 hx
    exact ⟨mc_loop this, fun a e => by cases e; exact this⟩
  | exit => exact ⟨fun N w0 M V0 V K O a w _ R Q hQ => wp_exit (hQ _ _ _ _ _ R fun _ _ => rfl), fun a e => by cases e⟩
  | ret => exact ⟨fun N w0 M V0 V K O a w _ R Q hQ => wp_ret (hQ _ _ _ _ _ R fun _ _ => rfl), fun a e => by cases e⟩
  | wks hw _ ih => exact ⟨fun N w0 M V0 V K O a w hc R Q hQ => ih.1 N w0 M V0 V K O a w hc (wkS_rel R hw) Q hQ, fun a e =>
      ⟨(ih.2 a e).1, fun hc R Q hQ b k cs => (ih.2 a e).2 hc (wkS_rel R hw) Q hQ b k cs⟩⟩
  | wke _ hw ih => exact ⟨fun N w0 M V0 V K O a w hc R Q hQ => ih.1 N w0 M V0 V K O a w hc R Q fun a' w' K' V' O' R' hK => hQ a' w' K' V' O' (wkS_rel R' hw) hK, fun a e =>
      ⟨(ih.2 a e).1, fun hc R Q hQ b k cs => (ih.2 a e).2 hc R Q (fun a' w' K' V' O' R' hK => hQ a' w' K' V' O' (wkS_rel R' hw) hK) b k cs⟩⟩
  | wka hw _ ih => exact ⟨wka_ok hw ih.1, ih.2⟩
  | wkr _ hw ih => exact ⟨wkr_ok hw ih.1, ih.2⟩
  | virt i b sz hi hb hsz _ ih => exact ⟨fun N w0 M V0 V K O a w hc R Q hQ => by
      obtain ⟨K', R', hK⟩ := virt_rel R hi hb hsz
      exact ih.1 N w0 M V0 V K' O a w hc R' Q fun a' w' K'' V' O' R'' hK' => hQ a' w' K'' V' O' R'' fun k hk => (hK' k hk).trans (hK k hk), fun a e =>
      ⟨(ih.2 a e).1, fun hc R Q hQ b k cs => by
        obtain ⟨K', R', hK⟩ := virt_rel R hi hb hsz
        exact (ih.2 a e).2 hc R' Q (fun a' w' K'' V' O' R'' hK' => hQ a' w' K'' V' O' R'' fun k hk => (hK' k hk).trans (hK k hk)) b k cs⟩⟩
  | virtc k y j b sz hk hj hy hkb hb hsz _ ih => exact ⟨fun N w0 M V0 V K O a w hc R Q hQ => by
      obtain ⟨K', R', hK⟩ := virtc_rel R hk hj hy hkb hb hsz
      exact ih.1 N w0 M V0 V K' O a w hc R' Q fun a' w' K'' V' O' R'' hK' => hQ a' w' K'' V' O' R'' fun k hk => (hK' k hk).trans (hK k hk), fun a e =>
      ⟨(ih.2 a e).1, fun hc R Q hQ b k cs => by
        obtain ⟨K', R', hK⟩ := virtc_rel R hk hj hy hkb hb hsz
        exact (ih.2 a e).2 hc R' Q (fun a' w' K'' V' O' R'' hK' => hQ a' w' K'' V' O' R'' fun k hk => (hK' k hk).trans (hK k hk)) b k cs⟩⟩
  | given hf hb hn hy => exact ⟨hY _ _ _ _ _ hy, _, _, hf, hb, hn⟩
  | body hf hb hn _ hl hok _ hx hr he ih => exact ⟨body_ok hf hb hl hok ih.1 hx hr he, _, _, hf, hb, hn⟩
end Evl
