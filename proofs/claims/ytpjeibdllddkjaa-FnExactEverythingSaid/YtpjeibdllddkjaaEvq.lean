/- Code: both machines go the same way. No condition. -/
import Derived.Test.YtpjeibdllddkjaaEvp
namespace Evl
open Go

variable {P : Program} {H : Hints} {fid : FuncId} {N : Nat} {w0 w w' : World} {M : Nat → Prop} {V0 V V' : Nat → Nat} {K K' : Nat → Nat × Nat} {O O' : Nat → Option Loc} {s : S} {a : Act} {fp : List Nat} {v : Value}

def toExit : X → Exit
  | .nor => .normal
  | .ext id => .exit id
  | .ret => .ret

/-- The way from state s by a code to its end in state s', in the model. -/
def MC (P : Program) (c : Code) (s : S) (x : X) (s' : S) : Prop :=
  ∀ (N : Nat) (w0 : World) (M : Nat → Prop) (V0 V : Nat → Nat) (K : Nat → Nat × Nat) (O : Nat → Option Loc) (a : Act) (w : World), codeOk N c = true → RelG N w0 M V0 K V O s a w →
    ∀ Q : Exit → Act → World → Prop, (∀ a' w' K' V' O', RelG N w0 M V0 K' V' O' s' a' w' → (∀ b, 1000 ≤ b → K' b = K b) → Q (toExit x) a' w') → c.wp P Q a w

/-- A loop that is left. -/
def LoopOk (P : Program) (c : Code) (s : S) (x : X) (s' : S) : Prop :=
  x ≠ .nor ∧ ∀ {N w0 M V0 V K O a w}, codeOk N c = true → RelG N w0 M V0 K V O s a w → ∀ Q : Exit → Act → World → Prop, (∀ a' w' K' V' O', RelG N w0 M V0 K' V' O' s' a' w' → (∀ b, 1000 ≤ b → K' b = K b) → Q (toExit x) a' w') →
    ∀ (b : Frame) (k : List Item) (cs : List Frame), ∃ e a' w', Q e a' w' ∧ Arrives P (lone (b.at a (.code c :: .inLoop c :: k)) cs w) b k cs e a' w'

theorem loop_last {c : Code} {s1 s2 : S} {x : X} (hm : MC P c s1 x s2) (hx : x ≠ .nor) : LoopOk P c s1 x s2 := by
  refine ⟨hx, fun {N w0 M V0 V K O a w} hc R Q hQ b k cs => ?_⟩
  obtain ⟨e, a1, w1, hq, harr⟩ := hm N w0 M V0 V K O a w hc R (fun e a' w' => e = toExit x ∧ Q e a' w') (fun a' w' K' V' O' R' hK => ⟨rfl, hQ a' w' K' V' O' R' hK⟩) b (.inLoop c :: k) cs
  obtain ⟨rfl, hq⟩ := hq
  refine ⟨_, a1, w1, hq, .pass (x := .inLoop c) rfl (fun _ _ => .inl ?_) harr⟩
  cases x <;> simp_all [toExit]
theorem loop_more {c : Code} {s1 s2 s3 : S} {x : X} (hm : MC P c s1 .nor s3) (ih : LoopOk P c s3 x s2) : LoopOk P c s1 x s2 := by
  refine ⟨ih.1, fun {N w0 M V0 V K O a w} hc R Q hQ b k cs => ?_⟩
  obtain ⟨e, a1, w1, ⟨rfl, K', V', O', R', hK⟩, harr⟩ := hm N w0 M V0 V K O a w hc R (fun e a' w' => e = .normal ∧ ∃ K' V' O', RelG N w0 M V0 K' V' O' s3 a' w' ∧ ∀ b, 1000 ≤ b → K' b = K b) (fun a' w' K' V' O' R' hK => ⟨rfl, K', V', O', R', hK⟩) b (.inLoop c :: k) cs
  obtain ⟨e2, a2, w2, hq2, harr2⟩ := ih.2 hc R' Q (fun a' w' K'' V'' O'' R'' hK'' => hQ a' w' K'' V'' O'' R'' fun b hb => (hK'' b hb).trans (hK b hb)) b k cs
  exact ⟨e2, a2, w2, hq2, .of_steps (Steps.trans harr (.one step_inLoop)) harr2⟩
theorem mc_loop {c : Code} {s s' : S} {x : X} (h : LoopOk P c s x s') : MC P (.loop c) s x s' := by
  intro N w0 M V0 V K O a w hc R Q hQ b k cs
  obtain ⟨e, a', w', hq, harr⟩ := h.2 hc R Q hQ b k cs
  exact ⟨e, a', w', hq, .of_steps (.one step_loop) harr⟩

theorem mc_seqn {c d : Code} {s s1 s' : S} {x : X} (h1 : MC P c s .nor s1) (h2 : MC P d s1 x s') : MC P (.seq c d) s x s' := by
  intro N w0 M V0 V K O a w hc R Q hQ
  simp only [codeOk, Bool.and_eq_true] at hc
  refine wp_seq (h1 N w0 M V0 V K O a w hc.1 R _ fun a' w' K' V' O' R' hK => ?_)
  exact h2 N w0 M V0 V' K' O' a' w' hc.2 R' Q fun a'' w'' K'' V'' O'' R'' hK'' => hQ a'' w'' K'' V'' O'' R'' fun b hb => (hK'' b hb).trans (hK b hb)
theorem mc_seqx {c d : Code} {s s' : S} {x : X} (h1 : MC P c s x s') (hx : x ≠ .nor) : MC P (.seq c d) s x s' := by
  intro N w0 M V0 V K O a w hc R Q hQ
  simp only [codeOk, Bool.and_eq_true] at hc
  refine wp_seq (h1 N w0 M V0 V K O a w hc.1 R _ fun a' w' K' V' O' R' hK => ?_)
  cases x with
  | nor => exact absurd rfl hx
  | ext id => exact hQ a' w' K' V' O' R' hK
  | ret => exact hQ a' w' K' V' O' R' hK
theorem ev_bool (R : RelG N w0 M V0 K V O s a w) {c : Operand} {t : Bool} (h : s.ev c = .lit (.bool t)) : a.eval c = .bool t := by
  obtain ⟨f, _, _, _, h1⟩ := R.ev c
  rw [h] at h1; exact (inv_lit h1).1
theorem mc_cond {c : Operand} {x y : Code} {s s' : S} {e : X} (t : Bool) (hc : s.ev c = .lit (.bool t)) (h : MC P (if t then x else y) s e s') : MC P (.cond c x y) s e s' := by
  intro N w0 M V0 V K O a w hok R Q hQ
  simp only [codeOk, Bool.and_eq_true] at hok
  refine wp_cond (ev_bool R hc) (h N w0 M V0 V K O a w ?_ R Q hQ)
  cases t
  · exact hok.2
  · exact hok.1
theorem mc_blockn {id : Nat} {c : Code} {s s' : S} (h : MC P c s .nor s') : MC P (.block id c) s .nor s' := by
  intro N w0 M V0 V K O a w hok R Q hQ
  exact wp_block (h N w0 M V0 V K O a w hok R _ fun a' w' K' V' O' R' hK => hQ a' w' K' V' O' R' hK)
theorem mc_blocke {id : Nat} {c : Code} {s s' : S} (h : MC P c s (.ext id) s') : MC P (.block id c) s .nor s' := by
  intro N w0 M V0 V K O a w hok R Q hQ
  refine wp_block (h N w0 M V0 V K O a w hok R _ fun a' w' K' V' O' R' hK => ?_)
  simp only [toExit, Exit.inBlock, if_true]
  exact hQ a' w' K' V' O' R' hK
theorem mc_blockx {id : Nat} {c : Code} {s s' : S} {x : X} (h : MC P c s x s') (h1 : x ≠ .nor) (h2 : x ≠ .ext id) : MC P (.block id c) s x s' := by
  intro N w0 M V0 V K O a w hok R Q hQ
  refine wp_block (h N w0 M V0 V K O a w hok R _ fun a' w' K' V' O' R' hK => ?_)
  cases x with
  | nor => exact absurd rfl h1
  | ext id' =>
    have : id' ≠ id := fun e => h2 (by rw [e])
    simp only [toExit, Exit.inBlock, this, if_false]
    exact hQ a' w' K' V' O' R' hK
  | ret => exact hQ a' w' K' V' O' R' hK
theorem mc_region {id : Nat} {ops : Array Oper} {s s' : S} {lg : List LogE} (h : Chain P ops s lg s') (hl : lg.map (·.i) = List.range ops.size) (hdst : ∀ x ∈ lg, x.dst = (ops[x.i]?).bind (·.dst)) : MC P (.region id ops false) s .nor s' := by
  intro N w0 M V0 V K O a w hok R Q hQ
  refine wp_region ?_
  rw [← hl]
  refine chain_wp h R (fun x hx d hd => ?_) Q hQ
  rw [hdst x hx] at hd
  simp only [codeOk, opsOk, Array.all_eq_true_iff_forall_mem] at hok
  cases ho : ops[x.i]? with
  | none => rw [ho] at hd; cases hd
  | some o =>
    rw [ho] at hd
    have := hok o (Array.mem_of_getElem? ho)
    simp only [Option.bind_some] at hd
    rw [hd] at this; simpa using this

/-! a call -/
def CallPost (w0 : World) (V0 : Nat → Nat) (K : Nat → Nat × Nat) (O : Nat → Option Loc) (r : AV) (bx' : Nat → Option Box) (v : Value) (w' : World) : Prop :=
  ∃ (V' : Nat → Nat) (O' : Nat → Option Loc) (fp : List Nat), Fr w0 (fun g => O g ≠ none) w' ∧ Next V0 V' w0 w' ∧ (∀ g, 0 < V' g → g < w'.heap.size) ∧ (∀ g, g < w0.heap.size → O g = none → V' g = V0 g) ∧ fp.Nodup ∧ (∀ g ∈ fp, O' g = some (true, 0)) ∧ RepQ V' w' fp v r ∧
    (∀ b x, bx' b = some x → ∃ fb arr T fz us, ((K b).1 :: fb).Nodup ∧ (∀ g ∈ (K b).1 :: fb, O' g = some (false, b)) ∧ BoxOk V' w' K b x fb arr T fz us) ∧
    (∀ g l, O' g = some l → (w0.heap.size ≤ g ∨ O g ≠ none) ∧ g < w'.heap.size)

structure Entry (w0 : World) (V0 : Nat → Nat) (K : Nat → Nat × Nat) (O : Nat → Option Loc) (vs : List Value) (args : List AV) (bx : Nat → Option Box) : Prop where
  len : vs.length = args.length
  args : ∀ i x, args[i]? = some x → ∃ v fp, vs[i]? = some v ∧ fp.Nodup ∧ (∀ g ∈ fp, O g = some (true, i)) ∧ RepV V0 w0 K fp v x
  bx : ∀ b x, bx b = some x → 1000 ≤ b ∧ ∃ fb arr T fz us, ((K b).1 :: fb).Nodup ∧ (∀ g ∈ (K b).1 :: fb, O g = some (false, b)) ∧ BoxOk V0 w0 K b x fb arr T fz us
  rg : ∀ g l, O g = some l → g < w0.heap.size
  vr : ∀ g, 0 < V0 g → g < w0.heap.size

def CallOk (P : Program) (f : FuncId) (args : List AV) (bx : Nat → Option Box) (r : AV) (bx' : Nat → Option Box) : Prop :=
  ∀ (w0 : World) (V0 : Nat → Nat) (K : Nat → Nat × Nat) (O : Nat → Option Loc) (vs : List Value), Entry w0 V0 K O vs args bx →
    Calls P f vs.toArray w0 fun e w' => ∃ v, e = .returned v ∧ CallPost w0 V0 K O r bx' v w'

/-- Results, one by one. -/
inductive RepRs (V : Nat → Nat) (w : World) : List Nat → List Value → List AV → Prop
  | nil : RepRs V w [] [] []
  | cons (fp fq : List Nat) (u : Value) (us : List Value) (r : AV) (rs : List AV) : RepR V w fp u r → RepRs V w fq us rs → RepRs V w (fp ++ fq) (u :: us) (r :: rs)

theorem disj_spec {l l' : List Nat} (h : disj l l' = true) : ∀ x ∈ l, x ∉ l' := by
  intro x hx
  have := List.all_eq_true.1 h x hx
  simpa using this

theorem res_list (R : RelG N w0 M V0 K V O s a w) {KS : List Nat} (F : Frz V K O s (rowsOf s KS) V') (f : ResultVar → Sem Value) (hf1 : ∀ t, f (.tmp t) = pure (a.tmps.getD t undef)) (hf2 : ∀ c t, f (.cell c t) = (do loadVar t (← asAddr (a.tmps.getD c undef)))) : ∀ (l : List ResultVar) {rs : List AV} {ks ts : List Nat}, resL P s l = some (rs, ks, ts) → (∀ k ∈ ks, k ∈ KS) →
    ∃ us fp, (l.mapM f).run P w = .ok us w ∧ RepRs V' w fp us rs ∧ fp.Nodup ∧ ∀ g ∈ fp, (∃ t ∈ ts, O g = some (true, t)) ∨ ∃ b ∈ ks, O g = some (false, b) := by
  intro l
  induction l with
  | nil => intro rs ks ts h _; cases h; exact ⟨[], [], by simp, .nil, List.nodup_nil, by simp⟩
  | cons x l ih =>
    intro rs ks ts h hks
    simp only [resL] at h
    split at h
    · rename_i v k1 t1 vs k2 t2 h1 h2
      simp only [Option.ite_none_right_eq_some, Option.some.injEq, Prod.mk.injEq, Bool.and_eq_true] at h
      obtain ⟨⟨⟨hd1, hd2⟩, _⟩, rfl, rfl, rfl⟩ := h
      obtain ⟨u, fp, g1, g2, g3, g4⟩ := res_one (P := P) R F x h1 (fun k hk => hks k (by simp [hk]))
      obtain ⟨us, fq, q1, q2, q3, q4⟩ := ih h2 (fun k hk => hks k (by simp [hk]))
      refine ⟨u :: us, fp ++ fq, ?_, .cons _ _ _ _ _ _ g2 q2, List.nodup_append.2 ⟨g3, q3, fun x hx y hy e => ?_⟩, fun g hg => ?_⟩
      · rw [List.mapM_cons, Sem.run_bind]
        have : (f x).run P w = .ok u w := by
          cases x with
          | tmp t => rw [hf1]; exact g1
          | cell c t => rw [hf2]; exact g1
        rw [this]
        simp only [Result.andThen_ok, Sem.run_bind, q1, Sem.run_pure]
      · subst e
        rcases g4 x hx with ⟨t, ht, e⟩ | ⟨b, hb, e⟩ <;> rcases q4 x hy with ⟨t', ht', e'⟩ | ⟨b', hb', e'⟩ <;> rw [e] at e' <;> cases e'
        · exact disj_spec hd2 t ht ht'
        · exact disj_spec hd1 b hb hb'
      · rcases List.mem_append.1 hg with hg | hg
        · rcases g4 g hg with ⟨t, ht, e⟩ | ⟨b, hb, e⟩
          · exact .inl ⟨t, by simp [ht], e⟩
          · exact .inr ⟨b, by simp [hb], e⟩
        · rcases q4 g hg with ⟨t, ht, e⟩ | ⟨b, hb, e⟩
          · exact .inl ⟨t, by simp [ht], e⟩
          · exact .inr ⟨b, by simp [hb], e⟩
    · cases h

end Evl
