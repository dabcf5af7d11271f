/- Regions whose order is drawn. No condition. -/
import Derived.Test.YtpjeibdllddkjaaEwd
namespace Evl
open Go

variable {P : Program} {H : Hints} {fid : FuncId} {s u : S} {N : Nat} {w0 w w' : World} {M : Nat → Prop} {V0 V V' : Nat → Nat} {K K' : Nat → Nat × Nat} {O O' : Nat → Option Loc} {a : Act}

/-- A bit of 'before' comes from an edge. -/
theorem before_bit (ops : Array Oper) : (Region.before ops).size = ops.size ∧ ∀ (j : Nat) (o : Oper), ops[j]? = some o → ∀ i, ((Region.before ops).getD j 0).testBit i = true → ∃ e ∈ o.after, Region.binds .any e = true ∧ (e.on = i ∨ (e.on < j ∧ ((Region.before ops).getD e.on 0).testBit i = true)) := by
  let step : Array Nat → Oper → Array Nat := fun acc o => acc.push (o.after.foldl (fun s e => if Region.binds .any e then s ||| 2 ^ e.on ||| acc.getD e.on 0 else s) 0)
  have key : ∀ (r l : List Oper), l = r.reverse → (l.foldl step #[]).size = l.length ∧ ∀ (j : Nat) (o : Oper), l[j]? = some o → ∀ i, ((l.foldl step #[]).getD j 0).testBit i = true → ∃ e ∈ o.after, Region.binds .any e = true ∧ (e.on = i ∨ (e.on < j ∧ ((l.foldl step #[]).getD e.on 0).testBit i = true)) := by
    intro r
    induction r with
    | nil => intro l hl; subst hl; exact ⟨rfl, by simp⟩
    | cons o r ih =>
      intro l0 hl0
      rw [List.reverse_cons] at hl0
      subst hl0
      have ih := ih r.reverse rfl
      generalize r.reverse = l at ih ⊢
      rw [List.foldl_append]
      simp only [List.foldl_cons, List.foldl_nil]
      generalize hB : l.foldl step #[] = B at ih ⊢
      obtain ⟨ih1, ih2⟩ := ih
      have hget : ∀ k, k < l.length → (step B o).getD k 0 = B.getD k 0 := fun k hk => by
        simp only [step, Array.getD_eq_getD_getElem?, Array.getElem?_push]
        rw [if_neg (by omega)]
      refine ⟨by simp [step, ih1], fun j o' hj i hb => ?_⟩
      by_cases hjl : j < l.length
      · rw [List.getElem?_append_left hjl] at hj
        rw [hget j hjl] at hb
        obtain ⟨e, h1, h2, h3⟩ := ih2 j o' hj i hb
        refine ⟨e, h1, h2, h3.imp id fun h => ⟨h.1, ?_⟩⟩
        rw [hget e.on (by omega)]; exact h.2
      · have hj' : j = l.length := by
          have := (List.getElem?_eq_some_iff.1 hj).1
          simp at this; omega
        subst hj'
        rw [List.getElem?_append_right (Nat.le_refl _)] at hj
        simp at hj; subst hj
        have hb' : (o.after.foldl (fun s e => if Region.binds .any e then s ||| 2 ^ e.on ||| B.getD e.on 0 else s) 0).testBit i = true := by
          simp only [step, Array.getD_eq_getD_getElem?, Array.getElem?_push, ih1, if_true, Option.getD_some] at hb ⊢
          exact hb
        have fold : ∀ (es : List Edge) (n : Nat), (es.foldl (fun s e => if Region.binds .any e then s ||| 2 ^ e.on ||| B.getD e.on 0 else s) n).testBit i = true → n.testBit i = true ∨ ∃ e ∈ es, Region.binds .any e = true ∧ (e.on = i ∨ (B.getD e.on 0).testBit i = true) := by
          intro es
          induction es with
          | nil => intro n h; exact .inl h
          | cons e es ih =>
            intro n h
            simp only [List.foldl_cons] at h
            rcases ih _ h with h | ⟨e', h1, h2, h3⟩
            · split at h
              · rename_i hbd
                simp only [Nat.testBit_or, Bool.or_eq_true] at h
                rcases h with (h | h) | h
                · exact .inl h
                · refine .inr ⟨e, by simp, hbd, .inl ?_⟩
                  rw [Nat.testBit_two_pow] at h; simpa using h
                · exact .inr ⟨e, by simp, hbd, .inr h⟩
              · exact .inl h
            · exact .inr ⟨e', by simp [h1], h2, h3⟩
        rw [← Array.foldl_toList] at hb'
        rcases fold _ _ hb' with h | ⟨e, h1, h2, h3⟩
        · simp at h
        · refine ⟨e, by simpa using h1, h2, ?_⟩
          rcases h3 with h3 | h3
          · exact .inl h3
          · by_cases he : e.on < l.length
            · exact .inr ⟨he, by rw [hget _ he]; exact h3⟩
            · rw [Array.getD_eq_getD_getElem?, Array.getElem?_eq_none (by omega)] at h3; simp at h3
  have := key ops.toList.reverse ops.toList (by simp)
  have e : ops.toList.foldl step #[] = Region.before ops := by
    unfold Region.before
    rw [← Array.foldl_toList]
  rw [e] at this
  exact ⟨by simpa using this.1, fun j o hj => this.2 j o (by simpa using hj)⟩

/-- Listed entries have their predecessors listed. -/
def Closed (ops : Array Oper) (listed : Array Bool) : Prop := ∀ k, listed.getD k false = true → ∀ o, ops[k]? = some o → ∀ e ∈ o.after, Region.binds .any e = true → listed.getD e.on false = true

theorem before_listed {ops : Array Oper} {listed : Array Bool} (hc : Closed ops listed) : ∀ (j : Nat) (o : Oper), ops[j]? = some o → (∀ e ∈ o.after, Region.binds .any e = true → listed.getD e.on false = true) → ∀ i, ((Region.before ops).getD j 0).testBit i = true → listed.getD i false = true := by
  intro j
  induction j using Nat.strongRecOn with
  | ind j ih =>
    intro o ho hr i hb
    obtain ⟨e, h1, h2, h3⟩ := (before_bit ops).2 j o ho i hb
    have hl := hr e h1 h2
    rcases h3 with rfl | ⟨h3, h4⟩
    · exact hl
    · cases hoe : ops[e.on]? with
      | none =>
        rw [Array.getD_eq_getD_getElem?, Array.getElem?_eq_none (by rw [(before_bit ops).1]; exact Array.getElem?_eq_none_iff.1 hoe)] at h4
        simp at h4
      | some o' => exact ih e.on h3 o' hoe (fun e' h1 h2 => hc e.on hl o' hoe e' h1 h2) i h4

theorem any_wp {ops : Array Oper} {lg0 : List LogE} (hok : drawOk ops lg0 = true) (hdst : ∀ x ∈ lg0, ∀ d, x.dst = some d → d < N) : ∀ (L : List LogE) (s s' : S) (listed : Array Bool), Link P ops s L s' → (∀ x ∈ L, x ∈ lg0) → (L.map (·.i)).Pairwise (· < ·) → listed.size = ops.size → (∀ k, k < ops.size → (listed.getD k false = false ↔ k ∈ L.map (·.i))) → (∀ x ∈ L, x.i < ops.size) → Closed ops listed →
    ∀ {w0 M V0 V K O a w}, RelG N w0 M V0 K V O s a w → ∀ (Q : Exit → Act → World → Prop), (∀ a' w' K' V' O', RelG N w0 M V0 K' V' O' s' a' w' → (∀ b, 1000 ≤ b → K' b = K b) → Q .normal a' w') → wpAny P .any ops Q L.length listed a w := by
  unfold drawOk at hok
  simp only [Bool.and_eq_true] at hok
  obtain ⟨⟨hnb, hedge⟩, hpair⟩ := hok
  rw [List.all_eq_true] at hnb hedge hpair
  have hlt : ∀ (j : Nat) (o : Oper), ops[j]? = some o → ∀ e ∈ o.after, Region.binds .any e = true → e.on < j := by
    intro j o ho e he hb
    have := hedge j (by simpa using (Array.getElem?_eq_some_iff.1 ho).1)
    rw [ho] at this
    simp only [Array.all_eq_true_iff_forall_mem, Bool.or_eq_true, Bool.not_eq_true', decide_eq_true_eq] at this
    rcases this e he with h | h
    · rw [hb] at h; cases h
    · exact h
  intro L
  induction hn : L.length generalizing L with
  | zero =>
    intro s s' listed hL hsub hord hsz hlist hin hcl w0 M V0 V K O a w R Q hQ
    obtain rfl := List.eq_nil_of_length_eq_zero hn
    cases hL
    refine ⟨?_, hQ _ _ _ _ _ R fun _ _ => rfl⟩
    rw [List.eq_nil_iff_forall_not_mem]
    intro j hj
    obtain ⟨h1, o, h2, h3⟩ := mem_ready.1 hj
    have hjl := (Array.getElem?_eq_some_iff.1 h2).1
    have : listed.getD j false = false := by
      rw [Array.getD_eq_getD_getElem?] at h1 ⊢
      rw [Array.getElem?_eq_getElem (by omega)] at h1 ⊢; simpa using h1
    have := (hlist j hjl).1 this
    simp at this
  | succ n ih =>
    intro s s' listed hL hsub hord hsz hlist hin hcl w0 M V0 V K O a w R Q hQ
    have hfalse : ∀ k, k < ops.size → listed.getD k true = listed.getD k false := fun k hk => by
      rw [Array.getD_eq_getD_getElem?, Array.getD_eq_getD_getElem?, Array.getElem?_eq_getElem (by omega)]; rfl
    refine ⟨fun hempty => ?_, fun i hi => ?_⟩
    · -- the first of them is ready
      exfalso
      match L, hn with
      | x :: L, hn =>
        have hx := hin x (by simp)
        have hmem : x.i ∈ Region.ready .any ops listed := by
          rw [mem_ready]
          refine ⟨by rw [hfalse x.i hx]; exact (hlist x.i hx).2 (by simp), ops[x.i], by simp [hx], fun e he hb => ?_⟩
          have hel := hlt x.i ops[x.i] (by simp [hx]) e he hb
          cases hg : listed.getD e.on false with
          | true => rfl
          | false =>
            have := (hlist e.on (by omega)).1 hg
            simp only [List.map_cons, List.mem_cons] at this
            rcases this with h | h
            · omega
            · have h' : x.i < e.on := List.rel_of_pairwise_cons hord h
              omega
        rw [hempty] at hmem; cases hmem
    · obtain ⟨h1, o, ho, h3⟩ := mem_ready.1 hi
      have hil := (Array.getElem?_eq_some_iff.1 ho).1
      rw [hfalse i hil] at h1
      have hm := (hlist i hil).1 h1
      obtain ⟨x, hx, rfl⟩ := List.mem_map.1 hm
      obtain ⟨pre, post, rfl⟩ := List.append_of_mem hx
      rw [List.map_append, List.map_cons, List.pairwise_append] at hord
      obtain ⟨hord1, hord2, hord3⟩ := hord
      have hind : ∀ y ∈ pre, One x y ∧ One y x := fun y hy => by
        have hyx : y.i < x.i := hord3 y.i (List.mem_map_of_mem hy) x.i (by simp)
        have hp := hpair y (hsub y (by simp [hy]))
        rw [List.all_eq_true] at hp
        have := hp x (hsub x (by simp))
        simp only [Bool.or_eq_true, Bool.not_eq_true', decide_eq_false_iff_not] at this
        rcases this with (h | h) | h
        · exact absurd hyx h
        · exfalso
          have hl := before_listed hcl x.i o ho h3 y.i h
          have := (hlist y.i (by omega)).2 (by simp only [List.map_append, List.mem_append]; exact .inl (List.mem_map_of_mem hy))
          rw [hl] at this; cases this
        · simp only [indep, Bool.and_eq_true] at h
          exact ⟨one_of h.2, one_of h.1⟩
      obtain ⟨g1, g2, g3⟩ := hL.first (hnb x (hsub x (by simp))) hind
      refine g1 N w0 M V0 V K O s a w R ⟨fun _ _ => rfl, fun _ _ => rfl⟩ (hdst x (hsub x (by simp))) Q _ ?_
      intro a' w' K' V' O' R' hK
      have hlen : (pre ++ post).length = n := by simp at hn ⊢; omega
      refine ih (pre ++ post) hlen _ s' (listed.setIfInBounds x.i true) g3 (fun y hy => hsub y ?_) ?_ (by simp [hsz]) ?_ (fun y hy => hin y ?_) ?_ R' Q (fun a'' w'' K'' V'' O'' R'' hK'' => hQ _ _ _ _ _ R'' fun b hb => (hK'' b hb).trans (hK b hb))
      · rcases List.mem_append.1 hy with h | h <;> simp [h]
      · rw [List.map_append, List.pairwise_append]
        exact ⟨hord1, (List.pairwise_cons.1 hord2).2, fun p hp q hq => hord3 p hp q (by simp [hq])⟩
      · intro k hk
        by_cases e : x.i = k
        · subst e
          rw [Array.getD_eq_getD_getElem?, Array.getElem?_setIfInBounds_self_of_lt (by omega)]
          simp only [Option.getD_some, Bool.true_eq_false, false_iff, List.map_append, List.mem_append, not_or]
          constructor
          · intro h; have := hord3 _ h x.i (by simp); omega
          · intro h; have := List.rel_of_pairwise_cons hord2 h; omega
        · rw [getD_set_ne _ e, hlist k hk]
          simp only [List.map_append, List.map_cons, List.mem_append, List.mem_cons]
          constructor
          · rintro (h | h | h)
            · exact .inl h
            · exact absurd h.symm e
            · exact .inr h
          · rintro (h | h)
            · exact .inl h
            · exact .inr (.inr h)
      · rcases List.mem_append.1 hy with h | h <;> simp [h]
      · intro k hk o' ho' e he hb
        by_cases hek : x.i = e.on
        · rw [← hek, Array.getD_eq_getD_getElem?, Array.getElem?_setIfInBounds_self_of_lt (by omega)]; rfl
        · rw [getD_set_ne _ hek]
          by_cases e' : x.i = k
          · subst e'
            rw [ho] at ho'; cases ho'
            exact h3 e he hb
          · rw [getD_set_ne _ e'] at hk
            exact hcl k hk o' ho' e he hb

theorem mc_draw (hmix : P.follows .mixedOrders = true) {id : Nat} {ops : Array Oper} {s s' : S} {lg : List LogE} (h : Link P ops s lg s') (hl : lg.map (·.i) = List.range ops.size) (hdst : ∀ x ∈ lg, x.dst = (ops[x.i]?).bind (·.dst)) (hok : drawOk ops lg = true) : MC P (.region id ops true) s .nor s' := by
  intro N w0 M V0 V K O a w hcok R Q hQ
  refine wp_region_any hmix ?_
  have hlen : ops.size = lg.length := by have := congrArg List.length hl; simpa using this.symm
  rw [hlen]
  have hd : ∀ x ∈ lg, ∀ d, x.dst = some d → d < N := fun x hx d hd => by
    rw [hdst x hx] at hd
    simp only [codeOk, opsOk, Array.all_eq_true_iff_forall_mem] at hcok
    cases ho : ops[x.i]? with
    | none => rw [ho] at hd; cases hd
    | some o =>
      rw [ho] at hd
      have := hcok o (Array.mem_of_getElem? ho)
      simp only [Option.bind_some] at hd
      rw [hd] at this; simpa using this
  have R' : RelG N w0 M V0 K V O s a { w with drawn := w.drawn + 1 } := by
    have h := R.apply (w' := { w with drawn := w.drawn + 1 }) (V' := V) (K' := K) (O' := O) ({ val := .bad } : Eff) none undef (fun d e => by cases e) ⟨fun _ _ _ => rfl, fun _ => Nat.le_refl _, Nat.le_refl _⟩ (fun _ _ => rfl) (fun g l hl _ _ => ⟨rfl, rfl, hl⟩) (fun t x _ hl => by simp [lookup] at hl) (fun d e => by cases e) (fun b x hl => by simp [lookup] at hl) R.rg R.vr ⟨R.fr.os, R.fr.tape, R.fr.output, R.fr.sz, R.fr.old⟩ (fun _ _ _ => rfl)
    have e1 : ({ val := .bad } : Eff).apply none s = s := by
      have ht : ∀ i, (({ val := .bad } : Eff).apply none s).t i = s.t i := fun i => by simp [Eff.apply, lookup, killAll]
      have hb : ∀ i, (({ val := .bad } : Eff).apply none s).b i = s.b i := fun i => by
        simp only [Eff.apply, lookup, List.not_mem_nil, if_false]
        cases s.b i with
        | none => rfl
        | some z =>
          simp only [Option.map_some, killBox, killAllL]
          congr 1
          cases z
          congr 1
          split <;> rfl
      cases h1 : ({ val := .bad } : Eff).apply none s with
      | mk t b =>
        cases s with
        | mk t' b' =>
          have e1 : t = t' := funext fun i => by have := ht i; rw [h1] at this; exact this
          have e2 : b = b' := funext fun i => by have := hb i; rw [h1] at this; exact this
          rw [e1, e2]
    rw [e1] at h; exact h
  refine any_wp hok hd lg s s' _ h (fun _ h => h) (by rw [hl]; exact List.pairwise_lt_range) (by simp [hlen]) (fun k hk => ?_) (fun x hx => ?_) ?_ R' Q hQ
  · rw [hl]; simp [hk, ← hlen]
  · have : x.i ∈ lg.map (·.i) := List.mem_map_of_mem hx
    rw [hl] at this; simpa using this
  · intro k hk
    rw [Array.getD_eq_getD_getElem?, Array.getElem?_replicate] at hk
    split at hk <;> simp at hk
end Evl
