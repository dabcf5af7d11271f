/- Operations that leave each other alone: any order is as good. No condition. -/
import Derived.Test.YtpjeibdllddkjaaEwc
namespace Evl
open Go

variable {P : Program} {H : Hints} {fid : FuncId} {s u : S}

mutual
theorem kill_id (d : Nat) : ∀ v : AV, d ∉ ids v → kill d v = v
  | .lit _, _ => rfl
  | .nil, _ => rfl
  | .sl _ _ _ _, _ => rfl
  | .msl b n, h => by simp only [kill]; rw [if_neg (fun e => h (by simp [ids, e]))]
  | .agg cs, h => by simp only [kill]; rw [killL_id d cs (by simpa [ids] using h)]
  | .tup cs, h => by simp only [kill]; rw [killL_id d cs (by simpa [ids] using h)]
  | .ptr b o, h => by simp only [kill]; rw [if_neg (fun e => h (by simp [ids, e]))]
  | .cptr _, _ => rfl
  | .nbx _, _ => rfl
  | .fnv f cs, h => by simp only [kill]; rw [killL_id d cs (by simpa [ids] using h)]
  | .bad, _ => rfl
theorem killL_id (d : Nat) : ∀ l : List AV, d ∉ idsL l → killL d l = l
  | [], _ => rfl
  | x :: xs, h => by
    simp only [idsL, List.mem_append, not_or] at h
    simp only [killL]; rw [kill_id d x h.1, killL_id d xs h.2]
end
mutual
theorem ids_kill (d : Nat) : ∀ v : AV, ∀ k ∈ ids (kill d v), k ∈ ids v
  | .lit _ => by simp [kill]
  | .nil => by simp [kill]
  | .sl _ _ _ _ => by simp [kill]
  | .msl b n => by
    intro k hk; simp only [kill] at hk; split at hk
    · simp [ids] at hk
    · exact hk
  | .agg cs => by intro k hk; simp only [kill, ids] at hk ⊢; exact ids_killL d cs k hk
  | .tup cs => by intro k hk; simp only [kill, ids] at hk ⊢; exact ids_killL d cs k hk
  | .ptr b o => by
    intro k hk; simp only [kill] at hk; split at hk
    · simp [ids] at hk
    · exact hk
  | .cptr _ => by simp [kill]
  | .nbx _ => by simp [kill]
  | .fnv f cs => by intro k hk; simp only [kill, ids] at hk ⊢; exact ids_killL d cs k hk
  | .bad => by simp [kill]
theorem ids_killL (d : Nat) : ∀ l : List AV, ∀ k ∈ idsL (killL d l), k ∈ idsL l
  | [] => by simp [killL]
  | x :: xs => by
    intro k hk
    simp only [killL, idsL, List.mem_append] at hk ⊢
    rcases hk with hk | hk
    · exact .inl (ids_kill d x k hk)
    · exact .inr (ids_killL d xs k hk)
end
mutual
theorem kill_comm (d e : Nat) : ∀ v : AV, kill d (kill e v) = kill e (kill d v)
  | .lit _ => rfl
  | .nil => rfl
  | .sl _ _ _ _ => rfl
  | .msl b n => by
    simp only [kill]
    by_cases h1 : b = e <;> by_cases h2 : b = d <;> simp [kill, h1, h2]
    all_goals (try (split <;> simp_all [kill]))
  | .agg cs => by simp only [kill]; rw [killL_comm d e cs]
  | .tup cs => by simp only [kill]; rw [killL_comm d e cs]
  | .ptr b o => by
    simp only [kill]
    by_cases h1 : b = e <;> by_cases h2 : b = d <;> simp [kill, h1, h2]
    all_goals (try (split <;> simp_all [kill]))
  | .cptr _ => rfl
  | .nbx _ => rfl
  | .fnv f cs => by simp only [kill]; rw [killL_comm d e cs]
  | .bad => rfl
theorem killL_comm (d e : Nat) : ∀ l : List AV, killL d (killL e l) = killL e (killL d l)
  | [] => rfl
  | x :: xs => by simp only [killL]; rw [kill_comm d e x, killL_comm d e xs]
end

theorem killAll_id {v : AV} : ∀ {l : List Nat}, (∀ k ∈ ids v, k ∉ l) → killAll l v = v := by
  intro l
  induction l with
  | nil => intro _; rfl
  | cons d l ih =>
    intro h
    simp only [killAll]
    rw [kill_id d v (fun hd => h d hd (by simp))]
    exact ih fun k hk hl => h k hk (by simp [hl])
theorem killAllL_id {v : List AV} : ∀ {l : List Nat}, (∀ k ∈ idsL v, k ∉ l) → killAllL l v = v := by
  intro l
  induction l with
  | nil => intro _; rfl
  | cons d l ih =>
    intro h
    simp only [killAllL]
    rw [killL_id d v (fun hd => h d hd (by simp))]
    exact ih fun k hk hl => h k hk (by simp [hl])
theorem ids_killAll : ∀ (l : List Nat) (v : AV), ∀ k ∈ ids (killAll l v), k ∈ ids v := by
  intro l
  induction l with
  | nil => intro v k hk; exact hk
  | cons d l ih => intro v k hk; simp only [killAll] at hk; exact ids_kill d v k (ih _ k hk)
theorem kill_killAll (d : Nat) : ∀ (l : List Nat) (v : AV), kill d (killAll l v) = killAll l (kill d v) := by
  intro l
  induction l with
  | nil => intro v; rfl
  | cons e l ih => intro v; simp only [killAll]; rw [ih, kill_comm]
theorem killAll_comm : ∀ (l m : List Nat) (v : AV), killAll l (killAll m v) = killAll m (killAll l v) := by
  intro l
  induction l with
  | nil => intro m v; rfl
  | cons d l ih => intro m v; simp only [killAll]; rw [kill_killAll, ih]
theorem killL_killAllL (d : Nat) : ∀ (l : List Nat) (v : List AV), killL d (killAllL l v) = killAllL l (killL d v) := by
  intro l
  induction l with
  | nil => intro v; rfl
  | cons e l ih => intro v; simp only [killAllL]; rw [ih, killL_comm]
theorem killAllL_comm : ∀ (l m : List Nat) (v : List AV), killAllL l (killAllL m v) = killAllL m (killAllL l v) := by
  intro l
  induction l with
  | nil => intro m v; rfl
  | cons d l ih => intro m v; simp only [killAllL]; rw [killL_killAllL, ih]

/-- What an entry speaks of is written into it. -/
structure Fit (x : LogE) (s : S) : Prop where
  lk : ∀ t ∈ x.looks, ∀ k ∈ ids (s.t t), k ∈ x.ment
  rd : ∀ b ∈ x.eff.rd, ∀ z, s.b b = some z → ∀ k ∈ idsB z, k ∈ x.ment
  vl : ∀ k ∈ ids x.eff.val, k ∈ x.ment
  pt : ∀ b z, lookup b x.eff.put = some z → ∀ k ∈ idsB z, k ∈ x.ment
  st : ∀ t z, lookup t x.eff.set = some z → ∀ k ∈ ids z, k ∈ x.ment
  n1 : x.nb = true → ∀ t ∈ x.looks, noBad (s.t t) = true
  n2 : x.nb = true → ∀ b ∈ x.eff.rd, ∀ z, s.b b = some z → z.sz = 0 → noBadL z.cs = true

mutual
theorem kill_noBad (d : Nat) : ∀ v : AV, noBad (kill d v) = true → kill d v = v
  | .lit _, _ => rfl
  | .nil, _ => rfl
  | .sl _ _ _ _, _ => rfl
  | .msl b n, h => by
    simp only [kill] at h ⊢
    split at h
    · simp [noBad] at h
    · rename_i e; rw [if_neg e]
  | .agg cs, h => by simp only [kill, noBad] at h ⊢; rw [killL_noBad d cs h]
  | .tup cs, h => by simp only [kill, noBad] at h ⊢; rw [killL_noBad d cs h]
  | .ptr b o, h => by
    simp only [kill] at h ⊢
    split at h
    · simp [noBad] at h
    · rename_i e; rw [if_neg e]
  | .cptr _, _ => rfl
  | .nbx _, _ => rfl
  | .fnv f cs, h => by simp only [kill, noBad] at h ⊢; rw [killL_noBad d cs h]
  | .bad, _ => rfl
theorem killL_noBad (d : Nat) : ∀ l : List AV, noBadL (killL d l) = true → killL d l = l
  | [], _ => rfl
  | x :: xs, h => by
    simp only [killL, noBadL, Bool.and_eq_true] at h ⊢
    rw [kill_noBad d x h.1, killL_noBad d xs h.2]
end
theorem killAll_noBad : ∀ (l : List Nat) (v : AV), noBad (killAll l v) = true → killAll l v = v := by
  intro l
  induction l with
  | nil => intro v _; rfl
  | cons d l ih =>
    intro v h
    simp only [killAll] at h ⊢
    have e := ih _ h
    rw [e] at h ⊢
    exact kill_noBad d v h
theorem killAllL_noBad : ∀ (l : List Nat) (v : List AV), noBadL (killAllL l v) = true → killAllL l v = v := by
  intro l
  induction l with
  | nil => intro v _; rfl
  | cons d l ih =>
    intro v h
    simp only [killAllL] at h ⊢
    have e := ih _ h
    rw [e] at h ⊢
    exact killL_noBad d v h

theorem lookup_in {α : Type} {t : Nat} {z : α} : ∀ {l : List (Nat × α)}, lookup t l = some z → (t, z) ∈ l := by
  intro l
  induction l with
  | nil => intro h; cases h
  | cons q l ih =>
    obtain ⟨k, x⟩ := q
    intro h
    simp only [lookup] at h
    split at h
    · rename_i e; subst e; cases h; simp
    · exact List.mem_cons_of_mem _ (ih h)

theorem fit_mkLog {ops : Array Oper} {i : Nat} {o : Oper} {e : Eff} {b : Bool} (hg : gd ops o s = some b) : Fit (mkLog ops i o s e) s := by
  refine ⟨fun t ht k hk => ?_, fun b hb z hz k hk => ?_, fun k hk => ?_, fun b z hl k hk => ?_, fun t z hl k hk => ?_, fun hn t ht => ?_, fun hn b hb z hz => ?_⟩
  · simp only [mkLog] at ht ⊢
    unfold Oper.looksAt at ht
    rcases List.mem_append.1 ht with ht | ht
    · rw [List.mem_filterMap] at ht
      obtain ⟨x, hx, he⟩ := ht
      cases x with
      | tmp t' =>
        simp only [Option.some.injEq] at he; subst he
        simp only [List.mem_append]
        refine .inl (.inl (.inl (.inl ?_)))
        exact List.mem_flatMap.2 ⟨.tmp t', hx, hk⟩
      | _ => simp at he
    · unfold gd at hg
      cases hgd : o.guard with
      | none => rw [hgd] at ht; cases ht
      | some q =>
        obtain ⟨j, want⟩ := q
        rw [hgd] at ht hg
        simp only at ht hg
        split at hg
        · rename_i d hd
          rw [hd] at ht
          simp at ht; subst ht
          split at hg
          · rename_i c hc; rw [hc] at hk; simp [ids] at hk
          · rename_i hc; rw [hc] at hk; simp [ids, idsL] at hk
          · cases hg
        · cases hg
  · simp only [mkLog, List.mem_append]
    refine .inl (.inl (.inl (.inr ?_)))
    unfold boxIds
    exact List.mem_flatMap.2 ⟨b, hb, by rw [hz]; exact hk⟩
  · simp only [mkLog, List.mem_append]; exact .inl (.inl (.inr hk))
  · simp only [mkLog, List.mem_append]; exact .inl (.inr (List.mem_flatMap.2 ⟨_, lookup_in hl, hk⟩))
  · simp only [mkLog, List.mem_append]; exact .inr (List.mem_flatMap.2 ⟨_, lookup_in hl, hk⟩)
  · simp only [mkLog, Bool.and_eq_true, List.all_eq_true] at hn
    exact hn.1 t ht
  · simp only [mkLog, Bool.and_eq_true, List.all_eq_true] at hn
    have := hn.2 b hb
    rw [hz] at this
    intro h0
    simpa [h0] using this

theorem agree_entry {ops : Array Oper} {x : LogE} (h : EntryOk P ops x s) (ha : agree x.looks x.eff.rd s u) : EntryOk P ops x u := by
  intro N w0 M V0 V K O z a w R hz
  exact h N w0 M V0 V K O z a w R ⟨fun t ht => (hz.1 t ht).trans (ha.1 t ht), fun b hb => (hz.2 b hb).trans (ha.2 b hb)⟩
theorem agree_fit {x : LogE} (h : Fit x s) (ha : agree x.looks x.eff.rd s u) : Fit x u :=
  ⟨fun t ht => by rw [ha.1 t ht]; exact h.lk t ht, fun b hb => by rw [ha.2 b hb]; exact h.rd b hb, h.vl, h.pt, h.st, fun hn t ht => by rw [ha.1 t ht]; exact h.n1 hn t ht, fun hn b hb => by rw [ha.2 b hb]; exact h.n2 hn b hb⟩

structure One (x y : LogE) : Prop where
  d1 : ∀ d, x.dst = some d → d ∉ y.looks ∧ y.dst ≠ some d ∧ lookup d y.eff.set = none
  s1 : ∀ t, lookup t x.eff.set ≠ none → t ∉ y.looks ∧ lookup t y.eff.set = none
  p1 : ∀ b, lookup b x.eff.put ≠ none → b ∉ y.eff.rd ∧ lookup b y.eff.put = none
  k1 : ∀ k ∈ x.eff.kl, k ∉ y.ment ∧ k ∉ y.eff.rd ∧ lookup k y.eff.put = none ∧ k ∉ y.eff.kl

theorem one_of {x y : LogE} (h : oneWay x y = true) : One x y := by
  unfold oneWay at h
  simp only [Bool.and_eq_true] at h
  obtain ⟨⟨⟨h1, h2⟩, h3⟩, h4⟩ := h
  refine ⟨fun d hd => ?_, fun t ht => ?_, fun b hb => ?_, fun k hk => ?_⟩
  · rw [hd] at h1
    simp only [Bool.and_eq_true, Bool.not_eq_true', List.contains_eq_mem, decide_eq_false_iff_not, bne_iff_ne] at h1
    exact ⟨h1.1.1, h1.1.2, lookup_none.2 h1.2⟩
  · have := disj_spec h2 t (lookup_mem.1 ht)
    simp only [List.mem_append, not_or] at this
    exact ⟨this.1, lookup_none.2 this.2⟩
  · have := disj_spec h3 b (lookup_mem.1 hb)
    simp only [List.mem_append, not_or] at this
    exact ⟨this.1, lookup_none.2 this.2⟩
  · have := disj_spec h4 k hk
    simp only [List.mem_append, not_or] at this
    exact ⟨this.1.1.1, this.1.1.2, lookup_none.2 this.1.2, this.2⟩

theorem killBox_id {l : List Nat} {z : Box} (h : z.sz = 0 → killAllL l z.cs = z.cs) : killBox l z = z := by
  unfold killBox
  by_cases hz : z.sz = 0
  · rw [if_pos hz, h hz]
  · rw [if_neg hz]
theorem idsB_of {z : Box} {k : Nat} (h0 : z.sz = 0) (h : k ∈ idsL z.cs) : k ∈ idsB z := by unfold idsB; rw [if_pos h0]; exact h

/-- What x does, y does not see. -/
theorem apply_agree {x y : LogE} (h : One x y) (hy : Fit y s) : agree y.looks y.eff.rd s (x.eff.apply x.dst s) := by
  refine ⟨fun t ht => ?_, fun b hb => ?_⟩
  · simp only [Eff.apply]
    rw [if_neg (fun e => (h.d1 t e).1 ht)]
    have : lookup t x.eff.set = none := by
      cases hl : lookup t x.eff.set with
      | none => rfl
      | some z => exact absurd ht (h.s1 t (by rw [hl]; simp)).1
    rw [this]
    exact killAll_id fun k hk hk' => (h.k1 k hk').1 (hy.lk t ht k hk)
  · simp only [Eff.apply]
    have : lookup b x.eff.put = none := by
      cases hl : lookup b x.eff.put with
      | none => rfl
      | some z => exact absurd hb (h.p1 b (by rw [hl]; simp)).1
    rw [this]
    simp only
    rw [if_neg (fun hk => (h.k1 b hk).2.1 hb)]
    cases hs : s.b b with
    | none => rfl
    | some z =>
      simp only [Option.map_some, Option.some.injEq]
      rw [killBox_id fun h0 => killAllL_id fun k hk hk' => (h.k1 k hk').1 (hy.rd b hb z hs k (idsB_of h0 hk))]

theorem apply_comm {x y : LogE} (h1 : One x y) (h2 : One y x) (hx : Fit x s) (hy : Fit y s) : x.eff.apply x.dst (y.eff.apply y.dst s) = y.eff.apply y.dst (x.eff.apply x.dst s) := by
  have ht : ∀ i, (x.eff.apply x.dst (y.eff.apply y.dst s)).t i = (y.eff.apply y.dst (x.eff.apply x.dst s)).t i := by
    intro i
    simp only [Eff.apply]
    by_cases hxi : x.dst = some i
    · obtain ⟨g1, g2, g3⟩ := h1.d1 i hxi
      rw [if_pos hxi, if_neg g2, g3]
      simp only [hxi, if_true]
      exact (killAll_id fun k hk hk' => (h2.k1 k hk').1 (hx.vl k hk)).symm
    · rw [if_neg hxi]
      by_cases hyi : y.dst = some i
      · obtain ⟨g1, g2, g3⟩ := h2.d1 i hyi
        rw [if_pos hyi, g3]
        simp only [hyi, if_true]
        exact killAll_id fun k hk hk' => (h1.k1 k hk').1 (hy.vl k hk)
      · rw [if_neg hyi]
        cases hlx : lookup i x.eff.set with
        | some z =>
          have := (h1.s1 i (by rw [hlx]; simp)).2
          rw [this]
          simp only [hxi, hyi, if_false]
          exact (killAll_id fun k hk hk' => (h2.k1 k hk').1 (hx.st i z hlx k (ids_killAll _ _ k hk))).symm
        | none =>
          cases hly : lookup i y.eff.set with
          | some z =>
            simp only [hxi, hyi, if_false]
            exact killAll_id fun k hk hk' => (h1.k1 k hk').1 (hy.st i z hly k (ids_killAll _ _ k hk))
          | none =>
            simp only [hxi, hyi, if_false]
            exact killAll_comm _ _ _
  have hb : ∀ i, (x.eff.apply x.dst (y.eff.apply y.dst s)).b i = (y.eff.apply y.dst (x.eff.apply x.dst s)).b i := by
    intro i
    simp only [Eff.apply]
    cases hlx : lookup i x.eff.put with
    | some z =>
      have g := (h1.p1 i (by rw [hlx]; simp)).2
      rw [g]
      have gk : i ∉ y.eff.kl := fun hk => by have := (h2.k1 i hk).2.2.1; rw [hlx] at this; cases this
      simp only [gk, if_false, Option.map_some, Option.some.injEq]
      rw [killBox_id fun h0 => killAllL_id fun k hk hk' => (h2.k1 k hk').1 (hx.pt i z hlx k (idsB_of h0 hk))]
    | none =>
      cases hly : lookup i y.eff.put with
      | some z =>
        have gk : i ∉ x.eff.kl := fun hk => by have := (h1.k1 i hk).2.2.1; rw [hly] at this; cases this
        simp only [gk, if_false, Option.map_some, Option.some.injEq]
        rw [killBox_id fun h0 => killAllL_id fun k hk hk' => (h1.k1 k hk').1 (hy.pt i z hly k (idsB_of h0 hk))]
      | none =>
        simp only
        by_cases hkx : i ∈ x.eff.kl <;> by_cases hky : i ∈ y.eff.kl
        · simp [hkx, hky]
        · simp [hkx, hky]
        · simp [hkx, hky]
        · simp only [hkx, hky, if_false, Option.map_map]
          congr 1
          funext z
          simp only [Function.comp, killBox]
          by_cases h0 : z.sz = 0
          · simp only [h0, if_true]; rw [killAllL_comm]
          · simp only [h0, if_false]
  cases h3 : x.eff.apply x.dst (y.eff.apply y.dst s) with
  | mk t b =>
    cases h4 : y.eff.apply y.dst (x.eff.apply x.dst s) with
    | mk t' b' =>
      have e1 : t = t' := funext fun i => by have := ht i; rw [h3, h4] at this; exact this
      have e2 : b = b' := funext fun i => by have := hb i; rw [h3, h4] at this; exact this
      rw [e1, e2]

/-- The entries, one behind the other, each with what it speaks of. -/
inductive Link (P : Program) (ops : Array Oper) : S → List LogE → S → Prop
  | nil (s1 : S) : Link P ops s1 [] s1
  | cons (s1 : S) (x : LogE) (lg : List LogE) (s2 : S) : EntryOk P ops x s1 → Fit x s1 → Link P ops (x.eff.apply x.dst s1) lg s2 → Link P ops s1 (x :: lg) s2

theorem Link.chain {ops : Array Oper} {lg : List LogE} {s s' : S} (h : Link P ops s lg s') : Chain P ops s lg s' := by
  induction h with
  | nil s1 => exact .nil s1
  | cons s1 x lg s2 h1 _ _ ih => exact .cons s1 x lg s2 h1 ih

/-- An entry that leaves all entries ahead of it alone comes first as well. -/
theorem Link.first {ops : Array Oper} {x : LogE} {post : List LogE} : ∀ {pre : List LogE} {s s' : S}, x.nb = true → Link P ops s (pre ++ x :: post) s' → (∀ y ∈ pre, One x y ∧ One y x) → EntryOk P ops x s ∧ Fit x s ∧ Link P ops (x.eff.apply x.dst s) (pre ++ post) s' := by
  intro pre
  induction pre with
  | nil =>
    intro s s' _ h _
    cases h with
    | cons _ _ _ _ h1 h2 h3 => exact ⟨h1, h2, h3⟩
  | cons y pre ih =>
    intro s s' hnb h hall
    cases h with
    | cons _ _ _ _ h1 h2 h3 =>
      obtain ⟨g1, g2, g3⟩ := ih hnb h3 fun z hz => hall z (by simp [hz])
      obtain ⟨o1, o2⟩ := hall y (by simp)
      -- x does not see what y does: it is as good in s
      have hag : agree x.looks x.eff.rd (y.eff.apply y.dst s) s := by
        -- x sees alike in both: backwards
        refine ⟨fun t ht => ?_, fun b hb => ?_⟩
        · simp only [Eff.apply]
          rw [if_neg (fun e => (o2.d1 t e).1 ht)]
          have : lookup t y.eff.set = none := by
            cases hl : lookup t y.eff.set with
            | none => rfl
            | some z => exact absurd ht (o2.s1 t (by rw [hl]; simp)).1
          have hb := g2.n1 hnb t ht
          simp only [Eff.apply, if_neg (fun e => (o2.d1 t e).1 ht : ¬ y.dst = some t), this] at hb
          rw [this]; exact (killAll_noBad _ _ hb).symm
        · have hp : lookup b y.eff.put = none := by
            cases hl : lookup b y.eff.put with
            | none => rfl
            | some z => exact absurd hb (o2.p1 b (by rw [hl]; simp)).1
          have hkk : b ∉ y.eff.kl := fun hk => (o2.k1 b hk).2.1 hb
          simp only [Eff.apply, hp, hkk, if_false]
          cases hs : s.b b with
          | none => rfl
          | some z =>
            have hn := g2.n2 hnb b hb (killBox y.eff.kl z) (by simp only [Eff.apply, hp, hkk, if_false, hs, Option.map_some])
            simp only [Option.map_some, Option.some.injEq]
            refine (killBox_id fun h0 => ?_).symm
            have hn := hn h0
            simp only [killBox, if_pos h0] at hn
            exact killAllL_noBad _ _ hn
      have hfx : Fit x s := agree_fit g2 hag
      refine ⟨agree_entry g1 hag, hfx, ?_⟩
      simp only [List.cons_append]
      refine .cons _ y _ _ (agree_entry h1 (apply_agree o1 h2)) (agree_fit h2 (apply_agree o1 h2)) ?_
      rw [← apply_comm o1 o2 hfx h2]; exact g3
end Evl
