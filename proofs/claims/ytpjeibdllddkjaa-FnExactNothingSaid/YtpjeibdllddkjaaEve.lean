/- One step of both machines. No condition. -/
import Derived.Test.YtpjeibdllddkjaaEvd
namespace Evl
open Go

variable {N : Nat} {w0 w w' : World} {M : Nat → Prop} {V0 V V' : Nat → Nat} {K K' : Nat → Nat × Nat} {O O' : Nat → Option Loc} {s : S} {a : Act}

theorem killL_length (d : Nat) : ∀ cs, (killL d cs).length = cs.length
  | [] => rfl
  | x :: xs => by simp [killL, killL_length d xs]
theorem killAllL_length (l : List Nat) : ∀ cs, (killAllL l cs).length = cs.length := by
  induction l with
  | nil => intro cs; rfl
  | cons d l ih => intro cs; simp only [killAllL]; rw [ih, killL_length]
theorem shareL_length : ∀ cs, (shareL cs).length = cs.length
  | [] => rfl
  | x :: xs => by simp [shareL, shareL_length xs]

theorem getD_put (a : Act) (dst : Option Nat) (v : Value) (t : Nat) (h : dst ≠ some t) : (a.put dst v).tmps.getD t undef = a.tmps.getD t undef := by
  cases dst with
  | none => rfl
  | some d =>
    have : d ≠ t := fun e => h (by rw [e])
    simp [Act.put, Array.getD_eq_getD_getElem?, this]
theorem getD_put_same (a : Act) (d : Nat) (v : Value) (h : d < a.tmps.size) : (a.put (some d) v).tmps.getD d undef = v := by
  simp [Act.put, h]
theorem put_defers (a : Act) (dst : Option Nat) (v : Value) : (a.put dst v).defers = a.defers := by cases dst <;> rfl
theorem put_size (a : Act) (dst : Option Nat) (v : Value) : (a.put dst v).tmps.size = a.tmps.size := by cases dst <;> simp [Act.put]

theorem BoxOk.next {b : Nat} {x : Box} {fb arr T fz us} (h : BoxOk V w K b x fb arr T fz us) (n : Next V V' w w') (ho : ∀ g ∈ (K b).1 :: fb, w'.heap[g]? = w.heap[g]? ∧ V' g = V g) (kl : List Nat) (hK : ∀ b, b ∉ kl → K' b = K b) (hb : b ∉ kl) :
    BoxOk V' w' K' b (killBox kl x) fb arr T fz us where
  hp := by rw [hK b hb]; exact (ho _ (by simp)).1.trans h.hp
  th := h.th
  pre := h.pre
  rep := by
    simp only [killBox]
    by_cases hz : x.sz = 0
    · rw [if_pos hz]; exact h.rep.next n (fun g hg => ho g (by simp [hg])) kl hK
    · rw [if_neg hz]
      have e : (x.sz == 0) = false := by simpa using hz
      exact h.rep.mono n.cell n.le n.sz (fun g hg => ho g (by simp [hg])) (by rw [h.rep.noIds e]; simp)
  vis := by
    rw [hK b hb, (ho _ (by simp)).2, h.vis]; simp only [killBox]
    by_cases hz : x.sz = 0
    · simp only [if_pos hz, killAllL_length]
    · simp only [if_neg hz]
  var := h.var
  row := fun hz => by rw [hK b hb]; exact h.row hz

theorem RelG.apply (R : RelG N w0 M V0 K V O s a w) (e : Eff) (dst : Option Nat) (v : Value)
    (hd : ∀ d, dst = some d → d < N)
    (hn : Next V V' w w')
    (hK : ∀ b, b ∉ e.kl → K' b = K b)
    (hO : ∀ g l, O g = some l → (∀ t, l = (true, t) → dst ≠ some t ∧ lookup t e.set = none) → (∀ b, l = (false, b) → lookup b e.put = none ∧ b ∉ e.kl) → w'.heap[g]? = w.heap[g]? ∧ V' g = V g ∧ O' g = some l)
    (hset : ∀ t x, dst ≠ some t → lookup t e.set = some x → ∃ fp, fp.Nodup ∧ (∀ g ∈ fp, O' g = some (true, t)) ∧ RepV V' w' K' fp (a.tmps.getD t undef) (killAll e.kl x))
    (hval : ∀ d, dst = some d → ∃ fp, fp.Nodup ∧ (∀ g ∈ fp, O' g = some (true, d)) ∧ RepV V' w' K' fp v e.val)
    (hput : ∀ b x, lookup b e.put = some x → BoxAt V' w' K' O' b x)
    (hrg : ∀ g l, O' g = some l → (w0.heap.size ≤ g ∨ M g) ∧ g < w'.heap.size)
    (hvr : ∀ g, 0 < V' g → g < w'.heap.size)
    (hfr : Fr w0 M w') (hvo : ∀ g, g < w0.heap.size → ¬ M g → V' g = V g) :
    RelG N w0 M V0 K' V' O' (e.apply dst s) (a.put dst v) w' where
  df := by rw [put_defers]; exact R.df
  n := by rw [put_size]; exact R.n
  tm := by
    intro t
    by_cases ht : dst = some t
    · obtain ⟨fp, h1, h2, h3⟩ := hval t ht
      refine ⟨fp, h1, h2, ?_⟩
      subst ht
      rw [getD_put_same _ _ _ (by rw [R.n]; exact hd t rfl)]
      simpa [Eff.apply] using h3
    · simp only [Eff.apply, if_neg ht, getD_put a dst v t ht]
      cases hl : lookup t e.set with
      | some x => exact hset t x ht hl
      | none =>
        obtain ⟨fp, h1, h2, h3⟩ := R.tm t
        have hk : ∀ g ∈ fp, w'.heap[g]? = w.heap[g]? ∧ V' g = V g ∧ O' g = some (true, t) := fun g hg =>
          hO g _ (h2 g hg) (fun t' e => by cases e; exact ⟨ht, hl⟩) (fun b e => by cases e)
        exact ⟨fp, h1, fun g hg => (hk g hg).2.2, h3.next hn (fun g hg => ⟨(hk g hg).1, (hk g hg).2.1⟩) e.kl hK⟩
  bx := by
    intro b x hb
    simp only [Eff.apply] at hb
    cases hl : lookup b e.put with
    | some y => rw [hl] at hb; cases hb; exact hput b x hl
    | none =>
      rw [hl] at hb
      by_cases hk : b ∈ e.kl
      · simp [hk] at hb
      · rw [if_neg hk] at hb
        cases hs : s.b b with
        | none => rw [hs] at hb; cases hb
        | some y =>
          rw [hs] at hb; cases hb
          rcases R.bx b y hs with ⟨z1, z2, z3⟩ | ⟨fb, arr, T, fz, us, h1, h2, h3⟩
          · exact .inl ⟨z1, by simp only [killBox, z2]; split; exact killAllL_nil _; rfl, by rw [hK b hk]; exact z3⟩
          refine .inr ?_
          have hq : ∀ g ∈ (K b).1 :: fb, w'.heap[g]? = w.heap[g]? ∧ V' g = V g ∧ O' g = some (false, b) := fun g hg =>
            hO g _ (h2 g hg) (fun t e => by cases e) (fun b' e => by cases e; exact ⟨hl, hk⟩)
          exact ⟨fb, arr, T, fz, us, by rw [hK b hk]; exact h1, by rw [hK b hk]; exact fun g hg => (hq g hg).2.2, h3.next hn (fun g hg => ⟨(hq g hg).1, (hq g hg).2.1⟩) e.kl hK hk⟩
  rg := hrg
  vr := hvr
  fr := hfr
  nx := R.nx.trans hn
  vo := fun g h1 h2 => (hvo g h1 h2).trans (R.vo g h1 h2)

/-- A step that only tells a slot anew, with nothing that is anybody's own. -/
theorem RelG.pure (R : RelG N w0 M V0 K V O s a w) (dst : Option Nat) (v : Value) (x : AV) (rd : List Nat) (hd : ∀ d, dst = some d → d < N) (h : RepV V w K [] v x) :
    ∃ O', RelG N w0 M V0 K V O' (({ val := x, rd := rd } : Eff).apply dst s) (a.put dst v) w := by
  refine ⟨fun g => if O g = dst.map (fun d => (true, d)) then none else O g, R.apply _ dst v hd (Next.refl V w) (fun _ _ => rfl) ?_ ?_ ?_ ?_ ?_ R.vr R.fr (fun _ _ _ => rfl)⟩
  · intro g l hl ht hb
    refine ⟨rfl, rfl, ?_⟩
    rw [if_neg ?_]; exact hl
    rw [hl]
    cases dst with
    | none => simp
    | some d => simp only [Option.map_some]; intro e; cases e; exact (ht d rfl).1 rfl
  · intro t x _ hl; simp [lookup] at hl
  · intro d hd; exact ⟨[], List.nodup_nil, by simp, h⟩
  · intro b x hl; simp [lookup] at hl
  · intro g l hl
    split at hl
    · cases hl
    · exact R.rg g l hl

/-- The value in a slot, taken as one's own. -/
theorem RelG.ev (R : RelG N w0 M V0 K V O s a w) (x : Operand) : ∃ fp, fp.Nodup ∧ (∀ t, x = .tmp t → ∀ g ∈ fp, O g = some (true, t)) ∧ ((∀ t, x ≠ .tmp t) → fp = []) ∧ RepV V w K fp (a.eval x) (s.ev x) := by
  cases x with
  | tmp t =>
    obtain ⟨fp, h1, h2, h3⟩ := R.tm t
    exact ⟨fp, h1, fun t' e => by cases e; exact h2, fun e => absurd rfl (e t), h3⟩
  | const v =>
    refine ⟨[], List.nodup_nil, by simp, fun _ => rfl, ?_⟩
    have one : ∀ v : Value, oc v = true → Rep V w K true [] [v] [ofValue v] := by
      intro v ho
      unfold ofValue
      split
      · exact .lit rfl .nil
      · exact .lit rfl .nil
      · exact .lit rfl .nil
      · exact .lit rfl .nil
      · exact .nl .nil
      · exact .bd _ ho .nil
    have all : ∀ l : List Value, (∀ v ∈ l, oc v = true) → Rep V w K true [] l (l.map ofValue) := by
      intro l; induction l with
      | nil => intro _; exact .nil
      | cons v l ih => intro h; exact (one v (h v (by simp))).app (ih fun u hu => h u (by simp [hu]))
    simp only [Act.eval, S.ev]
    unfold ofConst
    split
    · rename_i cs
      split
      · rename_i hc
        have hcs : cs = cs.toList.toArray := by simp
        rw [hcs]
        refine .u (.agg ?_)
        have := all cs.toList (List.all_eq_true.1 hc)
        simpa using this
      · exact .bad _
    · by_cases ho : oc v = true
      · exact .u (.one (one v ho))
      · have : ofValue v = .bad := by cases v <;> simp_all [oc, ofValue]
        rw [this]; exact .bad _
  | global g => exact ⟨[], List.nodup_nil, by simp, fun _ => rfl, .bad _⟩
  | func f => exact ⟨[], List.nodup_nil, by simp, fun _ => rfl, .lit rfl⟩
end Evl
