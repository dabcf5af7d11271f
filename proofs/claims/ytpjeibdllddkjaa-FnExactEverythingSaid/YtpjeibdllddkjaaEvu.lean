/- What a call leaves behind. No condition. -/
import Derived.Test.YtpjeibdllddkjaaEvt
namespace Evl
open Go

variable {P : Program} {H : Hints} {fid : FuncId} {N : Nat} {w0 w w' : World} {M : Nat → Prop} {V0 V V' V1 Vc : Nat → Nat} {K K' K2 Kc : Nat → Nat × Nat} {O O' O1 Oc : Nat → Option Loc} {s : S} {a : Act} {fp : List Nat} {v : Value} {KS : List Nat}

/-- A block that the call does not take. -/
def un (O : Nat → Option Loc) (set : List (Nat × AV)) (kl : List Nat) (mts : List (Nat × Nat)) (g : Nat) : Bool :=
  match O g with
  | some (true, t) => !(set.map (·.1)).contains t
  | some (false, b) => !kl.contains b && !(mts.map (·.2)).contains b
  | none => false

theorem lookup_none {α : Type} {t : Nat} {l : List (Nat × α)} : lookup t l = none ↔ t ∉ l.map (·.1) := by
  induction l with
  | nil => simp [lookup]
  | cons q l ih =>
    obtain ⟨k, x⟩ := q
    simp only [lookup, List.map_cons, List.mem_cons, not_or]
    by_cases e : k = t
    · simp [e]
    · rw [if_neg e, ih]; exact ⟨fun h => ⟨fun e' => e e'.symm, h⟩, fun h => h.2⟩

/-- The lender's box of a borrowed one. -/
def bk : List (Nat × Nat) → Nat → Option Nat
  | [], _ => none
  | (i, b) :: l, k => if k = 1000 + i then some b else bk l k
theorem bk_of {l : List (Nat × Nat)} (hn : (l.map (·.1)).Nodup) {i b : Nat} (h : (i, b) ∈ l) : bk l (1000 + i) = some b := by
  induction l with
  | nil => cases h
  | cons q l ih =>
    obtain ⟨j, c⟩ := q
    simp only [List.map_cons, List.nodup_cons] at hn
    simp only [bk]
    rcases List.mem_cons.1 h with e | h'
    · cases e; simp
    · rw [if_neg ?_]; exact ih hn.2 h'
      intro e
      have e' : j = i := by omega
      exact hn.1 (List.mem_map.2 ⟨(i, b), h', e'.symm⟩)

theorem Rep.lower {m : Bool} {us : List Value} {cs : List AV} (h : Rep V w K m fp us cs) (hs : hasShL cs = false) (ho : ∀ g ∈ fp, V' g = V g) : Rep V' w K m fp us cs := by
  induction h with
  | nil => exact .nil
  | lit hp _ ih => exact .lit hp (ih (by simpa [hasShL, hasSh] using hs) ho)
  | nl _ ih => exact .nl (ih (by simpa [hasShL, hasSh] using hs) ho)
  | ns _ ih => simp [hasShL, hasSh] at hs
  | on _ ih => exact .on (ih (by simpa [hasShL, hasSh] using hs) ho)
  | sh a vs h1 h2 h3 hin _ ih1 ih2 => simp [hasShL, hasSh] at hs
  | ow g T arr fz vs h1 h2 h3 h4 h5 h6 h7 h8 hin _ ih1 ih2 =>
    simp only [hasShL, hasSh, Bool.or_eq_false_iff] at hs
    exact .ow g T arr fz vs h1 h2 h3 h4 h5 h6 h7 ((ho g (by simp)).trans h8) (ih1 hs.1.2 fun x hx => ho x (by simp [hx])) (ih2 hs.2 fun x hx => ho x (by simp [hx]))
  | ms b h0 h1 _ ih => simp [hasShL, hasSh] at hs
  | mv b h0 _ ih => simp [hasShL, hasSh] at hs
  | bd u hu _ ih => simp [hasShL, hasSh] at hs
theorem RepU.lower {x : AV} (h : RepU V w K fp v x) (hs : hasSh x = false) (ho : ∀ g ∈ fp, V' g = V g) : RepU V' w K fp v x := by
  cases h with
  | one h => exact .one (h.lower (by simp [hasShL, hs]) ho)
  | agg h => exact .agg (h.lower (by simpa [hasSh] using hs) ho)
  | p h => cases h <;> simp [hasSh] at hs
  | fnv h => simp [hasSh] at hs
theorem RepT.lower {us xs} (h : RepT V w K fp us xs) (ho : ∀ g ∈ fp, V' g = V g) : hasShL xs = false → RepT V' w K fp us xs := by
  induction h with
  | nil => intro _; exact .nil
  | cons a _ ih =>
    intro hs
    simp only [hasShL, Bool.or_eq_false_iff] at hs
    exact .cons (a.lower hs.1 fun g hg => ho g (by simp [hg])) (ih (fun g hg => ho g (by simp [hg])) hs.2)

/-- What the call's end says, in the caller's words. -/
structure Back (w : World) (Vc : Nat → Nat) (Kc : Nat → Nat × Nat) (Oc : Nat → Option Loc) (bx' : Nat → Option Box) (w' : World) (V1 : Nat → Nat) (O1 : Nat → Option Loc) (fp : List Nat) : Prop where
  fr : Fr w (fun g => Oc g ≠ none) w'
  nx : Next Vc V1 w w'
  vr : ∀ g, 0 < V1 g → g < w'.heap.size
  vo : ∀ g, g < w.heap.size → Oc g = none → V1 g = Vc g
  nd : fp.Nodup
  own : ∀ g ∈ fp, O1 g = some (true, 0)
  bx : ∀ b x, bx' b = some x → ∃ fb arr T fz us, ((Kc b).1 :: fb).Nodup ∧ (∀ g ∈ (Kc b).1 :: fb, O1 g = some (false, b)) ∧ BoxOk V1 w' Kc b x fb arr T fz us
  rg : ∀ g l, O1 g = some l → (w.heap.size ≤ g ∨ Oc g ≠ none) ∧ g < w'.heap.size

section
variable {set : List (Nat × AV)} {kl tmp : List Nat} {mts : List (Nat × Nat)} {bx' : Nat → Option Box}

def v2 (O : Nat → Option Loc) (set : List (Nat × AV)) (kl : List Nat) (mts : List (Nat × Nat)) (V V1 : Nat → Nat) : Nat → Nat := fun g => if un O set kl mts g then V g else V1 g

theorem un_facts (R : RelG N w0 M V0 K V O s a w) (hOc : ∀ g, Oc g ≠ none → un O set kl mts g = false ∧ O g ≠ none) (B : Back w Vc Kc Oc bx' w' V1 O1 fp) {g : Nat} (h : un O set kl mts g = true) : g < w.heap.size ∧ Oc g = none ∧ O1 g = none := by
  have h1 : ∃ l, O g = some l := by
    unfold un at h
    cases hO : O g with
    | none => rw [hO] at h; cases h
    | some l => exact ⟨l, rfl⟩
  obtain ⟨l, hl⟩ := h1
  have h2 := (R.rg g l hl).2
  have h3 : Oc g = none := by
    cases ho : Oc g with
    | none => rfl
    | some l' => have := (hOc g (by rw [ho]; simp)).1; rw [h] at this; cases this
  refine ⟨h2, h3, ?_⟩
  cases ho : O1 g with
  | none => rfl
  | some l' => rcases (B.rg g l' ho).1 with h | h
               · omega
               · exact absurd h3 h

theorem v2_own (R : RelG N w0 M V0 K V O s a w) (hOc : ∀ g, Oc g ≠ none → un O set kl mts g = false ∧ O g ≠ none) (B : Back w Vc Kc Oc bx' w' V1 O1 fp) {g : Nat} (h : O1 g ≠ none) : v2 O set kl mts V V1 g = V1 g := by
  unfold v2
  split
  · rename_i hu; exact absurd (un_facts R hOc B hu).2.2 h
  · rfl

theorem v2_all (R : RelG N w0 M V0 K V O s a w) (F : Frz V K O s (tmp ++ kl) Vc) (hOc : ∀ g, Oc g ≠ none → un O set kl mts g = false ∧ O g ≠ none) (B : Back w Vc Kc Oc bx' w' V1 O1 fp) (h : tmp = []) : v2 O set kl mts V V1 = V1 := by
  funext g
  unfold v2
  split
  · rename_i hu
    obtain ⟨h1, h2, h3⟩ := un_facts R hOc B hu
    rw [B.vo g h1 h2, F.other g ?_]
    intro r hr hO
    subst h
    simp only [List.nil_append] at hr
    unfold un at hu
    rw [hO] at hu
    simp [hr] at hu
  · rfl

theorem v2_back (R : RelG N w0 M V0 K V O s a w) (F : Frz V K O s (tmp ++ kl) Vc) (hOc : ∀ g, Oc g ≠ none → un O set kl mts g = false ∧ O g ≠ none) (B : Back w Vc Kc Oc bx' w' V1 O1 fp) {m us cs fq} (h : Rep V1 w' K' m fq us cs) (ho : ∀ g ∈ fq, O1 g ≠ none) (hs : tmp = [] ∨ hasShL cs = false) : Rep (v2 O set kl mts V V1) w' K' m fq us cs := by
  rcases hs with hs | hs
  · rw [v2_all R F hOc B hs]; exact h
  · exact h.lower hs fun g hg => v2_own R hOc B (ho g hg)

theorem call_apply (R : RelG N w0 M V0 K V O s a w) (F : Frz V K O s (tmp ++ kl) Vc) (hset : ∀ t z, lookup t set = some z → z = share (s.t t)) (hmn : (mts.map (·.1)).Nodup)
    (hOc : ∀ g, Oc g ≠ none → un O set kl mts g = false ∧ O g ≠ none) (B : Back w Vc Kc Oc bx' w' V1 O1 fp) (e : Eff) (dst : Option Nat) (hd : ∀ d, dst = some d → d < N) (newl : Option Loc)
    (hK : ∀ b, b ∉ e.kl → K2 b = K b) (he1 : e.set = set) (he2 : ∀ b ∈ kl, b ∈ e.kl) (hput' : ∀ q ∈ mts, lookup q.2 e.put ≠ none)
    (hput : ∀ b x, lookup b e.put = some x → (newl = some (false, b) ∧ ∃ fb arr T fz us, fp = (K2 b).1 :: fb ∧ BoxOk (v2 O set kl mts V V1) w' K2 b x fb arr T fz us) ∨ (∃ i, (i, b) ∈ mts ∧ bx' (1000 + i) = some x ∧ K2 b = Kc (1000 + i) ∧ cleanL x.cs = true ∧ (tmp = [] ∨ hasShL x.cs = false)) ∨ (x.sz ≠ 0 ∧ x.cs = [] ∧ (K2 b).2 = 0))
    (hval : ∀ d, dst = some d → ∃ fv, (fv = [] ∨ fv = fp ∧ newl = some (true, d)) ∧ RepV (v2 O set kl mts V V1) w' K2 fv v e.val) :
    ∃ O2, RelG N w0 M V0 K2 (v2 O set kl mts V V1) O2 (e.apply dst s) (a.put dst v) w' := by
  have hVle : ∀ g, V g ≤ v2 O set kl mts V V1 g := by
    intro g; unfold v2; split
    · exact Nat.le_refl _
    · exact Nat.le_trans (F.le g) (B.nx.le g)
  have hn : Next V (v2 O set kl mts V V1) w w' := ⟨fun g off ho => B.nx.cell g off (Nat.lt_of_lt_of_le ho (F.le g)), hVle, B.nx.sz⟩
  refine ⟨fun g => if g ∈ fp then newl else match O1 g with | some (false, k) => (match bk mts k with | some b => some (false, b) | none => none) | _ => if un O set kl mts g then O g else none, R.apply e dst v hd hn hK ?_ ?_ ?_ ?_ ?_ ?_ ?_ ?_⟩
  · intro g l hl ht hb
    have hu : un O set kl mts g = true := by
      unfold un; rw [hl]
      obtain ⟨c, t⟩ := l
      cases c with
      | true =>
        have := (ht t rfl).2
        rw [he1, lookup_none] at this
        simpa using this
      | false =>
        obtain ⟨h1, h2⟩ := hb t rfl
        have h3 : t ∉ kl := fun h => h2 (he2 t h)
        have h4 : t ∉ mts.map (·.2) := fun h => by
          obtain ⟨q, hq, rfl⟩ := List.mem_map.1 h
          exact hput' q hq h1
        simp only [Bool.and_eq_true, Bool.not_eq_true', List.contains_eq_mem, decide_eq_false_iff_not]
        exact ⟨h3, h4⟩
    obtain ⟨h1, h2, h3⟩ := un_facts R hOc B hu
    refine ⟨B.fr.old g h1 (by simp [h2]), by simp [v2, hu], ?_⟩
    have hnf : g ∉ fp := fun h => by rw [B.own g h] at h3; cases h3
    simp [hnf, h3, hu, hl]
  · intro t x hne hl
    rw [he1] at hl
    obtain rfl := hset t x hl
    obtain ⟨fq, h1, h2, h3⟩ := R.tm t
    exact ⟨[], List.nodup_nil, by simp, h3.share.next hn (by simp) e.kl hK⟩
  · intro d hdd
    obtain ⟨fv, h1, h2⟩ := hval d hdd
    rcases h1 with rfl | ⟨rfl, h1⟩
    · exact ⟨[], List.nodup_nil, by simp, h2⟩
    · exact ⟨fv, B.nd, fun g hg => by simp [hg, h1], h2⟩
  · intro b x hl
    rcases hput b x hl with ⟨h1, fb, arr, T, fz, us, rfl, h2⟩ | ⟨i, h1, h2, h3, h4, h5⟩ | hv
    · exact .inr ⟨fb, arr, T, fz, us, B.nd, fun g hg => (if_pos hg).trans h1, h2⟩
    · obtain ⟨fb, arr, T, fz, us, q1, q2, q3⟩ := B.bx _ x h2
      have hnm : idsL x.cs = [] := by
        have : ∀ cs : List AV, cleanL cs = true → idsL cs = [] := by
          intro cs; induction cs with
          | nil => intro _; rfl
          | cons c cs ih =>
            intro h
            simp only [cleanL, List.all_cons, Bool.and_eq_true] at h
            have hc : ids c = [] := by cases c <;> simp_all [cleanC, ids]
            simp [idsL, hc, ih h.2]
        exact this _ h4
      refine .inr ⟨fb, arr, T, fz, us, by rw [h3]; exact q1, fun g hg => ?_, ?_⟩
      · rw [h3] at hg
        have hO := q2 g hg
        have hnf : g ∉ fp := fun h => by rw [B.own g h] at hO; cases hO
        refine (if_neg hnf).trans ?_
        rw [hO]
        simp [bk_of hmn h1]
      · refine ⟨by rw [h3]; exact q3.hp, q3.th, q3.pre, ?_, ?_, q3.var, by rw [h3]; exact q3.row⟩
        · exact (v2_back R F hOc B q3.rep (fun g hg => by rw [q2 g (by simp [hg])]; simp) h5).chK hnm K2
        · rw [h3, v2_own R hOc B (by rw [q2 _ List.mem_cons_self]; simp), q3.vis]
    · exact .inl hv
  · intro g l hl
    have key : ∀ l', O1 g = some l' → (w0.heap.size ≤ g ∨ M g) ∧ g < w'.heap.size := by
      intro l' h
      obtain ⟨h1, h2⟩ := B.rg g l' h
      refine ⟨?_, h2⟩
      rcases h1 with h1 | h1
      · exact .inl (Nat.le_trans R.fr.sz h1)
      · cases hO : O g with
        | none => exact absurd hO (hOc g h1).2
        | some l'' => exact (R.rg g l'' hO).1
    split at hl
    · rename_i hg; exact key _ (B.own g hg)
    · split at hl
      · rename_i k hk; exact key _ hk
      · split at hl
        · obtain ⟨h1, h2⟩ := R.rg g l hl
          exact ⟨h1, Nat.lt_of_lt_of_le h2 B.nx.sz⟩
        · cases hl
  · intro g hg
    unfold v2 at hg
    split at hg
    · exact Nat.lt_of_lt_of_le (R.vr g hg) B.nx.sz
    · exact B.vr g hg
  · refine ⟨B.fr.os.trans R.fr.os, B.fr.tape.trans R.fr.tape, B.fr.output.trans R.fr.output, Nat.le_trans R.fr.sz B.fr.sz, fun g h1 h2 => ?_⟩
    rw [B.fr.old g (Nat.lt_of_lt_of_le h1 R.fr.sz) ?_]; exact R.fr.old g h1 h2
    intro h
    cases hO : O g with
    | none => exact (hOc g h).2 hO
    | some l => rcases (R.rg g l hO).1 with h' | h'
                · omega
                · exact h2 h'
  · intro g h1 h2
    have hO : O g = none := by
      cases hO : O g with
      | none => rfl
      | some l => rcases (R.rg g l hO).1 with h' | h'
                  · omega
                  · exact absurd h' h2
    have hu : un O set kl mts g = false := by unfold un; rw [hO]
    have hoc : Oc g = none := by
      cases h : Oc g with
      | none => rfl
      | some l => exact absurd hO (hOc g (by rw [h]; simp)).2
    unfold v2
    rw [hu]
    simp only [Bool.false_eq_true, if_false]
    rw [B.vo g (Nat.lt_of_lt_of_le h1 R.fr.sz) hoc, F.other g (fun r _ e => by rw [hO] at e; cases e)]
end
end Evl
