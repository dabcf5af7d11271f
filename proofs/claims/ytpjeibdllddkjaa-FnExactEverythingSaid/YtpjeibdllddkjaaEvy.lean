/- Stores into rows, cuts of rows, appends: both machines do the same. No condition. -/
import Derived.Test.YtpjeibdllddkjaaEvx
namespace Evl
open Go

variable {P : Program} {H : Hints} {fid : FuncId} {N : Nat} {w0 w w' : World} {M : Nat → Prop} {V0 V V' : Nat → Nat} {K K' : Nat → Nat × Nat} {O O' : Nat → Option Loc} {s : S} {a : Act} {fp : List Nat} {v : Value}

/-- A store into a local row; what is stored may have been local rows. -/
theorem store_row (R : RelG N w0 M V0 K V O s a w) (o : Oper) (hdst : o.dst = none) {b off : Nat} {x : Box} (hb : s.b b = some x) (hst : x.st = true) (set : List (Nat × AV)) (hset : ∀ t z, lookup t set = some z → z = share (s.t t)) (ks : List Nat) (hbk : b ∉ ks) (F : Frz V K O s ks V') (hvr : ∀ g, 0 < V' g → g < w.heap.size) (vs : List Value) (cs : List AV) (hk : off + cs.length ≤ x.cs.length) (hk0 : 0 < cs.length) {fp : List Nat} (hn : fp.Nodup)
    (ho : ∀ g ∈ fp, (∃ t, O g = some (true, t) ∧ lookup t set ≠ none) ∨ ∃ r ∈ ks, O g = some (false, r)) (h : Rep V' w K false fp vs cs) (hz : x.sz ≠ 0) (rd : List Nat)
    (hr : ∀ arr T fz, w.heap[(K b).1]? = some (.cells arr T fz) → thawed arr fz → off + vs.length ≤ arr.size → (execOp a.eval o).run P w = .ok .skip (putRow w (K b).1 (splice arr off vs) T fz)) :
    Step1 P N w0 M V0 K o (({ val := .bad, set := set, kl := ks, put := [(b, { x with cs := x.cs.take off ++ cs ++ x.cs.drop (off + cs.length) })], rd := rd } : Eff).apply o.dst s) a w := by
  obtain ⟨fb, arr, T, fz, us, h1, h2, h3⟩ := R.bxr b x hb (.inr (.inl fun e => by rw [e] at hk; simp only [List.length_nil] at hk; omega))
  obtain ⟨u1, u2, u3, f1, f2, f3, rfl, rfl, l1, l2, r1, r2, r3⟩ := h3.rep.seg off cs.length hk
  have hxz : (x.sz == 0) = false := by simp [hz]
  rw [hxz] at r1 r3
  have hn1 := List.nodup_cons.1 h1
  obtain ⟨m1, m2, m3⟩ := nodup3 hn1.2
  obtain ⟨rest, harr⟩ := pre_split h3.pre
  have hvl : vs.length = cs.length := h.len
  have hsz : off + vs.length ≤ arr.size := by
    have := congrArg List.length harr
    simp at this; omega
  have hrun := hr arr T fz h3.hp h3.th hsz
  have hV0 : V (K b).1 = 0 := by rw [h3.vis, hst]; rfl
  let w' := putRow w (K b).1 (splice arr off vs) T fz
  have hOb : O (K b).1 = some (false, b) := h2 _ List.mem_cons_self
  have hVb : ∀ g, O g = some (false, b) → V' g = V g := fun g hg => F.other g fun r hr e => by
    rw [hg] at e; cases e; exact absurd hr hbk
  have hnx : Next V V' w w' := ⟨fun g off' hg => by
      have : g ≠ (K b).1 := fun e => by rw [e, hV0] at hg; omega
      simp only [World.cell?, w', putRow_other this], F.le, by simp [w', putRow_size]⟩
  have hoth : ∀ g, O g ≠ some (false, b) → w'.heap[g]? = w.heap[g]? := fun g hg => putRow_other (fun e => hg (by rw [e]; exact hOb)) _ _ _
  have hfO : ∀ g ∈ fp, O g ≠ some (false, b) := fun g hg => by
    rcases ho g hg with ⟨t, e, _⟩ | ⟨r, hr, e⟩ <;> rw [e] <;> intro e <;> cases e
    exact hbk hr
  have hsl := splice_toList u1 u2 (u3 ++ rest) vs arr off l1 (by omega) (by rw [harr]; simp)
  refine ⟨undef, w', K, V', fun g => if g ∈ fp then some (false, b) else O g, .inr ⟨hrun, rfl⟩, ?_, fun _ _ => rfl⟩
  rw [hdst]
  refine R.apply _ none _ (fun d' e => by cases e) hnx (fun _ _ => rfl) ?_ ?_ ?_ ?_ ?_ ?_ ?_ ?_
  · intro g l hl ht hb'
    have hgb : l ≠ (false, b) := by
      rintro rfl
      have := (hb' b rfl).1; simp [lookup] at this
    refine ⟨hoth g (by rw [hl]; intro e; cases e; exact hgb rfl), F.other g fun r hr e => ?_, ?_⟩
    · rw [hl] at e; cases e; exact absurd hr (hb' r rfl).2
    · have hg : g ∉ fp := by
        intro hg
        rcases ho g hg with ⟨t, e, h⟩ | ⟨r, hr, e⟩
        · rw [hl] at e; cases e; exact h (ht t rfl).2
        · rw [hl] at e; cases e; exact (hb' r rfl).2 hr
      rw [if_neg hg]; exact hl
  · intro t z hne hl
    obtain rfl := hset t z hl
    obtain ⟨fq, q1, q2, q3⟩ := R.tm t
    exact ⟨[], List.nodup_nil, by simp, q3.share.next hnx (by simp) _ (fun _ _ => rfl)⟩
  · intro d e; cases e
  · intro b' y hl
    simp only [lookup] at hl
    split at hl
    · rename_i e; subst e; cases hl
      refine .inr ⟨f1 ++ (fp ++ f3), splice arr off vs, T, fz, u1 ++ (vs ++ u3), ?_, ?_, ?_⟩
      · have n0 := List.nodup_append.1 m2
        refine List.nodup_cons.2 ⟨?_, List.nodup_append.2 ⟨n0.1, List.nodup_append.2 ⟨hn, n0.2.1, ?_⟩, ?_⟩⟩
        · intro hm
          simp only [List.mem_append] at hm
          rcases hm with hm | hm | hm
          · exact hn1.1 (by simp [hm])
          · exact hfO _ hm hOb
          · exact hn1.1 (by simp [hm])
        · intro x hx y hy e; subst e; exact hfO x hx (h2 x (by simp [hy]))
        · intro x hx y hy e; subst e
          rcases List.mem_append.1 hy with hy | hy
          · exact hfO x hy (h2 x (by simp [hx]))
          · exact n0.2.2 x hx x hy rfl
      · intro g hg
        show (if g ∈ fp then some (false, b) else O g) = some (false, b)
        by_cases hgf : g ∈ fp
        · simp [hgf]
        · rw [if_neg hgf]
          rcases List.mem_cons.1 hg with rfl | hg
          · exact hOb
          · simp only [List.mem_append] at hg
            rcases hg with hg | hg | hg
            · exact h2 g (by simp [hg])
            · exact absurd hg hgf
            · exact h2 g (by simp [hg])
      · have hlen : (x.cs.take off ++ cs ++ x.cs.drop (off + cs.length)).length = x.cs.length := by
          simp only [List.length_append, List.length_take, List.length_drop]; omega
        have hu : ∀ m : Bool, ∀ {f u c}, Rep V w K m f u c → (∀ g ∈ f, O g = some (false, b) ∧ g ≠ (K b).1) → Rep V' w' K m f u c := fun m f u c hr hf =>
          hr.mono hnx.cell hnx.le hnx.sz (fun g hg => ⟨putRow_other (hf g hg).2 _ _ _, hVb g (hf g hg).1⟩) (fun _ _ => rfl)
        refine ⟨putRow_same h3.hp _ _ _, ?_, ?_, ?_, ?_, ?_, ?_⟩
        · unfold thawed; rw [splice_size _ _ _ hsz]; exact h3.th
        · intro j v hj
          rw [← Array.getElem?_toList, hsl]
          have : u1 ++ (vs ++ (u3 ++ rest)) = (u1 ++ (vs ++ u3)) ++ rest := by simp
          rw [this, List.getElem?_append_left (by exact (List.getElem?_eq_some_iff.1 hj).1)]; exact hj
        · show Rep _ _ _ (x.sz == 0) _ _ _
          rw [hxz]
          have hmid : Rep V' w' K false fp vs cs := h.mono (fun g off' hg => by
            have : g ≠ (K b).1 := fun e => by rw [e, hVb _ hOb, hV0] at hg; omega
            simp only [World.cell?, w', putRow_other this]) (fun _ => Nat.le_refl _) hnx.sz (fun g hg => ⟨putRow_other (fun e => hfO g hg (by rw [e]; exact hOb)) _ _ _, rfl⟩) (fun _ _ => rfl)
          have := (hu _ r1 (fun g hg => ⟨h2 g (by simp [hg]), fun e => hn1.1 (by rw [← e]; simp [hg])⟩)).app (hmid.app (hu _ r3 (fun g hg => ⟨h2 g (by simp [hg]), fun e => hn1.1 (by rw [← e]; simp [hg])⟩)))
          simpa [List.append_assoc] using this
        · rw [hVb _ hOb, h3.vis]; simp only [hst, if_true]
        · intro hz'; exact absurd hz' hz
        · intro hz
          obtain ⟨cap, hcap, this⟩ := h3.row hz
          refine ⟨cap, hcap, by rw [splice_size _ _ _ hsz]; exact this.1, ?_, ?_⟩
          · rw [splice_size _ _ _ hsz]; have := this.2.1; simp at this ⊢; omega
          · have h5 := this.2.2
            have e5 : (u1 ++ (vs ++ u3)).length = (u1 ++ (u2 ++ u3)).length := by simp; omega
            rw [e5]; exact h5
    · cases hl
  · intro g l hl
    split at hl
    · rename_i hg
      rcases ho g hg with ⟨t, e, _⟩ | ⟨r, _, e⟩
      · have := R.rg g _ e; exact ⟨this.1, by simp [w', putRow_size]; exact this.2⟩
      · have := R.rg g _ e; exact ⟨this.1, by simp [w', putRow_size]; exact this.2⟩
    · have := R.rg g _ hl; exact ⟨this.1, by simp [w', putRow_size]; exact this.2⟩
  · intro g hg; simp only [w', putRow_size]; exact hvr g hg
  · refine ⟨R.fr.os, R.fr.tape, R.fr.output, by simp only [w', putRow_size]; exact R.fr.sz, fun g hg hm => ?_⟩
    rw [hoth g ?_]; exact R.fr.old g hg hm
    intro e
    rcases (R.rg _ _ e).1 with h | h
    · omega
    · exact hm h
  · intro g hg hm
    refine F.other g fun r hr e => ?_
    rcases (R.rg _ _ e).1 with h | h
    · omega
    · exact absurd h hm

theorem sound_store (R : RelG N w0 M V0 K V O s a w) (o : Oper) (hd : ∀ d, o.dst = some d → d < N) {e : Eff} (h : opE P H fid o s = some e) {t x xo} (hop : o.op = .store t x xo) :
    Step1 P N w0 M V0 K o (e.apply o.dst s) a w := by
  simp only [opE, hop, Option.ite_none_right_eq_some] at h
  obtain ⟨hdst, h⟩ := h
  unfold storeE at h
  split at h
  · rename_i b off k cs hx hs hc
    split at h
    · rename_i bx hb
      split at h
      · rename_i hh
        obtain ⟨hst, hl, hoff, hk0⟩ := hh
        split at h
        · rename_i hz
          cases h
          exact sound_store0 R o hop hdst hx hs hc hb hst hl hoff hz
        · rename_i hz
          split at h
          · rename_i ys ks hf
            simp only [Option.ite_none_left_eq_some, Option.some.injEq] at h
            obtain ⟨hbk, rfl⟩ := h
            obtain ⟨f1, _, _, _, h1⟩ := R.ev x
            rw [hx] at h1
            obtain ⟨e1, -⟩ := inv_ptr h1
            obtain ⟨fp, q1, q2, q3, q4⟩ := R.ev xo
            obtain ⟨us, hv, hr, -⟩ := cells_rep q4 hc
            have F := frz R ks
            have hno : ∀ g ∈ fp, ∀ r, O g ≠ some (false, r) := fun g hg r e => by
              cases xo with
              | tmp t => rw [q2 t rfl g hg] at e; cases e
              | _ => rw [q3 (by intro t e; cases e)] at hg; cases hg
            obtain ⟨fq, g1, g2, g3⟩ := freeze_rep R _ F.le ks F.other F.row cs ys us fp ks hf hr (fun _ h => h) q1 (fun g hg r _ e => absurd e (hno g hg r)) (fun g hg r _ => hno g hg r)
            have hyl : ys.length = k := by rw [← g1.len, hr.len, hl]
            subst hyl
            refine store_row (P := P) R o hdst hb hst (given xo (s.ev xo)) (fun t z hl => (lookup_given hl).2.1) ks hbk F (vfz_vr R ks) us ys hoff hk0 g2 ?_ g1 hz _ ?_
            · intro g hg
              rcases g3 g hg with h | h
              · by_cases hown : hasOwn (s.ev xo) = true
                · cases xo with
                  | tmp t => exact .inl ⟨t, q2 t rfl g h, by simp [given, hown, lookup]⟩
                  | _ => rw [q3 (by intro t e; cases e)] at h; cases h
                · rw [ownless_v q4 (by simpa using hown)] at h; cases h
              · exact .inr h
            · intro arr T fz hg ht hsz
              have := run_storeVar (P := P) (w := w) (t := t) (g := (K b).1) (o := off) hs (a.eval xo) us hv g1.len hg ht hr.oc hsz
              simp [execOp, hop, e1, Instr.storeAt, Instr.sureAddr, this]
          · cases h
      · cases h
    · cases h
  · cases h
end Evl
