/- Stores, structs built: both machines do the same. No condition. -/
import Derived.Test.YtpjeibdllddkjaaEvk
namespace Evl
open Go

variable {P : Program} {H : Hints} {fid : FuncId} {N : Nat} {w0 w w' : World} {M : Nat → Prop} {V0 V V' : Nat → Nat} {K K' : Nat → Nat × Nat} {O O' : Nat → Option Loc} {s : S} {a : Act} {fp : List Nat} {v : Value}

theorem splice_toList (u1 u2 u3 vs : List Value) (arr : Array Value) (off : Nat) (h1 : u1.length = off) (h2 : u2.length = vs.length) (ha : arr.toList = u1 ++ (u2 ++ u3)) : (splice arr off vs).toList = u1 ++ (vs ++ u3) := by
  simp only [splice, ha]
  rw [List.take_left' h1]
  have : (u1 ++ (u2 ++ u3)).drop (off + vs.length) = u3 := by
    rw [← List.append_assoc]; exact List.drop_left' (by simp [h1, h2])
  rw [this]; simp

theorem pre_split {us : List Value} {arr : Array Value} (h : ∀ (j : Nat) (v : Value), us[j]? = some v → arr[j]? = some v) : ∃ rest, arr.toList = us ++ rest := by
  refine ⟨arr.toList.drop us.length, ?_⟩
  have : us = arr.toList.take us.length := by
    apply List.ext_getElem?
    intro j
    rw [List.getElem?_take]
    split
    · rename_i hj
      have := h j us[j] (by simp [hj])
      simp only [Array.getElem?_toList, this]; simp [hj]
    · rename_i hj; exact List.getElem?_eq_none (by omega)
  conv => rhs; lhs; rw [this]
  exact (List.take_append_drop _ _).symm

/-- A store into a variable (or into a local row, cells without local rows). -/
theorem store_box (R : RelG N w0 M V0 K V O s a w) (o : Oper) (hdst : o.dst = none) {b off : Nat} {x : Box} (hb : s.b b = some x) (hst : x.st = true) (xo : Operand) (vs : List Value) (cs : List AV) (hk : off + cs.length ≤ x.cs.length) (hz0 : x.sz = 0) {fp : List Nat} (hn : fp.Nodup) (ho : ∀ t, xo = .tmp t → ∀ g ∈ fp, O g = some (true, t)) (he : (∀ t, xo ≠ .tmp t) → fp = [])
    (hw : hasOwn (s.ev xo) = false → fp = []) (h : Rep V w K (x.sz == 0) fp vs cs) (rd : List Nat)
    (hr : ∀ arr T fz, w.heap[(K b).1]? = some (.cells arr T fz) → thawed arr fz → off + vs.length ≤ arr.size → (execOp a.eval o).run P w = .ok .skip (putRow w (K b).1 (splice arr off vs) T fz)) :
    Step1 P N w0 M V0 K o (({ val := .bad, set := given xo (s.ev xo), put := [(b, { x with cs := x.cs.take off ++ cs ++ x.cs.drop (off + cs.length) })], rd := rd } : Eff).apply o.dst s) a w := by
  obtain ⟨fb, arr, T, fz, us, h1, h2, h3⟩ := R.bxr b x hb (.inl hz0)
  obtain ⟨u1, u2, u3, f1, f2, f3, rfl, rfl, l1, l2, r1, r2, r3⟩ := h3.rep.seg off cs.length hk
  have hn1 := List.nodup_cons.1 h1
  obtain ⟨m1, m2, m3⟩ := nodup3 hn1.2
  obtain ⟨rest, harr⟩ := pre_split h3.pre
  have hvl : vs.length = cs.length := h.len
  have hsz : off + vs.length ≤ arr.size := by
    have := congrArg List.length harr
    simp at this; omega
  have hrun := hr arr T fz h3.hp h3.th hsz
  have hV0 : V (K b).1 = 0 := by rw [h3.vis, hst]; rfl
  let w' := putRow w (K b).1 (splice arr off vs) T fz
  have hOb : O (K b).1 = some (false, b) := h2 _ List.mem_cons_self
  have hnx : Next V V w w' := ⟨fun g off' hg => by
      have : g ≠ (K b).1 := fun e => by rw [e, hV0] at hg; omega
      simp only [World.cell?, w', putRow_other this], fun _ => Nat.le_refl _, by simp [w', putRow_size]⟩
  have hoth : ∀ g, O g ≠ some (false, b) → w'.heap[g]? = w.heap[g]? := fun g hg => putRow_other (fun e => hg (by rw [e]; exact hOb)) _ _ _
  have hfO : ∀ g ∈ fp, O g ≠ some (false, b) := fun g hg => by
    cases xo with
    | tmp t => rw [ho t rfl g hg]; intro e; cases e
    | _ => rw [he (by intro t e; cases e)] at hg; cases hg
  have hsl := splice_toList u1 u2 (u3 ++ rest) vs arr off l1 (by omega) (by rw [harr]; simp)
  refine ⟨undef, w', K, V, fun g => if g ∈ fp then some (false, b) else O g, .inr ⟨hrun, rfl⟩, ?_, fun _ _ => rfl⟩
  rw [hdst]
  refine R.apply _ none _ (fun d' e => by cases e) hnx (fun _ _ => rfl) ?_ ?_ ?_ ?_ ?_ ?_ ?_ (fun _ _ _ => rfl)
  · intro g l hl ht hb'
    have hgb : l ≠ (false, b) := by
      rintro rfl
      have := (hb' b rfl).1; simp [lookup] at this
    refine ⟨hoth g (by rw [hl]; intro e; cases e; exact hgb rfl), rfl, ?_⟩
    have hg : g ∉ fp := by
      intro hg
      cases xo with
      | tmp t =>
        have e := ho t rfl g hg
        rw [hl] at e; cases e
        have := (ht t rfl).2
        simp only [given] at this
        split at this
        · simp [lookup] at this
        · rename_i hh; rw [hw (by simpa using hh)] at hg; cases hg
      | _ => rw [he (by intro t e; cases e)] at hg; cases hg
    rw [if_neg hg]; exact hl
  · intro t z hne hl
    cases xo with
    | tmp t' =>
      simp only [given] at hl
      split at hl
      · simp only [lookup] at hl
        split at hl
        · rename_i e; subst e; cases hl
          obtain ⟨fq, q1, q2, q3⟩ := R.tm t'
          exact ⟨[], List.nodup_nil, by simp, q3.share.next hnx (by simp) [] (fun _ _ => rfl)⟩
        · cases hl
      · simp [lookup] at hl
    | _ => simp [given, lookup] at hl
  · intro d e; cases e
  · intro b' y hl
    simp only [lookup] at hl
    split at hl
    · rename_i e; subst e; cases hl
      refine .inr ⟨f1 ++ (fp ++ f3), splice arr off vs, T, fz, u1 ++ (vs ++ u3), ?_, ?_, ?_⟩
      · have n0 := List.nodup_append.1 m2
        refine List.nodup_cons.2 ⟨?_, List.nodup_append.2 ⟨n0.1, List.nodup_append.2 ⟨hn, n0.2.1, ?_⟩, ?_⟩⟩
        · intro hm
          simp only [List.mem_append] at hm
          rcases hm with hm | hm | hm
          · exact hn1.1 (by simp [hm])
          · exact hfO _ hm hOb
          · exact hn1.1 (by simp [hm])
        · intro x hx y hy e; subst e; exact hfO x hx (h2 x (by simp [hy]))
        · intro x hx y hy e; subst e
          rcases List.mem_append.1 hy with hy | hy
          · exact hfO x hy (h2 x (by simp [hx]))
          · exact n0.2.2 x hx x hy rfl
      · intro g hg
        show (if g ∈ fp then some (false, b) else O g) = _
        by_cases hgf : g ∈ fp
        · simp [hgf]
        · rw [if_neg hgf]
          rcases List.mem_cons.1 hg with rfl | hg
          · exact hOb
          · simp only [List.mem_append] at hg
            rcases hg with hg | hg | hg
            · exact h2 g (by simp [hg])
            · exact absurd hg hgf
            · exact h2 g (by simp [hg])
      · have hlen : (x.cs.take off ++ cs ++ x.cs.drop (off + cs.length)).length = x.cs.length := by
          simp only [List.length_append, List.length_take, List.length_drop]; omega
        have hu : ∀ m : Bool, ∀ {f u c}, Rep V w K m f u c → (∀ g ∈ f, g ≠ (K b).1) → Rep V w' K m f u c := fun m f u c hr hf =>
          hr.mono hnx.cell hnx.le hnx.sz (fun g hg => ⟨putRow_other (hf g hg) _ _ _, rfl⟩) (fun _ _ => rfl)
        refine ⟨putRow_same h3.hp _ _ _, ?_, ?_, ?_, ?_, ?_, ?_⟩
        · unfold thawed; rw [splice_size _ _ _ hsz]; exact h3.th
        · intro j v hj
          rw [← Array.getElem?_toList, hsl]
          have : u1 ++ (vs ++ (u3 ++ rest)) = (u1 ++ (vs ++ u3)) ++ rest := by simp
          rw [this, List.getElem?_append_left (by exact (List.getElem?_eq_some_iff.1 hj).1)]; exact hj
        · have := (hu _ r1 (fun g hg e => hn1.1 (by rw [← e]; simp [hg]))).app ((hu _ h (fun g hg e => hfO g hg (by rw [e]; exact hOb))).app (hu _ r3 (fun g hg e => hn1.1 (by rw [← e]; simp [hg]))))
          simpa [List.append_assoc] using this
        · rw [h3.vis]; simp only [hst, if_true]
        · intro hz
          have := h3.var hz
          refine ⟨?_, hst⟩
          rw [splice_size _ _ _ hsz, this.1]; simp; omega
        · intro hz; exact absurd hz0 hz
    · cases hl
  · intro g l hl
    split at hl
    · rename_i hg
      cases xo with
      | tmp t => have := R.rg g _ (ho t rfl g hg); exact ⟨this.1, by simp [w', putRow_size]; exact this.2⟩
      | _ => rw [he (by intro t e; cases e)] at hg; cases hg
    · have := R.rg g l hl; exact ⟨this.1, by simp [w', putRow_size]; exact this.2⟩
  · intro g hg; simp [w', putRow_size]; exact R.vr g hg
  · refine ⟨R.fr.os, R.fr.tape, R.fr.output, by simp [w', putRow_size]; exact R.fr.sz, fun g hg hm => ?_⟩
    have : g ≠ (K b).1 := by
      rintro rfl
      rcases (R.rg _ _ hOb).1 with h | h
      · omega
      · exact hm h
    rw [putRow_other this]; exact R.fr.old g hg hm

end Evl
