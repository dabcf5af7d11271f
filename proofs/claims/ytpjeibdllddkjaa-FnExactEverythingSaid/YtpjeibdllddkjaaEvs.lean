/- Arguments of a call. No condition. -/
import Derived.Test.YtpjeibdllddkjaaEvr
namespace Evl
open Go

variable {P : Program} {H : Hints} {fid : FuncId} {N : Nat} {w0 w w' : World} {M : Nat → Prop} {V0 V V' Vc : Nat → Nat} {K K' Kc : Nat → Nat × Nat} {O O' : Nat → Option Loc} {s : S} {a : Act} {fp : List Nat} {v : Value} {ks : List Nat}

theorem roCell_rep (R : RelG N w0 M V0 K V O s a w) (F : Frz V K O s ks Vc) {u : Value} {c y : AV} (h : Rep V w K true fp [u] [c]) (hfp : ∀ g ∈ fp, Vc g = V g) (hy : roCell s.b c = some y) (hk : ∀ k ∈ ids c, k ∈ ks) : Rep Vc w Kc false [] [u] [y] := by
  cases h with
  | lit hp h => cases h; cases hy; exact .lit hp .nil
  | nl h => cases h; cases hy; exact .nl .nil
  | ns h => cases h; cases hy; simp only [share]; exact .ns .nil
  | on h => cases h; cases hy; simp only [share]; exact .ns .nil
  | sh ad vs h1 h2 h3 h6 h =>
    cases h; cases hy
    simp only [share]
    exact .sh ad vs h1 (h2.mono F.le (Nat.le_refl _)) h3 ((h6.vmono F.le (by simp)).chK (h6.noIds rfl) Kc) .nil
  | ow g T arr fz vs h1 h2 h3 h4 h5 h6 h7 h8 h9 h =>
    cases h; cases hy
    simp only [share]
    have h9' := (h9.share.vmono F.le (by simp)).chK (h9.share.noIds rfl) Kc
    refine .sh ⟨g, 0, none⟩ vs h1 (.inr ⟨rfl, ?_, lt_of_heap h2⟩) (fun j v hj => ?_) h9' .nil
    rotate_left
    · simp only [Nat.zero_add]; rw [cell_of_heap h2]; exact h7 j v hj
    · simp only [Nat.zero_add]; rw [hfp g (by simp), h8]; exact Nat.le_refl _
  | mv b h0 h =>
    cases h
    simp only [roCell] at hy
    split at hy
    · rename_i x hb
      simp only [Option.ite_none_right_eq_some, Option.some.injEq] at hy
      obtain ⟨⟨hz, hl⟩, rfl⟩ := hy
      simp only [Nat.zero_mul, List.take_zero]
      exact .ns .nil
    · cases hy
  | ms b h0 hn h =>
    cases h
    simp only [roCell] at hy
    split at hy
    · rename_i x hb
      simp only [Option.ite_none_right_eq_some, Option.some.injEq] at hy
      obtain ⟨⟨hz, hl⟩, rfl⟩ := hy
      obtain ⟨fb, arr, T, fz, us, q1, q2, q3⟩ := R.bxr b x hb (.inr (.inr (by omega)))
      have hxz : (x.sz == 0) = false := by simp [hz]
      have hrep := q3.rep
      rw [hxz] at hrep
      obtain ⟨u1, u2, u3, f1, f2, f3, rfl, rfl, l1, l2, r1, r2, r3⟩ := hrep.seg 0 _ (by simpa using hl)
      obtain rfl : u1 = [] := by simpa using l1
      simp only [List.drop_zero] at r2
      have r2' := (r2.share.vmono F.le (by simp)).chK (r2.share.noIds rfl) Kc
      refine .sh ⟨(K b).1, 0, none⟩ u2 hn (.inr ⟨rfl, ?_, lt_of_heap q3.hp⟩) (fun j v hj => ?_) r2' .nil
      rotate_left
      · simp only [Nat.zero_add]
        exact q3.cell (by rw [List.nil_append, List.getElem?_append_left (by have := (List.getElem?_eq_some_iff.1 hj).1; exact this)]; exact hj)
      · simp only [Nat.zero_add]; rw [F.row b (hk b (by simp [ids])) x hb (.inr (.inr (by omega))), l2]; exact hl
    · cases hy
  | bd u hu h => cases hy

theorem roCells_rep (R : RelG N w0 M V0 K V O s a w) (F : Frz V K O s ks Vc) : ∀ {cs ys : List AV} {us : List Value} {fp : List Nat} {m : Bool}, Rep V w K m fp us cs → (∀ g ∈ fp, Vc g = V g) → roCells s.b cs = some ys → (∀ k ∈ idsL cs, k ∈ ks) → Rep Vc w Kc false [] us ys := by
  intro cs
  induction cs with
  | nil => intro ys us fp m h _ hy _; cases h; cases hy; exact .nil
  | cons c cs ih =>
    intro ys us fp m h hfp hy hk
    simp only [roCells] at hy
    split at hy
    · rename_i y ys' h1 h2
      cases hy
      obtain ⟨f1, f2, u1, u2, rfl, rfl, r1, r2⟩ := Rep.split [c] (cs₂ := cs) (by simpa using h)
      obtain ⟨u, rfl⟩ : ∃ u, u1 = [u] := by
        have := r1.len
        match u1, this with
        | [u], _ => exact ⟨u, rfl⟩
      have a1 := roCell_rep (Kc := Kc) R F (r1.up true fun _ => rfl) (fun g hg => hfp g (by simp [hg])) h1 (fun k hk' => hk k (by simp [idsL, hk']))
      have a2 := ih r2 (fun g hg => hfp g (by simp [hg])) h2 (fun k hk' => hk k (by simp [idsL, hk']))
      exact a1.app a2
    · cases hy

theorem roPtr_rep (R : RelG N w0 M V0 K V O s a w) (F : Frz V K O s ks Vc) {x y : AV} (h : RepP V w K v x) (hy : roPtr s.b x = some y) (hk : ∀ k ∈ ids x, k ∈ ks) (hk2 : ∀ b off, x = .ptr b off → ∀ z, s.b b = some z → ∀ k ∈ idsL z.cs, k ∈ ks) : RepP Vc w Kc v y := by
  cases h with
  | ptr b off =>
    simp only [roPtr] at hy
    split at hy
    · rename_i z hb
      simp only [Option.ite_none_right_eq_some, Option.map_eq_some_iff] at hy
      obtain ⟨hl, ds, hd, rfl⟩ := hy
      obtain ⟨fb, arr, T, fz, us, q1, q2, q3⟩ := R.bxr b z hb (.inr (.inl fun e => by rw [e] at hl; simp at hl))
      have hfb : ∀ g ∈ fb, Vc g = V g := fun g hg => F.other g fun r hr e => by
        rw [q2 g (by simp [hg])] at e; cases e
        intro e; exact (List.nodup_cons.1 q1).1 (by rw [← e]; exact hg)
      obtain ⟨u1, u2, u3, f1, f2, f3, rfl, rfl, l1, l2, r1, r2, r3⟩ := q3.rep.seg off (z.cs.length - off) (by omega)
      have e1 : (z.cs.drop off).take (z.cs.length - off) = z.cs.drop off := List.take_of_length_le (by simp)
      rw [e1] at r2
      have hmem : ∀ k ∈ idsL (z.cs.drop off), k ∈ ks := by
        intro k hkk
        refine hk2 b off rfl z hb k ?_
        have : ∀ (n : Nat) (l : List AV), ∀ k ∈ idsL (l.drop n), k ∈ idsL l := by
          intro n; induction n with
          | zero => intro l k h; simpa using h
          | succ n ih => intro l k h; cases l with
            | nil => simpa using h
            | cons c l => simp only [List.drop_succ_cons] at h; simp only [idsL, List.mem_append]; exact .inr (ih l k h)
        exact this off z.cs k hkk
      have hrep := roCells_rep (Kc := Kc) R F r2 (fun g hg => hfb g (by simp [hg])) hd hmem
      have hV := F.row b (hk b (by simp [ids])) z hb (.inr (.inl fun e => by rw [e] at hl; simp at hl))
      refine .cptr ⟨(K b).1, off, none⟩ u2 rfl (fun j v hj => ?_) ?_ (lt_of_heap q3.hp) hrep
      · show w.cell? ⟨(K b).1, off + j, none⟩ = some v
        exact q3.cell (by rw [List.getElem?_append_right (by omega), List.getElem?_append_left (by have := (List.getElem?_eq_some_iff.1 hj).1; omega)]; rw [← hj]; congr 1; omega)
      · simp only [hV, l2]; omega
    · cases hy
  | cptr ad vs h1 h2 h3 h4 h5 =>
    cases hy
    exact .cptr ad vs h1 h2 (Nat.le_trans h3 (F.le _)) h4 ((h5.vmono F.le (by simp)).chK (h5.noIds rfl) Kc)
  | bad v => cases hy

theorem roCaps_rep (R : RelG N w0 M V0 K V O s a w) (F : Frz V K O s ks Vc) {us : List Value} {xs : List AV} (h : RepPs V w K us xs) : ∀ {ys}, roCaps s.b xs = some ys → (∀ k ∈ idsL xs, k ∈ ks) → (∀ k ∈ xs.flatMap (inside s.b), k ∈ ks) → RepPs Vc w Kc us ys := by
  induction h with
  | nil => intro ys hy _ _; cases hy; exact .nil
  | cons hp _ ih =>
    intro ys hy hk hk2
    simp only [roCaps] at hy
    split at hy
    · rename_i y ys' h1 h2
      cases hy
      refine .cons (roPtr_rep (Kc := Kc) R F hp h1 (fun k hk' => hk k (by simp [idsL, hk'])) ?_) (ih h2 (fun k hk' => hk k (by simp [idsL, hk'])) (fun k hk' => hk2 k (by simp only [List.flatMap_cons, List.mem_append]; exact .inr hk')))
      rintro b off rfl z hz k hk'
      exact hk2 k (by simp only [List.flatMap_cons, List.mem_append, inside, hz]; exact .inl hk')
    · cases hy

theorem ro_rep (R : RelG N w0 M V0 K V O s a w) (F : Frz V K O s ks Vc) {x y : AV} (h : RepV V w K fp v x) (hfp : ∀ g ∈ fp, Vc g = V g) (hy : ro s.b x = some y) (hk : ∀ k ∈ leans s.b x, k ∈ ks) : RepV Vc w Kc [] v y := by
  have hk1 : ∀ k ∈ ids x, k ∈ ks := fun k hk' => hk k (by simp [leans, hk'])
  cases x with
  | lit u =>
    simp only [ro, roCell] at hy; cases hy
    obtain ⟨rfl, rfl, hp⟩ := inv_lit h
    exact .lit hp
  | nil =>
    simp only [ro, roCell] at hy; cases hy
    obtain ⟨rfl, rfl⟩ := inv_nil h
    exact .u (.one (.nl .nil))
  | sl o z n cs =>
    simp only [ro] at hy
    exact .u (.one ((roCell_rep (Kc := Kc) R F (inv_one h (.inl ⟨_, _, _, _, rfl⟩)) hfp hy hk1).up true fun e => by cases e))
  | msl b n =>
    simp only [ro] at hy
    exact .u (.one ((roCell_rep (Kc := Kc) R F (inv_one h (.inr ⟨_, _, rfl⟩)) hfp hy hk1).up true fun e => by cases e))
  | agg cs =>
    simp only [ro, Option.map_eq_some_iff] at hy
    obtain ⟨ds, hd, rfl⟩ := hy
    obtain ⟨us, rfl, hr⟩ := inv_agg h
    exact .u (.agg ((roCells_rep (Kc := Kc) R F hr hfp hd (by simpa [ids] using hk1)).up true fun e => by cases e))
  | ptr b off =>
    simp only [ro] at hy
    cases h with
    | u h => cases h with
      | one h => cases h
      | p h =>
        refine .u (.p (roPtr_rep (Kc := Kc) R F h hy hk1 ?_))
        intro b' off' e z hz k hk'
        cases e
        exact hk k (by simp only [leans, inside, hz, List.mem_append]; exact .inr hk')
  | cptr cs =>
    simp only [ro] at hy; cases hy
    cases h with
    | u h => cases h with
      | one h => cases h
      | p h =>
        refine .u (.p (roPtr_rep (Kc := Kc) R F h (x := .cptr cs) rfl hk1 ?_))
        intro b off e; cases e
  | fnv f cs =>
    simp only [ro, Option.map_eq_some_iff] at hy
    obtain ⟨ds, hd, rfl⟩ := hy
    obtain ⟨us, rfl, -, hr⟩ := inv_fnv h
    exact .u (.fnv (roCaps_rep (Kc := Kc) R F hr hd (by simpa [ids] using hk1) (fun k hk' => hk k (by simp only [leans, List.mem_append]; exact .inr hk'))))
  | tup cs => cases hy
  | nbx cs => cases hy
  | bad => cases hy

end Evl
